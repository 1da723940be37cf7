/- The functions that are reached, as plain functions. Printed by a program. Conditions: none; definitions alone. -/
import Derived.Test.YtabinjbhgdjfnaaGreatNLmd
set_option linter.unusedVariables false
namespace Go.LM.Nw
noncomputable section
@[reducible] def tEntry : Ty := .st (.cons (.int .i64) (.cons .str .nil))
@[reducible] def tCore : Ty := .st (.cons (.int .i64) (.cons (.int .i64) (.cons (.int .i64) (.cons (.int .i64) (.cons (.int .i64) (.cons (.int .i64) (.cons (.int .i64) (.cons (.int .i64) (.cons (.sl tEntry) (.cons (.int .i64) (.cons (.sl (.int .i64)) (.cons (.sl (.int .i64)) (.cons (.sl (.int .i64)) .nil)))))))))))))
@[reducible] def tDirent : Ty := .st (.cons .str (.cons (.int .i64) .nil))
@[reducible] def tInode : Ty := .st (.cons (.int .i64) (.cons (.int .i64) (.cons (.int .i64) (.cons (.int .i64) (.cons (.int .i64) (.cons .str (.cons (.sl tDirent) (.cons (.int .i64) (.cons (.int .i64) .nil)))))))))
@[reducible] def tVol : Ty := .st (.cons (.int .i64) (.cons (.sl tInode) .nil))
@[reducible] def tNote : Ty := .st (.cons (.int .i64) (.cons (.int .i64) (.cons (.int .i64) (.cons (.int .i64) (.cons (.int .i64) .nil)))))
@[reducible] def tSession : Ty := .st (.cons (.int .i64) (.cons (.int .i64) (.cons (.int .i64) (.cons tEntry .nil))))
@[reducible] def tTenant : Ty := .st (.cons tVol (.cons (.int .i64) (.cons (.sl tNote) (.cons (.sl tSession) .nil))))
@[reducible] def tSnap : Ty := .st (.cons (.int .i64) (.cons (.int .i64) (.cons .str .nil)))
@[reducible] def tKept : Ty := .st (.cons (.int .i64) (.cons (.int .i64) (.cons tSnap (.cons (.sl tEntry) .nil))))
@[reducible] def tRec : Ty := .st (.cons (.int .i64) (.cons (.int .i64) (.cons (.int .i64) (.cons (.int .i64) (.cons .str .nil)))))
@[reducible] def tStore : Ty := .st (.cons tKept (.cons (.sl tRec) .nil))
@[reducible] def tCall : Ty := .st (.cons (.int .i64) (.cons .str (.cons .str (.cons (.int .i64) (.cons (.int .i64) (.cons .str .nil))))))
@[reducible] def tSlot : Ty := .st (.cons (.int .i64) (.cons (.int .i64) (.cons (.int .i64) (.cons tCall .nil))))
@[reducible] def tNode : Ty := .st (.cons (.int .i64) (.cons (.int .i64) (.cons .bool (.cons tCore (.cons (.sl tTenant) (.cons tSnap (.cons tStore (.cons (.sl tSlot) (.cons (.int .i64) (.cons (.int .i64) .nil))))))))))
@[reducible] def tMsg : Ty := .st (.cons (.int .i64) (.cons (.int .i64) (.cons (.int .i64) (.cons (.int .i64) (.cons (.int .i64) (.cons (.int .i64) (.cons (.int .i64) (.cons .bool (.cons (.sl tEntry) (.cons .str .nil))))))))))
@[reducible] def tMail : Ty := .st (.cons (.int .i64) (.cons (.int .i64) (.cons (.int .i64) (.cons .bool (.cons (.int .i64) (.cons .str .nil))))))
@[reducible] def tCrew : Ty := .st (.cons (.sl tNode) (.cons (.sl tMsg) (.cons (.sl tMail) (.cons (.sl tEntry) (.cons .bool .nil)))))
@[reducible] def tClient : Ty := .st (.cons (.int .i64) (.cons (.int .i64) (.cons (.int .i64) (.cons .bool (.cons tCall (.cons (.int .i64) .nil))))))
@[reducible] def tDone : Ty := .st (.cons (.int .i64) (.cons (.int .i64) (.cons (.int .i64) (.cons tCall (.cons (.int .i64) (.cons tEntry (.cons (.int .i64) (.cons (.int .i64) .nil))))))))
@[reducible] def tWorld : Ty := .st (.cons tCrew (.cons (.sl tClient) (.cons (.sl tDone) (.cons (.sl (.int .i64)) .nil))))
@[reducible] def tSetup : Ty := .st (.cons (.int .i64) (.cons (.int .i64) .nil))

/-! laws.eqIntS -/
abbrev laws_eqIntS_K4 : Type := (List Int) → (List Int) → Int → Option (Bool × Unit)
def laws_eqIntS_s (k4 : laws_eqIntS_K4) (a1 : List Int) (a2 : List Int) : Option (Bool × Unit) :=
  cond ((a1.length : Int) != (a2.length : Int))
    (some (false, ()))
    (k4 a1 a2 0)
def laws_eqIntS_b4 (k4 : laws_eqIntS_K4) (x1 : List Int) (x2 : List Int) (x3 : Int) : Option (Bool × Unit) :=
  cond (decide (x3 < (x1.length : Int)))
    ((ix x1.length x3).bind fun v1 =>
    (ix x2.length x3).bind fun v2 =>
    cond (gd (Ty.int .i64) x1 v1 != gd (Ty.int .i64) x2 v2)
      (some (false, ()))
      (k4 x1 x2 (w64 (x3 + 1))))
    (some (true, ()))
def laws_eqIntS_L4 : Nat → laws_eqIntS_K4
  | 0, _, _, _ => none
  | m + 1, x1, x2, x3 => laws_eqIntS_b4 (laws_eqIntS_L4 m) x1 x2 x3
def laws_eqIntS (x : (List Int) × (List Int) × Unit) : Option (Bool × Unit) := laws_eqIntS_s (laws_eqIntS_L4 BIG) x.1 x.2.1

/-! laws.eqEntry -/
def laws_eqEntry_s (a1 : tEntry.D) (a2 : tEntry.D) : Option (Bool × Unit) :=
  cond (a1.1 != a2.1)
    (some (false, ()))
    (cond (!(eqS a1.2.1 a2.2.1))
      (some (false, ()))
      (some (true, ())))
def laws_eqEntry (x : tEntry.D × tEntry.D × Unit) : Option (Bool × Unit) := laws_eqEntry_s x.1 x.2.1

/-! laws.eqEntryS -/
abbrev laws_eqEntryS_K4 : Type := (List tEntry.D) → (List tEntry.D) → Int → Option (Bool × Unit)
def laws_eqEntryS_s (k4 : laws_eqEntryS_K4) (a1 : List tEntry.D) (a2 : List tEntry.D) : Option (Bool × Unit) :=
  cond ((a1.length : Int) != (a2.length : Int))
    (some (false, ()))
    (k4 a1 a2 0)
def laws_eqEntryS_b4 (k4 : laws_eqEntryS_K4) (x1 : List tEntry.D) (x2 : List tEntry.D) (x3 : Int) : Option (Bool × Unit) :=
  cond (decide (x3 < (x1.length : Int)))
    ((ix x1.length x3).bind fun v1 =>
    (ix x2.length x3).bind fun v2 =>
    (laws_eqEntry (gd tEntry x1 v1, gd tEntry x2 v2, ())).bind fun v3 =>
    cond (!v3.1)
      (some (false, ()))
      (k4 x1 x2 (w64 (x3 + 1))))
    (some (true, ()))
def laws_eqEntryS_L4 : Nat → laws_eqEntryS_K4
  | 0, _, _, _ => none
  | m + 1, x1, x2, x3 => laws_eqEntryS_b4 (laws_eqEntryS_L4 m) x1 x2 x3
def laws_eqEntryS (x : (List tEntry.D) × (List tEntry.D) × Unit) : Option (Bool × Unit) := laws_eqEntryS_s (laws_eqEntryS_L4 BIG) x.1 x.2.1

/-! laws.eqCore -/
def laws_eqCore_s (a1 : tCore.D) (a2 : tCore.D) : Option (Bool × Unit) :=
  cond (a1.1 != a2.1)
    (some (false, ()))
    (cond (a1.2.1 != a2.2.1)
      (some (false, ()))
      (cond (a1.2.2.1 != a2.2.2.1)
        (some (false, ()))
        (cond (a1.2.2.2.1 != a2.2.2.2.1)
          (some (false, ()))
          (cond (a1.2.2.2.2.1 != a2.2.2.2.2.1)
            (some (false, ()))
            (cond (a1.2.2.2.2.2.1 != a2.2.2.2.2.2.1)
              (some (false, ()))
              (cond (a1.2.2.2.2.2.2.1 != a2.2.2.2.2.2.2.1)
                (some (false, ()))
                (cond (a1.2.2.2.2.2.2.2.1 != a2.2.2.2.2.2.2.2.1)
                  (some (false, ()))
                  ((laws_eqEntryS (a1.2.2.2.2.2.2.2.2.1, a2.2.2.2.2.2.2.2.2.1, ())).bind fun v1 =>
                  cond (!v1.1)
                    (some (false, ()))
                    (cond (a1.2.2.2.2.2.2.2.2.2.1 != a2.2.2.2.2.2.2.2.2.2.1)
                      (some (false, ()))
                      ((laws_eqIntS (a1.2.2.2.2.2.2.2.2.2.2.1, a2.2.2.2.2.2.2.2.2.2.2.1, ())).bind fun v2 =>
                      cond (!v2.1)
                        (some (false, ()))
                        ((laws_eqIntS (a1.2.2.2.2.2.2.2.2.2.2.2.1, a2.2.2.2.2.2.2.2.2.2.2.2.1, ())).bind fun v3 =>
                        cond (!v3.1)
                          (some (false, ()))
                          ((laws_eqIntS (a1.2.2.2.2.2.2.2.2.2.2.2.2.1, a2.2.2.2.2.2.2.2.2.2.2.2.2.1, ())).bind fun v4 =>
                          cond (!v4.1)
                            (some (false, ()))
                            (some (true, ()))))))))))))))
def laws_eqCore (x : tCore.D × tCore.D × Unit) : Option (Bool × Unit) := laws_eqCore_s x.1 x.2.1

/-! laws.eqDirent -/
def laws_eqDirent_s (a1 : tDirent.D) (a2 : tDirent.D) : Option (Bool × Unit) :=
  cond (!(eqS a1.1 a2.1))
    (some (false, ()))
    (cond (a1.2.1 != a2.2.1)
      (some (false, ()))
      (some (true, ())))
def laws_eqDirent (x : tDirent.D × tDirent.D × Unit) : Option (Bool × Unit) := laws_eqDirent_s x.1 x.2.1

/-! laws.eqDirentS -/
abbrev laws_eqDirentS_K4 : Type := (List tDirent.D) → (List tDirent.D) → Int → Option (Bool × Unit)
def laws_eqDirentS_s (k4 : laws_eqDirentS_K4) (a1 : List tDirent.D) (a2 : List tDirent.D) : Option (Bool × Unit) :=
  cond ((a1.length : Int) != (a2.length : Int))
    (some (false, ()))
    (k4 a1 a2 0)
def laws_eqDirentS_b4 (k4 : laws_eqDirentS_K4) (x1 : List tDirent.D) (x2 : List tDirent.D) (x3 : Int) : Option (Bool × Unit) :=
  cond (decide (x3 < (x1.length : Int)))
    ((ix x1.length x3).bind fun v1 =>
    (ix x2.length x3).bind fun v2 =>
    (laws_eqDirent (gd tDirent x1 v1, gd tDirent x2 v2, ())).bind fun v3 =>
    cond (!v3.1)
      (some (false, ()))
      (k4 x1 x2 (w64 (x3 + 1))))
    (some (true, ()))
def laws_eqDirentS_L4 : Nat → laws_eqDirentS_K4
  | 0, _, _, _ => none
  | m + 1, x1, x2, x3 => laws_eqDirentS_b4 (laws_eqDirentS_L4 m) x1 x2 x3
def laws_eqDirentS (x : (List tDirent.D) × (List tDirent.D) × Unit) : Option (Bool × Unit) := laws_eqDirentS_s (laws_eqDirentS_L4 BIG) x.1 x.2.1

/-! laws.eqInode -/
def laws_eqInode_s (a1 : tInode.D) (a2 : tInode.D) : Option (Bool × Unit) :=
  cond (a1.1 != a2.1)
    (some (false, ()))
    (cond (a1.2.1 != a2.2.1)
      (some (false, ()))
      (cond (a1.2.2.1 != a2.2.2.1)
        (some (false, ()))
        (cond (a1.2.2.2.1 != a2.2.2.2.1)
          (some (false, ()))
          (cond (a1.2.2.2.2.1 != a2.2.2.2.2.1)
            (some (false, ()))
            (cond (!(eqS a1.2.2.2.2.2.1 a2.2.2.2.2.2.1))
              (some (false, ()))
              ((laws_eqDirentS (a1.2.2.2.2.2.2.1, a2.2.2.2.2.2.2.1, ())).bind fun v1 =>
              cond (!v1.1)
                (some (false, ()))
                (cond (a1.2.2.2.2.2.2.2.1 != a2.2.2.2.2.2.2.2.1)
                  (some (false, ()))
                  (cond (a1.2.2.2.2.2.2.2.2.1 != a2.2.2.2.2.2.2.2.2.1)
                    (some (false, ()))
                    (some (true, ()))))))))))
def laws_eqInode (x : tInode.D × tInode.D × Unit) : Option (Bool × Unit) := laws_eqInode_s x.1 x.2.1

/-! laws.eqInodeS -/
abbrev laws_eqInodeS_K4 : Type := (List tInode.D) → (List tInode.D) → Int → Option (Bool × Unit)
def laws_eqInodeS_s (k4 : laws_eqInodeS_K4) (a1 : List tInode.D) (a2 : List tInode.D) : Option (Bool × Unit) :=
  cond ((a1.length : Int) != (a2.length : Int))
    (some (false, ()))
    (k4 a1 a2 0)
def laws_eqInodeS_b4 (k4 : laws_eqInodeS_K4) (x1 : List tInode.D) (x2 : List tInode.D) (x3 : Int) : Option (Bool × Unit) :=
  cond (decide (x3 < (x1.length : Int)))
    ((ix x1.length x3).bind fun v1 =>
    (ix x2.length x3).bind fun v2 =>
    (laws_eqInode (gd tInode x1 v1, gd tInode x2 v2, ())).bind fun v3 =>
    cond (!v3.1)
      (some (false, ()))
      (k4 x1 x2 (w64 (x3 + 1))))
    (some (true, ()))
def laws_eqInodeS_L4 : Nat → laws_eqInodeS_K4
  | 0, _, _, _ => none
  | m + 1, x1, x2, x3 => laws_eqInodeS_b4 (laws_eqInodeS_L4 m) x1 x2 x3
def laws_eqInodeS (x : (List tInode.D) × (List tInode.D) × Unit) : Option (Bool × Unit) := laws_eqInodeS_s (laws_eqInodeS_L4 BIG) x.1 x.2.1

/-! laws.eqVol -/
def laws_eqVol_s (a1 : tVol.D) (a2 : tVol.D) : Option (Bool × Unit) :=
  cond (a1.1 != a2.1)
    (some (false, ()))
    ((laws_eqInodeS (a1.2.1, a2.2.1, ())).bind fun v1 =>
    cond (!v1.1)
      (some (false, ()))
      (some (true, ())))
def laws_eqVol (x : tVol.D × tVol.D × Unit) : Option (Bool × Unit) := laws_eqVol_s x.1 x.2.1

/-! laws.eqNote -/
def laws_eqNote_s (a1 : tNote.D) (a2 : tNote.D) : Option (Bool × Unit) :=
  cond (a1.1 != a2.1)
    (some (false, ()))
    (cond (a1.2.1 != a2.2.1)
      (some (false, ()))
      (cond (a1.2.2.1 != a2.2.2.1)
        (some (false, ()))
        (cond (a1.2.2.2.1 != a2.2.2.2.1)
          (some (false, ()))
          (cond (a1.2.2.2.2.1 != a2.2.2.2.2.1)
            (some (false, ()))
            (some (true, ()))))))
def laws_eqNote (x : tNote.D × tNote.D × Unit) : Option (Bool × Unit) := laws_eqNote_s x.1 x.2.1

/-! laws.eqNoteS -/
abbrev laws_eqNoteS_K4 : Type := (List tNote.D) → (List tNote.D) → Int → Option (Bool × Unit)
def laws_eqNoteS_s (k4 : laws_eqNoteS_K4) (a1 : List tNote.D) (a2 : List tNote.D) : Option (Bool × Unit) :=
  cond ((a1.length : Int) != (a2.length : Int))
    (some (false, ()))
    (k4 a1 a2 0)
def laws_eqNoteS_b4 (k4 : laws_eqNoteS_K4) (x1 : List tNote.D) (x2 : List tNote.D) (x3 : Int) : Option (Bool × Unit) :=
  cond (decide (x3 < (x1.length : Int)))
    ((ix x1.length x3).bind fun v1 =>
    (ix x2.length x3).bind fun v2 =>
    (laws_eqNote (gd tNote x1 v1, gd tNote x2 v2, ())).bind fun v3 =>
    cond (!v3.1)
      (some (false, ()))
      (k4 x1 x2 (w64 (x3 + 1))))
    (some (true, ()))
def laws_eqNoteS_L4 : Nat → laws_eqNoteS_K4
  | 0, _, _, _ => none
  | m + 1, x1, x2, x3 => laws_eqNoteS_b4 (laws_eqNoteS_L4 m) x1 x2 x3
def laws_eqNoteS (x : (List tNote.D) × (List tNote.D) × Unit) : Option (Bool × Unit) := laws_eqNoteS_s (laws_eqNoteS_L4 BIG) x.1 x.2.1

/-! laws.eqResult -/
def laws_eqResult_s (a1 : tEntry.D) (a2 : tEntry.D) : Option (Bool × Unit) :=
  cond (a1.1 != a2.1)
    (some (false, ()))
    (cond (!(eqS a1.2.1 a2.2.1))
      (some (false, ()))
      (some (true, ())))
def laws_eqResult (x : tEntry.D × tEntry.D × Unit) : Option (Bool × Unit) := laws_eqResult_s x.1 x.2.1

/-! laws.eqSession -/
def laws_eqSession_s (a1 : tSession.D) (a2 : tSession.D) : Option (Bool × Unit) :=
  cond (a1.1 != a2.1)
    (some (false, ()))
    (cond (a1.2.1 != a2.2.1)
      (some (false, ()))
      (cond (a1.2.2.1 != a2.2.2.1)
        (some (false, ()))
        ((laws_eqResult (a1.2.2.2.1, a2.2.2.2.1, ())).bind fun v1 =>
        cond (!v1.1)
          (some (false, ()))
          (some (true, ())))))
def laws_eqSession (x : tSession.D × tSession.D × Unit) : Option (Bool × Unit) := laws_eqSession_s x.1 x.2.1

/-! laws.eqSessionS -/
abbrev laws_eqSessionS_K4 : Type := (List tSession.D) → (List tSession.D) → Int → Option (Bool × Unit)
def laws_eqSessionS_s (k4 : laws_eqSessionS_K4) (a1 : List tSession.D) (a2 : List tSession.D) : Option (Bool × Unit) :=
  cond ((a1.length : Int) != (a2.length : Int))
    (some (false, ()))
    (k4 a1 a2 0)
def laws_eqSessionS_b4 (k4 : laws_eqSessionS_K4) (x1 : List tSession.D) (x2 : List tSession.D) (x3 : Int) : Option (Bool × Unit) :=
  cond (decide (x3 < (x1.length : Int)))
    ((ix x1.length x3).bind fun v1 =>
    (ix x2.length x3).bind fun v2 =>
    (laws_eqSession (gd tSession x1 v1, gd tSession x2 v2, ())).bind fun v3 =>
    cond (!v3.1)
      (some (false, ()))
      (k4 x1 x2 (w64 (x3 + 1))))
    (some (true, ()))
def laws_eqSessionS_L4 : Nat → laws_eqSessionS_K4
  | 0, _, _, _ => none
  | m + 1, x1, x2, x3 => laws_eqSessionS_b4 (laws_eqSessionS_L4 m) x1 x2 x3
def laws_eqSessionS (x : (List tSession.D) × (List tSession.D) × Unit) : Option (Bool × Unit) := laws_eqSessionS_s (laws_eqSessionS_L4 BIG) x.1 x.2.1

/-! laws.eqTenant -/
def laws_eqTenant_s (a1 : tTenant.D) (a2 : tTenant.D) : Option (Bool × Unit) :=
  (laws_eqVol (a1.1, a2.1, ())).bind fun v1 =>
  cond (!v1.1)
    (some (false, ()))
    (cond (a1.2.1 != a2.2.1)
      (some (false, ()))
      ((laws_eqNoteS (a1.2.2.1, a2.2.2.1, ())).bind fun v2 =>
      cond (!v2.1)
        (some (false, ()))
        ((laws_eqSessionS (a1.2.2.2.1, a2.2.2.2.1, ())).bind fun v3 =>
        cond (!v3.1)
          (some (false, ()))
          (some (true, ())))))
def laws_eqTenant (x : tTenant.D × tTenant.D × Unit) : Option (Bool × Unit) := laws_eqTenant_s x.1 x.2.1

/-! laws.eqTenantS -/
abbrev laws_eqTenantS_K4 : Type := (List tTenant.D) → (List tTenant.D) → Int → Option (Bool × Unit)
def laws_eqTenantS_s (k4 : laws_eqTenantS_K4) (a1 : List tTenant.D) (a2 : List tTenant.D) : Option (Bool × Unit) :=
  cond ((a1.length : Int) != (a2.length : Int))
    (some (false, ()))
    (k4 a1 a2 0)
def laws_eqTenantS_b4 (k4 : laws_eqTenantS_K4) (x1 : List tTenant.D) (x2 : List tTenant.D) (x3 : Int) : Option (Bool × Unit) :=
  cond (decide (x3 < (x1.length : Int)))
    ((ix x1.length x3).bind fun v1 =>
    (ix x2.length x3).bind fun v2 =>
    (laws_eqTenant (gd tTenant x1 v1, gd tTenant x2 v2, ())).bind fun v3 =>
    cond (!v3.1)
      (some (false, ()))
      (k4 x1 x2 (w64 (x3 + 1))))
    (some (true, ()))
def laws_eqTenantS_L4 : Nat → laws_eqTenantS_K4
  | 0, _, _, _ => none
  | m + 1, x1, x2, x3 => laws_eqTenantS_b4 (laws_eqTenantS_L4 m) x1 x2 x3
def laws_eqTenantS (x : (List tTenant.D) × (List tTenant.D) × Unit) : Option (Bool × Unit) := laws_eqTenantS_s (laws_eqTenantS_L4 BIG) x.1 x.2.1

/-! laws.eqSnap -/
def laws_eqSnap_s (a1 : tSnap.D) (a2 : tSnap.D) : Option (Bool × Unit) :=
  cond (a1.1 != a2.1)
    (some (false, ()))
    (cond (a1.2.1 != a2.2.1)
      (some (false, ()))
      (cond (!(eqS a1.2.2.1 a2.2.2.1))
        (some (false, ()))
        (some (true, ()))))
def laws_eqSnap (x : tSnap.D × tSnap.D × Unit) : Option (Bool × Unit) := laws_eqSnap_s x.1 x.2.1

/-! laws.eqKept -/
def laws_eqKept_s (a1 : tKept.D) (a2 : tKept.D) : Option (Bool × Unit) :=
  cond (a1.1 != a2.1)
    (some (false, ()))
    (cond (a1.2.1 != a2.2.1)
      (some (false, ()))
      ((laws_eqSnap (a1.2.2.1, a2.2.2.1, ())).bind fun v1 =>
      cond (!v1.1)
        (some (false, ()))
        ((laws_eqEntryS (a1.2.2.2.1, a2.2.2.2.1, ())).bind fun v2 =>
        cond (!v2.1)
          (some (false, ()))
          (some (true, ())))))
def laws_eqKept (x : tKept.D × tKept.D × Unit) : Option (Bool × Unit) := laws_eqKept_s x.1 x.2.1

/-! laws.eqRec -/
def laws_eqRec_s (a1 : tRec.D) (a2 : tRec.D) : Option (Bool × Unit) :=
  cond (a1.1 != a2.1)
    (some (false, ()))
    (cond (a1.2.1 != a2.2.1)
      (some (false, ()))
      (cond (a1.2.2.1 != a2.2.2.1)
        (some (false, ()))
        (cond (a1.2.2.2.1 != a2.2.2.2.1)
          (some (false, ()))
          (cond (!(eqS a1.2.2.2.2.1 a2.2.2.2.2.1))
            (some (false, ()))
            (some (true, ()))))))
def laws_eqRec (x : tRec.D × tRec.D × Unit) : Option (Bool × Unit) := laws_eqRec_s x.1 x.2.1

/-! laws.eqRecS -/
abbrev laws_eqRecS_K4 : Type := (List tRec.D) → (List tRec.D) → Int → Option (Bool × Unit)
def laws_eqRecS_s (k4 : laws_eqRecS_K4) (a1 : List tRec.D) (a2 : List tRec.D) : Option (Bool × Unit) :=
  cond ((a1.length : Int) != (a2.length : Int))
    (some (false, ()))
    (k4 a1 a2 0)
def laws_eqRecS_b4 (k4 : laws_eqRecS_K4) (x1 : List tRec.D) (x2 : List tRec.D) (x3 : Int) : Option (Bool × Unit) :=
  cond (decide (x3 < (x1.length : Int)))
    ((ix x1.length x3).bind fun v1 =>
    (ix x2.length x3).bind fun v2 =>
    (laws_eqRec (gd tRec x1 v1, gd tRec x2 v2, ())).bind fun v3 =>
    cond (!v3.1)
      (some (false, ()))
      (k4 x1 x2 (w64 (x3 + 1))))
    (some (true, ()))
def laws_eqRecS_L4 : Nat → laws_eqRecS_K4
  | 0, _, _, _ => none
  | m + 1, x1, x2, x3 => laws_eqRecS_b4 (laws_eqRecS_L4 m) x1 x2 x3
def laws_eqRecS (x : (List tRec.D) × (List tRec.D) × Unit) : Option (Bool × Unit) := laws_eqRecS_s (laws_eqRecS_L4 BIG) x.1 x.2.1

/-! laws.eqStore -/
def laws_eqStore_s (a1 : tStore.D) (a2 : tStore.D) : Option (Bool × Unit) :=
  (laws_eqKept (a1.1, a2.1, ())).bind fun v1 =>
  cond (!v1.1)
    (some (false, ()))
    ((laws_eqRecS (a1.2.1, a2.2.1, ())).bind fun v2 =>
    cond (!v2.1)
      (some (false, ()))
      (some (true, ())))
def laws_eqStore (x : tStore.D × tStore.D × Unit) : Option (Bool × Unit) := laws_eqStore_s x.1 x.2.1

/-! laws.eqCall -/
def laws_eqCall_s (a1 : tCall.D) (a2 : tCall.D) : Option (Bool × Unit) :=
  cond (a1.1 != a2.1)
    (some (false, ()))
    (cond (!(eqS a1.2.1 a2.2.1))
      (some (false, ()))
      (cond (!(eqS a1.2.2.1 a2.2.2.1))
        (some (false, ()))
        (cond (a1.2.2.2.1 != a2.2.2.2.1)
          (some (false, ()))
          (cond (a1.2.2.2.2.1 != a2.2.2.2.2.1)
            (some (false, ()))
            (cond (!(eqS a1.2.2.2.2.2.1 a2.2.2.2.2.2.1))
              (some (false, ()))
              (some (true, ())))))))
def laws_eqCall (x : tCall.D × tCall.D × Unit) : Option (Bool × Unit) := laws_eqCall_s x.1 x.2.1

/-! laws.eqSlot -/
def laws_eqSlot_s (a1 : tSlot.D) (a2 : tSlot.D) : Option (Bool × Unit) :=
  cond (a1.1 != a2.1)
    (some (false, ()))
    (cond (a1.2.1 != a2.2.1)
      (some (false, ()))
      (cond (a1.2.2.1 != a2.2.2.1)
        (some (false, ()))
        ((laws_eqCall (a1.2.2.2.1, a2.2.2.2.1, ())).bind fun v1 =>
        cond (!v1.1)
          (some (false, ()))
          (some (true, ())))))
def laws_eqSlot (x : tSlot.D × tSlot.D × Unit) : Option (Bool × Unit) := laws_eqSlot_s x.1 x.2.1

/-! laws.eqSlotS -/
abbrev laws_eqSlotS_K4 : Type := (List tSlot.D) → (List tSlot.D) → Int → Option (Bool × Unit)
def laws_eqSlotS_s (k4 : laws_eqSlotS_K4) (a1 : List tSlot.D) (a2 : List tSlot.D) : Option (Bool × Unit) :=
  cond ((a1.length : Int) != (a2.length : Int))
    (some (false, ()))
    (k4 a1 a2 0)
def laws_eqSlotS_b4 (k4 : laws_eqSlotS_K4) (x1 : List tSlot.D) (x2 : List tSlot.D) (x3 : Int) : Option (Bool × Unit) :=
  cond (decide (x3 < (x1.length : Int)))
    ((ix x1.length x3).bind fun v1 =>
    (ix x2.length x3).bind fun v2 =>
    (laws_eqSlot (gd tSlot x1 v1, gd tSlot x2 v2, ())).bind fun v3 =>
    cond (!v3.1)
      (some (false, ()))
      (k4 x1 x2 (w64 (x3 + 1))))
    (some (true, ()))
def laws_eqSlotS_L4 : Nat → laws_eqSlotS_K4
  | 0, _, _, _ => none
  | m + 1, x1, x2, x3 => laws_eqSlotS_b4 (laws_eqSlotS_L4 m) x1 x2 x3
def laws_eqSlotS (x : (List tSlot.D) × (List tSlot.D) × Unit) : Option (Bool × Unit) := laws_eqSlotS_s (laws_eqSlotS_L4 BIG) x.1 x.2.1

/-! laws.eqNode -/
def laws_eqNode_s (a1 : tNode.D) (a2 : tNode.D) : Option (Bool × Unit) :=
  cond (a1.1 != a2.1)
    (some (false, ()))
    (cond (a1.2.1 != a2.2.1)
      (some (false, ()))
      (cond (!(a1.2.2.1 == a2.2.2.1))
        (some (false, ()))
        ((laws_eqCore (a1.2.2.2.1, a2.2.2.2.1, ())).bind fun v1 =>
        cond (!v1.1)
          (some (false, ()))
          ((laws_eqTenantS (a1.2.2.2.2.1, a2.2.2.2.2.1, ())).bind fun v2 =>
          cond (!v2.1)
            (some (false, ()))
            ((laws_eqSnap (a1.2.2.2.2.2.1, a2.2.2.2.2.2.1, ())).bind fun v3 =>
            cond (!v3.1)
              (some (false, ()))
              ((laws_eqStore (a1.2.2.2.2.2.2.1, a2.2.2.2.2.2.2.1, ())).bind fun v4 =>
              cond (!v4.1)
                (some (false, ()))
                ((laws_eqSlotS (a1.2.2.2.2.2.2.2.1, a2.2.2.2.2.2.2.2.1, ())).bind fun v5 =>
                cond (!v5.1)
                  (some (false, ()))
                  (cond (a1.2.2.2.2.2.2.2.2.1 != a2.2.2.2.2.2.2.2.2.1)
                    (some (false, ()))
                    (cond (a1.2.2.2.2.2.2.2.2.2.1 != a2.2.2.2.2.2.2.2.2.2.1)
                      (some (false, ()))
                      (some (true, ())))))))))))
def laws_eqNode (x : tNode.D × tNode.D × Unit) : Option (Bool × Unit) := laws_eqNode_s x.1 x.2.1

/-! laws.eqNodeS -/
abbrev laws_eqNodeS_K4 : Type := (List tNode.D) → (List tNode.D) → Int → Option (Bool × Unit)
def laws_eqNodeS_s (k4 : laws_eqNodeS_K4) (a1 : List tNode.D) (a2 : List tNode.D) : Option (Bool × Unit) :=
  cond ((a1.length : Int) != (a2.length : Int))
    (some (false, ()))
    (k4 a1 a2 0)
def laws_eqNodeS_b4 (k4 : laws_eqNodeS_K4) (x1 : List tNode.D) (x2 : List tNode.D) (x3 : Int) : Option (Bool × Unit) :=
  cond (decide (x3 < (x1.length : Int)))
    ((ix x1.length x3).bind fun v1 =>
    (ix x2.length x3).bind fun v2 =>
    (laws_eqNode (gd tNode x1 v1, gd tNode x2 v2, ())).bind fun v3 =>
    cond (!v3.1)
      (some (false, ()))
      (k4 x1 x2 (w64 (x3 + 1))))
    (some (true, ()))
def laws_eqNodeS_L4 : Nat → laws_eqNodeS_K4
  | 0, _, _, _ => none
  | m + 1, x1, x2, x3 => laws_eqNodeS_b4 (laws_eqNodeS_L4 m) x1 x2 x3
def laws_eqNodeS (x : (List tNode.D) × (List tNode.D) × Unit) : Option (Bool × Unit) := laws_eqNodeS_s (laws_eqNodeS_L4 BIG) x.1 x.2.1

/-! laws.eqMsg -/
def laws_eqMsg_s (a1 : tMsg.D) (a2 : tMsg.D) : Option (Bool × Unit) :=
  cond (a1.1 != a2.1)
    (some (false, ()))
    (cond (a1.2.1 != a2.2.1)
      (some (false, ()))
      (cond (a1.2.2.1 != a2.2.2.1)
        (some (false, ()))
        (cond (a1.2.2.2.1 != a2.2.2.2.1)
          (some (false, ()))
          (cond (a1.2.2.2.2.1 != a2.2.2.2.2.1)
            (some (false, ()))
            (cond (a1.2.2.2.2.2.1 != a2.2.2.2.2.2.1)
              (some (false, ()))
              (cond (a1.2.2.2.2.2.2.1 != a2.2.2.2.2.2.2.1)
                (some (false, ()))
                (cond (!(a1.2.2.2.2.2.2.2.1 == a2.2.2.2.2.2.2.2.1))
                  (some (false, ()))
                  ((laws_eqEntryS (a1.2.2.2.2.2.2.2.2.1, a2.2.2.2.2.2.2.2.2.1, ())).bind fun v1 =>
                  cond (!v1.1)
                    (some (false, ()))
                    (cond (!(eqS a1.2.2.2.2.2.2.2.2.2.1 a2.2.2.2.2.2.2.2.2.2.1))
                      (some (false, ()))
                      (some (true, ())))))))))))
def laws_eqMsg (x : tMsg.D × tMsg.D × Unit) : Option (Bool × Unit) := laws_eqMsg_s x.1 x.2.1

/-! laws.eqMsgS -/
abbrev laws_eqMsgS_K4 : Type := (List tMsg.D) → (List tMsg.D) → Int → Option (Bool × Unit)
def laws_eqMsgS_s (k4 : laws_eqMsgS_K4) (a1 : List tMsg.D) (a2 : List tMsg.D) : Option (Bool × Unit) :=
  cond ((a1.length : Int) != (a2.length : Int))
    (some (false, ()))
    (k4 a1 a2 0)
def laws_eqMsgS_b4 (k4 : laws_eqMsgS_K4) (x1 : List tMsg.D) (x2 : List tMsg.D) (x3 : Int) : Option (Bool × Unit) :=
  cond (decide (x3 < (x1.length : Int)))
    ((ix x1.length x3).bind fun v1 =>
    (ix x2.length x3).bind fun v2 =>
    (laws_eqMsg (gd tMsg x1 v1, gd tMsg x2 v2, ())).bind fun v3 =>
    cond (!v3.1)
      (some (false, ()))
      (k4 x1 x2 (w64 (x3 + 1))))
    (some (true, ()))
def laws_eqMsgS_L4 : Nat → laws_eqMsgS_K4
  | 0, _, _, _ => none
  | m + 1, x1, x2, x3 => laws_eqMsgS_b4 (laws_eqMsgS_L4 m) x1 x2 x3
def laws_eqMsgS (x : (List tMsg.D) × (List tMsg.D) × Unit) : Option (Bool × Unit) := laws_eqMsgS_s (laws_eqMsgS_L4 BIG) x.1 x.2.1

/-! laws.eqMail -/
def laws_eqMail_s (a1 : tMail.D) (a2 : tMail.D) : Option (Bool × Unit) :=
  cond (a1.1 != a2.1)
    (some (false, ()))
    (cond (a1.2.1 != a2.2.1)
      (some (false, ()))
      (cond (a1.2.2.1 != a2.2.2.1)
        (some (false, ()))
        (cond (!(a1.2.2.2.1 == a2.2.2.2.1))
          (some (false, ()))
          (cond (a1.2.2.2.2.1 != a2.2.2.2.2.1)
            (some (false, ()))
            (cond (!(eqS a1.2.2.2.2.2.1 a2.2.2.2.2.2.1))
              (some (false, ()))
              (some (true, ())))))))
def laws_eqMail (x : tMail.D × tMail.D × Unit) : Option (Bool × Unit) := laws_eqMail_s x.1 x.2.1

/-! laws.eqMailS -/
abbrev laws_eqMailS_K4 : Type := (List tMail.D) → (List tMail.D) → Int → Option (Bool × Unit)
def laws_eqMailS_s (k4 : laws_eqMailS_K4) (a1 : List tMail.D) (a2 : List tMail.D) : Option (Bool × Unit) :=
  cond ((a1.length : Int) != (a2.length : Int))
    (some (false, ()))
    (k4 a1 a2 0)
def laws_eqMailS_b4 (k4 : laws_eqMailS_K4) (x1 : List tMail.D) (x2 : List tMail.D) (x3 : Int) : Option (Bool × Unit) :=
  cond (decide (x3 < (x1.length : Int)))
    ((ix x1.length x3).bind fun v1 =>
    (ix x2.length x3).bind fun v2 =>
    (laws_eqMail (gd tMail x1 v1, gd tMail x2 v2, ())).bind fun v3 =>
    cond (!v3.1)
      (some (false, ()))
      (k4 x1 x2 (w64 (x3 + 1))))
    (some (true, ()))
def laws_eqMailS_L4 : Nat → laws_eqMailS_K4
  | 0, _, _, _ => none
  | m + 1, x1, x2, x3 => laws_eqMailS_b4 (laws_eqMailS_L4 m) x1 x2 x3
def laws_eqMailS (x : (List tMail.D) × (List tMail.D) × Unit) : Option (Bool × Unit) := laws_eqMailS_s (laws_eqMailS_L4 BIG) x.1 x.2.1

/-! laws.eqCrew -/
def laws_eqCrew_s (a1 : tCrew.D) (a2 : tCrew.D) : Option (Bool × Unit) :=
  (laws_eqNodeS (a1.1, a2.1, ())).bind fun v1 =>
  cond (!v1.1)
    (some (false, ()))
    ((laws_eqMsgS (a1.2.1, a2.2.1, ())).bind fun v2 =>
    cond (!v2.1)
      (some (false, ()))
      ((laws_eqMailS (a1.2.2.1, a2.2.2.1, ())).bind fun v3 =>
      cond (!v3.1)
        (some (false, ()))
        ((laws_eqEntryS (a1.2.2.2.1, a2.2.2.2.1, ())).bind fun v4 =>
        cond (!v4.1)
          (some (false, ()))
          (cond (!(a1.2.2.2.2.1 == a2.2.2.2.2.1))
            (some (false, ()))
            (some (true, ()))))))
def laws_eqCrew (x : tCrew.D × tCrew.D × Unit) : Option (Bool × Unit) := laws_eqCrew_s x.1 x.2.1

/-! laws.eqClient -/
def laws_eqClient_s (a1 : tClient.D) (a2 : tClient.D) : Option (Bool × Unit) :=
  cond (a1.1 != a2.1)
    (some (false, ()))
    (cond (a1.2.1 != a2.2.1)
      (some (false, ()))
      (cond (a1.2.2.1 != a2.2.2.1)
        (some (false, ()))
        (cond (!(a1.2.2.2.1 == a2.2.2.2.1))
          (some (false, ()))
          ((laws_eqCall (a1.2.2.2.2.1, a2.2.2.2.2.1, ())).bind fun v1 =>
          cond (!v1.1)
            (some (false, ()))
            (cond (a1.2.2.2.2.2.1 != a2.2.2.2.2.2.1)
              (some (false, ()))
              (some (true, ())))))))
def laws_eqClient (x : tClient.D × tClient.D × Unit) : Option (Bool × Unit) := laws_eqClient_s x.1 x.2.1

/-! laws.eqClientS -/
abbrev laws_eqClientS_K4 : Type := (List tClient.D) → (List tClient.D) → Int → Option (Bool × Unit)
def laws_eqClientS_s (k4 : laws_eqClientS_K4) (a1 : List tClient.D) (a2 : List tClient.D) : Option (Bool × Unit) :=
  cond ((a1.length : Int) != (a2.length : Int))
    (some (false, ()))
    (k4 a1 a2 0)
def laws_eqClientS_b4 (k4 : laws_eqClientS_K4) (x1 : List tClient.D) (x2 : List tClient.D) (x3 : Int) : Option (Bool × Unit) :=
  cond (decide (x3 < (x1.length : Int)))
    ((ix x1.length x3).bind fun v1 =>
    (ix x2.length x3).bind fun v2 =>
    (laws_eqClient (gd tClient x1 v1, gd tClient x2 v2, ())).bind fun v3 =>
    cond (!v3.1)
      (some (false, ()))
      (k4 x1 x2 (w64 (x3 + 1))))
    (some (true, ()))
def laws_eqClientS_L4 : Nat → laws_eqClientS_K4
  | 0, _, _, _ => none
  | m + 1, x1, x2, x3 => laws_eqClientS_b4 (laws_eqClientS_L4 m) x1 x2 x3
def laws_eqClientS (x : (List tClient.D) × (List tClient.D) × Unit) : Option (Bool × Unit) := laws_eqClientS_s (laws_eqClientS_L4 BIG) x.1 x.2.1

/-! laws.eqDone -/
def laws_eqDone_s (a1 : tDone.D) (a2 : tDone.D) : Option (Bool × Unit) :=
  cond (a1.1 != a2.1)
    (some (false, ()))
    (cond (a1.2.1 != a2.2.1)
      (some (false, ()))
      (cond (a1.2.2.1 != a2.2.2.1)
        (some (false, ()))
        ((laws_eqCall (a1.2.2.2.1, a2.2.2.2.1, ())).bind fun v1 =>
        cond (!v1.1)
          (some (false, ()))
          (cond (a1.2.2.2.2.1 != a2.2.2.2.2.1)
            (some (false, ()))
            ((laws_eqResult (a1.2.2.2.2.2.1, a2.2.2.2.2.2.1, ())).bind fun v2 =>
            cond (!v2.1)
              (some (false, ()))
              (cond (a1.2.2.2.2.2.2.1 != a2.2.2.2.2.2.2.1)
                (some (false, ()))
                (cond (a1.2.2.2.2.2.2.2.1 != a2.2.2.2.2.2.2.2.1)
                  (some (false, ()))
                  (some (true, ())))))))))
def laws_eqDone (x : tDone.D × tDone.D × Unit) : Option (Bool × Unit) := laws_eqDone_s x.1 x.2.1

/-! laws.eqDoneS -/
abbrev laws_eqDoneS_K4 : Type := (List tDone.D) → (List tDone.D) → Int → Option (Bool × Unit)
def laws_eqDoneS_s (k4 : laws_eqDoneS_K4) (a1 : List tDone.D) (a2 : List tDone.D) : Option (Bool × Unit) :=
  cond ((a1.length : Int) != (a2.length : Int))
    (some (false, ()))
    (k4 a1 a2 0)
def laws_eqDoneS_b4 (k4 : laws_eqDoneS_K4) (x1 : List tDone.D) (x2 : List tDone.D) (x3 : Int) : Option (Bool × Unit) :=
  cond (decide (x3 < (x1.length : Int)))
    ((ix x1.length x3).bind fun v1 =>
    (ix x2.length x3).bind fun v2 =>
    (laws_eqDone (gd tDone x1 v1, gd tDone x2 v2, ())).bind fun v3 =>
    cond (!v3.1)
      (some (false, ()))
      (k4 x1 x2 (w64 (x3 + 1))))
    (some (true, ()))
def laws_eqDoneS_L4 : Nat → laws_eqDoneS_K4
  | 0, _, _, _ => none
  | m + 1, x1, x2, x3 => laws_eqDoneS_b4 (laws_eqDoneS_L4 m) x1 x2 x3
def laws_eqDoneS (x : (List tDone.D) × (List tDone.D) × Unit) : Option (Bool × Unit) := laws_eqDoneS_s (laws_eqDoneS_L4 BIG) x.1 x.2.1

/-! laws.eqWorld -/
def laws_eqWorld_s (a1 : tWorld.D) (a2 : tWorld.D) : Option (Bool × Unit) :=
  (laws_eqCrew (a1.1, a2.1, ())).bind fun v1 =>
  cond (!v1.1)
    (some (false, ()))
    ((laws_eqClientS (a1.2.1, a2.2.1, ())).bind fun v2 =>
    cond (!v2.1)
      (some (false, ()))
      ((laws_eqDoneS (a1.2.2.1, a2.2.2.1, ())).bind fun v3 =>
      cond (!v3.1)
        (some (false, ()))
        ((laws_eqIntS (a1.2.2.2.1, a2.2.2.2.1, ())).bind fun v4 =>
        cond (!v4.1)
          (some (false, ()))
          (some (true, ())))))
def laws_eqWorld (x : tWorld.D × tWorld.D × Unit) : Option (Bool × Unit) := laws_eqWorld_s x.1 x.2.1

/-! spec.l1In -/
def spec_l1In_s (a1 : Int) (a2 : Int) (a3 : Int) : Option (Bool × Unit) :=
  cond (decide (a1 ≥ a2))
    (some (decide (a1 ≤ a3), ()))
    (some (false, ()))
def spec_l1In (x : Int × Int × Int × Unit) : Option (Bool × Unit) := spec_l1In_s x.1 x.2.1 x.2.2.1

/-! spec.l3Place -/
def spec_l3Place_s (a1 : Int) (a2 : Int) : Option (Bool × Unit) :=
  cond (a1 == 0)
    (some (a2 == 0, ()))
    ((spec_l1In (a1, 1, 100000, ())).bind fun v1 =>
    cond v1.1
      ((spec_l1In (a2, 1, 100000, ())).bind fun v2 =>
      some (v2.1, ()))
      (some (false, ())))
def spec_l3Place (x : Int × Int × Unit) : Option (Bool × Unit) := spec_l3Place_s x.1 x.2.1

/-! spec.KeptOk -/
abbrev spec_KeptOk_K5 : Type := Int → Int → tKept.D → Option (Bool × Unit)
def spec_KeptOk_s (k5 : spec_KeptOk_K5) (a1 : tKept.D) : Option (Bool × Unit) :=
  (spec_l1In (a1.1, 0, 100000, ())).bind fun v1 =>
  cond (!v1.1)
    (some (false, ()))
    ((spec_l1In (a1.2.1, (-1), 4, ())).bind fun v2 =>
    cond (!v2.1)
      (some (false, ()))
      ((spec_l3Place (a1.2.2.1.1, a1.2.2.1.2.1, ())).bind fun v3 =>
      cond (!v3.1)
        (some (false, ()))
        (cond (a1.2.2.1.1 == 0)
          (cond (!(eqS a1.2.2.1.2.2.1 ([] : List UInt8)))
            (some (false, ()))
            (cond (decide ((a1.2.2.1.2.2.1.length : Int) > 20000))
              (some (false, ()))
              (cond (decide (a1.2.2.1.2.1 > a1.1))
                (some (false, ()))
                (cond (decide ((a1.2.2.2.1.length : Int) > 60))
                  (some (false, ()))
                  (cond (decide (w64 (a1.2.2.1.1 + (a1.2.2.2.1.length : Int)) > 100000))
                    (some (false, ()))
                    (k5 a1.2.2.1.2.1 0 a1))))))
          (cond (decide ((a1.2.2.1.2.2.1.length : Int) > 20000))
            (some (false, ()))
            (cond (decide (a1.2.2.1.2.1 > a1.1))
              (some (false, ()))
              (cond (decide ((a1.2.2.2.1.length : Int) > 60))
                (some (false, ()))
                (cond (decide (w64 (a1.2.2.1.1 + (a1.2.2.2.1.length : Int)) > 100000))
                  (some (false, ()))
                  (k5 a1.2.2.1.2.1 0 a1))))))))
def spec_KeptOk_b5 (k5 : spec_KeptOk_K5) (x1 : Int) (x2 : Int) (x3 : tKept.D) : Option (Bool × Unit) :=
  cond (decide (x2 < (x3.2.2.2.1.length : Int)))
    ((ix x3.2.2.2.1.length x2).bind fun v1 =>
    cond (decide ((gd tEntry x3.2.2.2.1 v1).1 < 1))
      (some (false, ()))
      (cond (decide ((gd tEntry x3.2.2.2.1 v1).1 < x1))
        (some (false, ()))
        (cond (decide ((gd tEntry x3.2.2.2.1 v1).1 > x3.1))
          (some (false, ()))
          (cond (decide ((((gd tEntry x3.2.2.2.1 v1).2.1).length : Int) > 1600))
            (some (false, ()))
            (k5 ((gd tEntry x3.2.2.2.1 v1).1) (w64 (x2 + 1)) x3)))))
    (some (true, ()))
def spec_KeptOk_L5 : Nat → spec_KeptOk_K5
  | 0, _, _, _ => none
  | m + 1, x1, x2, x3 => spec_KeptOk_b5 (spec_KeptOk_L5 m) x1 x2 x3
def spec_KeptOk (x : tKept.D × Unit) : Option (Bool × Unit) := spec_KeptOk_s (spec_KeptOk_L5 BIG) x.1

/-! spec.l3Copy -/
def spec_l3Copy_s (a1 : tKept.D) : Option (tKept.D × Unit) :=
  cond (room (([] : List tEntry.D).length + a1.2.2.2.1.length))
    (some ((a1.1, a1.2.1, a1.2.2.1, ([] : List tEntry.D) ++ a1.2.2.2.1, ()), ()))
    (none)
def spec_l3Copy (x : tKept.D × Unit) : Option (tKept.D × Unit) := spec_l3Copy_s x.1

/-! spec.RecOk -/
def spec_RecOk_s (a1 : tRec.D) : Option (Bool × Unit) :=
  cond (a1.1 == 1)
    ((spec_l1In (a1.2.1, 0, 100000, ())).bind fun v1 =>
    cond v1.1
      ((spec_l1In (a1.2.2.2.1, (-1), 4, ())).bind fun v2 =>
      cond v2.1
        (cond (a1.2.2.1 == 0)
          (some (eqS a1.2.2.2.2.1 ([] : List UInt8), ()))
          (some (false, ())))
        (some (false, ())))
      (some (false, ())))
    (cond (a1.1 == 2)
      ((spec_l1In (a1.2.1, 1, 100000, ())).bind fun v3 =>
      cond v3.1
        ((spec_l1In (a1.2.2.1, 1, 100000, ())).bind fun v4 =>
        cond v4.1
          (cond (a1.2.2.2.1 == 0)
            (some (decide ((a1.2.2.2.2.1.length : Int) ≤ 1600), ()))
            (some (false, ())))
          (some (false, ())))
        (some (false, ())))
      (cond (a1.1 == 3)
        (cond (a1.2.1 == 0)
          ((spec_l1In (a1.2.2.1, 1, 100000, ())).bind fun v5 =>
          cond v5.1
            (cond (a1.2.2.2.1 == 0)
              (some (eqS a1.2.2.2.2.1 ([] : List UInt8), ()))
              (some (false, ())))
            (some (false, ())))
          (some (false, ())))
        (cond (a1.1 == 4)
          ((spec_l1In (a1.2.1, 1, 100000, ())).bind fun v6 =>
          cond v6.1
            ((spec_l1In (a1.2.2.1, 1, 100000, ())).bind fun v7 =>
            cond v7.1
              (cond (a1.2.2.2.1 == 0)
                (some (decide ((a1.2.2.2.2.1.length : Int) ≤ 20000), ()))
                (some (false, ())))
              (some (false, ())))
            (some (false, ())))
          (some (false, ())))))
def spec_RecOk (x : tRec.D × Unit) : Option (Bool × Unit) := spec_RecOk_s x.1

/-! spec.l3LastTerm -/
def spec_l3LastTerm_s (a1 : tKept.D) : Option (Int × Unit) :=
  cond ((a1.2.2.2.1.length : Int) == 0)
    (some (a1.2.2.1.2.1, ()))
    ((ix a1.2.2.2.1.length (w64 ((a1.2.2.2.1.length : Int) - 1))).bind fun v1 =>
    some ((gd tEntry a1.2.2.2.1 v1).1, ()))
def spec_l3LastTerm (x : tKept.D × Unit) : Option (Int × Unit) := spec_l3LastTerm_s x.1

/-! spec.l3Fits -/
def spec_l3Fits_s (a1 : tKept.D) (a2 : tRec.D) : Option (Bool × Unit) :=
  cond (a2.1 == 1)
    (cond (decide (a2.2.1 > a1.1))
      (some (true, ()))
      (cond (a2.2.1 == a1.1)
        (cond (a1.2.1 == (-1))
          (some (true, ()))
          (some (a2.2.2.2.1 == a1.2.1, ())))
        (some (false, ()))))
    (cond (a2.1 == 2)
      (cond (a2.2.2.1 == w64 (w64 (a1.2.2.1.1 + (a1.2.2.2.1.length : Int)) + 1))
        (cond (decide ((a1.2.2.2.1.length : Int) < 60))
          ((spec_l3LastTerm (a1, ())).bind fun v1 =>
          cond (decide (a2.2.1 ≥ v1.1))
            (some (decide (a2.2.1 ≤ a1.1), ()))
            (some (false, ())))
          (some (false, ())))
        (some (false, ())))
      (cond (a2.1 == 3)
        (cond (decide (a2.2.2.1 > a1.2.2.1.1))
          (some (decide (a2.2.2.1 ≤ w64 (a1.2.2.1.1 + (a1.2.2.2.1.length : Int))), ()))
          (some (false, ())))
        (cond (a2.1 == 4)
          (cond (decide (a2.2.2.1 > a1.2.2.1.1))
            (some (decide (a2.2.1 ≤ a1.1), ()))
            (some (false, ())))
          (some (false, ())))))
def spec_l3Fits (x : tKept.D × tRec.D × Unit) : Option (Bool × Unit) := spec_l3Fits_s x.1 x.2.1

/-! spec.l3Behind -/
abbrev spec_l3Behind_R : Type := (List tEntry.D) × Unit
def spec_l3Behind_s_v3  (v3 : List tEntry.D) : Option (spec_l3Behind_R) :=
  some (v3, ())
def spec_l3Behind_s (a1 : tKept.D) (a2 : Int) (a3 : Int) : Option (spec_l3Behind_R) :=
  cond (decide (w64 (a2 - a1.2.2.1.1) ≥ 1))
    (cond (decide (w64 (a2 - a1.2.2.1.1) ≤ (a1.2.2.2.1.length : Int)))
      ((ix a1.2.2.2.1.length (w64 (w64 (a2 - a1.2.2.1.1) - 1))).bind fun v1 =>
      cond ((gd tEntry a1.2.2.2.1 v1).1 == a3)
        ((rng a1.2.2.2.1.length (w64 (a2 - a1.2.2.1.1)) (a1.2.2.2.1.length : Int)).bind fun v2 =>
        cond (room (([] : List tEntry.D).length + (part a1.2.2.2.1 v2.1 (v2.2 - v2.1)).length))
          (spec_l3Behind_s_v3  (([] : List tEntry.D) ++ (part a1.2.2.2.1 v2.1 (v2.2 - v2.1))))
          (none))
        (some (([] : List tEntry.D), ())))
      (some (([] : List tEntry.D), ())))
    (some (([] : List tEntry.D), ()))
def spec_l3Behind (x : tKept.D × Int × Int × Unit) : Option (spec_l3Behind_R) := spec_l3Behind_s x.1 x.2.1 x.2.2.1

/-! spec.l3Step -/
abbrev spec_l3Step_R : Type := tKept.D × Bool × Unit
def spec_l3Step_s_v3 (a1 : tKept.D) (v3 : List tEntry.D) : Option (spec_l3Step_R) :=
  some ((a1.1, a1.2.1, a1.2.2.1, v3, ()), true, ())
def spec_l3Step_s (a1 : tKept.D) (a2 : tRec.D) : Option (spec_l3Step_R) :=
  (spec_RecOk (a2, ())).bind fun v1 =>
  cond (!v1.1)
    (some (a1, false, ()))
    ((spec_l3Fits (a1, a2, ())).bind fun v2 =>
    cond (!v2.1)
      (some (a1, false, ()))
      (cond (a2.1 == 1)
        (some ((a2.2.1, a2.2.2.2.1, a1.2.2.1, a1.2.2.2.1, ()), true, ()))
        (cond (a2.1 == 2)
          (cond (room (a1.2.2.2.1.length + [(a2.2.1, a2.2.2.2.2.1, ())].length))
            (spec_l3Step_s_v3 a1 (a1.2.2.2.1 ++ [(a2.2.1, a2.2.2.2.2.1, ())]))
            (none))
          (cond (a2.1 == 3)
            ((rng a1.2.2.2.1.length 0 (w64 (w64 (a2.2.2.1 - a1.2.2.1.1) - 1))).bind fun v4 =>
            some ((a1.1, a1.2.1, a1.2.2.1, part a1.2.2.2.1 (0 + v4.1) (v4.2 - v4.1), ()), true, ()))
            ((spec_l3Behind (a1, a2.2.2.1, a2.2.1, ())).bind fun v5 =>
            some ((a1.1, a1.2.1, (a2.2.2.1, a2.2.1, a2.2.2.2.2.1, ()), v5.1, ()), true, ()))))))
def spec_l3Step (x : tKept.D × tRec.D × Unit) : Option (spec_l3Step_R) := spec_l3Step_s x.1 x.2.1

/-! spec.l3Fold -/
abbrev spec_l3Fold_R : Type := tKept.D × Bool × Unit
abbrev spec_l3Fold_K3 : Type := Int → Int → tStore.D → tKept.D → tKept.D → Option (spec_l3Fold_R)
def spec_l3Fold_s (k3 : spec_l3Fold_K3) (a1 : tStore.D) (a2 : Int) : Option (spec_l3Fold_R) :=
  (spec_l3Copy (a1.1, ())).bind fun v1 =>
  k3 a2 0 a1 (0, 0, (0, 0, ([] : List UInt8), ()), ([] : List tEntry.D), ()) v1.1
def spec_l3Fold_b3 (k3 : spec_l3Fold_K3) (x1 : Int) (x2 : Int) (x3 : tStore.D) (x4 : tKept.D) (x5 : tKept.D) : Option (spec_l3Fold_R) :=
  cond (decide (x2 < x1))
    (cond (decide (x2 < (x3.2.1.length : Int)))
      ((ix x3.2.1.length x2).bind fun v1 =>
      dup
        ((spec_l3Step (x5, gd tRec x3.2.1 v1, ())).bind fun v2 =>
        cond (!v2.2.1)
          (none)
          (k3 x1 (w64 (x2 + 1)) x3 x4 v2.1)))
      (some (x5, true, ())))
    (some (x5, true, ()))
def spec_l3Fold_L3 : Nat → spec_l3Fold_K3
  | 0, _, _, _, _, _ => none
  | m + 1, x1, x2, x3, x4, x5 => spec_l3Fold_b3 (spec_l3Fold_L3 m) x1 x2 x3 x4 x5
def spec_l3Fold (x : tStore.D × Int × Unit) : Option (spec_l3Fold_R) := spec_l3Fold_s (spec_l3Fold_L3 BIG) x.1 x.2.1

/-! spec.StoreOk -/
def spec_StoreOk_s (a1 : tStore.D) : Option (Bool × Unit) :=
  (spec_KeptOk (a1.1, ())).bind fun v1 =>
  cond (!v1.1)
    (some (false, ()))
    (cond (decide ((a1.2.1.length : Int) > 80))
      (some (false, ()))
      ((spec_l3Fold (a1, (a1.2.1.length : Int), ())).bind fun v2 =>
      some (v2.2.1, ())))
def spec_StoreOk (x : tStore.D × Unit) : Option (Bool × Unit) := spec_StoreOk_s x.1

/-! spec.l14ZeroCore -/
def spec_l14ZeroCore_s (a1 : tCore.D) : Option (Bool × Unit) :=
  cond (a1.1 == 0)
    (cond (a1.2.1 == 0)
      (cond (a1.2.2.1 == 0)
        (cond (a1.2.2.2.1 == 0)
          (cond (a1.2.2.2.2.1 == 0)
            (cond (a1.2.2.2.2.2.1 == 0)
              (cond (a1.2.2.2.2.2.2.1 == 0)
                (cond (a1.2.2.2.2.2.2.2.1 == 0)
                  (cond ((a1.2.2.2.2.2.2.2.2.1.length : Int) == 0)
                    (cond (a1.2.2.2.2.2.2.2.2.2.1 == 0)
                      (cond ((a1.2.2.2.2.2.2.2.2.2.2.1.length : Int) == 0)
                        (cond ((a1.2.2.2.2.2.2.2.2.2.2.2.1.length : Int) == 0)
                          (some ((a1.2.2.2.2.2.2.2.2.2.2.2.2.1.length : Int) == 0, ()))
                          (some (false, ())))
                        (some (false, ())))
                      (some (false, ())))
                    (some (false, ())))
                  (some (false, ())))
                (some (false, ())))
              (some (false, ())))
            (some (false, ())))
          (some (false, ())))
        (some (false, ())))
      (some (false, ())))
    (some (false, ()))
def spec_l14ZeroCore (x : tCore.D × Unit) : Option (Bool × Unit) := spec_l14ZeroCore_s x.1

/-! spec.l13Last -/
def spec_l13Last_s (a1 : tCore.D) : Option (Int × Unit) :=
  some (w64 (a1.2.2.2.2.2.2.1 + (a1.2.2.2.2.2.2.2.2.1.length : Int)), ())
def spec_l13Last (x : tCore.D × Unit) : Option (Int × Unit) := spec_l13Last_s x.1

/-! spec.l13Kept -/
def spec_l13Kept_s_v1 (a1 : tCore.D) (a2 : List UInt8) (v1 : List tEntry.D) : Option (tKept.D × Unit) :=
  cond (a1.2.2.2.2.2.2.1 != 0)
    (some ((a1.2.2.1, a1.2.2.2.1, (a1.2.2.2.2.2.2.1, a1.2.2.2.2.2.2.2.1, a2, ()), v1, ()), ()))
    (some ((a1.2.2.1, a1.2.2.2.1, (0, 0, ([] : List UInt8), ()), v1, ()), ()))
def spec_l13Kept_s_v2 (a1 : tCore.D) (a2 : List UInt8) (v2 : List tEntry.D) : Option (tKept.D × Unit) :=
  cond (a1.2.2.2.2.2.2.1 != 0)
    (some ((a1.2.2.1, a1.2.2.2.1, (a1.2.2.2.2.2.2.1, a1.2.2.2.2.2.2.2.1, a2, ()), v2, ()), ()))
    (some ((a1.2.2.1, a1.2.2.2.1, (0, 0, ([] : List UInt8), ()), v2, ()), ()))
def spec_l13Kept_s (a1 : tCore.D) (a2 : List UInt8) : Option (tKept.D × Unit) :=
  both
    (dup
      (cond (room (([] : List tEntry.D).length + a1.2.2.2.2.2.2.2.2.1.length))
        (spec_l13Kept_s_v1 a1 a2 (([] : List tEntry.D) ++ a1.2.2.2.2.2.2.2.2.1))
        (none)))
    (cond (room (([] : List tEntry.D).length + a1.2.2.2.2.2.2.2.2.1.length))
      (spec_l13Kept_s_v2 a1 a2 (([] : List tEntry.D) ++ a1.2.2.2.2.2.2.2.2.1))
      (none))
def spec_l13Kept (x : tCore.D × (List UInt8) × Unit) : Option (tKept.D × Unit) := spec_l13Kept_s x.1 x.2.1

/-! spec.l13In -/
abbrev spec_l13In_K2 : Type := (List Int) → Int → Int → Option (Bool × Unit)
def spec_l13In_s (k2 : spec_l13In_K2) (a1 : List Int) (a2 : Int) : Option (Bool × Unit) :=
  k2 a1 a2 0
def spec_l13In_b2 (k2 : spec_l13In_K2) (x1 : List Int) (x2 : Int) (x3 : Int) : Option (Bool × Unit) :=
  cond (decide (x3 < (x1.length : Int)))
    ((ix x1.length x3).bind fun v1 =>
    cond (gd (Ty.int .i64) x1 v1 == x2)
      (some (true, ()))
      (k2 x1 x2 (w64 (x3 + 1))))
    (some (false, ()))
def spec_l13In_L2 : Nat → spec_l13In_K2
  | 0, _, _, _ => none
  | m + 1, x1, x2, x3 => spec_l13In_b2 (spec_l13In_L2 m) x1 x2 x3
def spec_l13In (x : (List Int) × Int × Unit) : Option (Bool × Unit) := spec_l13In_s (spec_l13In_L2 BIG) x.1 x.2.1

/-! spec.CoreOk -/
structure spec_CoreOk_K where
  k3 : tCore.D → Option (Bool × Unit)
  k8 : Int → tCore.D → Option (Bool × Unit)
  k17 : Int → tCore.D → Option (Bool × Unit)
def spec_CoreOk_s (k : spec_CoreOk_K) (a1 : tCore.D) : Option (Bool × Unit) :=
  (spec_l1In (a1.2.1, 1, 5, ())).bind fun v1 =>
  cond (!v1.1)
    (some (false, ()))
    ((spec_l1In (a1.1, 0, w64 (a1.2.1 - 1), ())).bind fun v2 =>
    cond (!v2.1)
      (some (false, ()))
      (cond (a1.2.2.2.2.2.2.1 == 0)
        (cond (a1.2.2.2.2.2.2.2.1 != 0)
          (some (false, ()))
          ((spec_l13Kept (a1, ([] : List UInt8), ())).bind fun v3 =>
          (spec_KeptOk (v3.1, ())).bind fun v4 =>
          cond (!v4.1)
            (some (false, ()))
            (cond (decide (a1.2.2.2.1 ≥ a1.2.1))
              (some (false, ()))
              ((spec_l13Last (a1, ())).bind fun v5 =>
              (spec_l1In (a1.2.2.2.2.2.2.2.2.2.1, a1.2.2.2.2.2.2.1, v5.1, ())).bind fun v6 =>
              cond (!v6.1)
                (some (false, ()))
                (k.k3 a1)))))
        ((spec_l13Kept (a1, ([] : List UInt8), ())).bind fun v7 =>
        (spec_KeptOk (v7.1, ())).bind fun v8 =>
        cond (!v8.1)
          (some (false, ()))
          (cond (decide (a1.2.2.2.1 ≥ a1.2.1))
            (some (false, ()))
            ((spec_l13Last (a1, ())).bind fun v9 =>
            (spec_l1In (a1.2.2.2.2.2.2.2.2.2.1, a1.2.2.2.2.2.2.1, v9.1, ())).bind fun v10 =>
            cond (!v10.1)
              (some (false, ()))
              (k.k3 a1))))))
def spec_CoreOk_b3 (k : spec_CoreOk_K) (x1 : tCore.D) : Option (Bool × Unit) :=
  cond (x1.2.2.2.2.1 == 1)
    ((spec_l1In (x1.2.2.2.2.2.1, (-1), w64 (x1.2.1 - 1), ())).bind fun v1 =>
    cond v1.1
      (cond (x1.2.2.2.2.2.1 != x1.1)
        (cond ((x1.2.2.2.2.2.2.2.2.2.2.1.length : Int) == 0)
          (cond ((x1.2.2.2.2.2.2.2.2.2.2.2.1.length : Int) == 0)
            (some ((x1.2.2.2.2.2.2.2.2.2.2.2.2.1.length : Int) == 0, ()))
            (some (false, ())))
          (some (false, ())))
        (some (false, ())))
      (some (false, ())))
    (cond (x1.2.2.2.2.1 == 2)
      (k.k8 0 x1)
      (cond (x1.2.2.2.2.1 == 3)
        (cond (decide (x1.2.2.1 < 1))
          (some (false, ()))
          (cond (x1.2.2.2.1 != x1.1)
            (some (false, ()))
            (cond (x1.2.2.2.2.2.1 != x1.1)
              (some (false, ()))
              (cond (decide ((x1.2.2.2.2.2.2.2.2.2.2.1.length : Int) > 0))
                (some (false, ()))
                (cond ((x1.2.2.2.2.2.2.2.2.2.2.2.1.length : Int) != x1.2.1)
                  (some (false, ()))
                  (cond ((x1.2.2.2.2.2.2.2.2.2.2.2.2.1.length : Int) != x1.2.1)
                    (some (false, ()))
                    ((ix x1.2.2.2.2.2.2.2.2.2.2.2.2.1.length x1.1).bind fun v2 =>
                    (spec_l13Last (x1, ())).bind fun v3 =>
                    cond (gd (Ty.int .i64) x1.2.2.2.2.2.2.2.2.2.2.2.2.1 v2 != v3.1)
                      (some (false, ()))
                      (k.k17 0 x1))))))))
        (some (false, ()))))
def spec_CoreOk_b8 (k : spec_CoreOk_K) (x1 : Int) (x2 : tCore.D) : Option (Bool × Unit) :=
  cond (decide (x1 < (x2.2.2.2.2.2.2.2.2.2.2.1.length : Int)))
    ((ix x2.2.2.2.2.2.2.2.2.2.2.1.length x1).bind fun v1 =>
    (spec_l1In (gd (Ty.int .i64) x2.2.2.2.2.2.2.2.2.2.2.1 v1, 0, w64 (x2.2.1 - 1), ())).bind fun v2 =>
    cond (!v2.1)
      (some (false, ()))
      (cond (decide (x1 > 0))
        ((ix x2.2.2.2.2.2.2.2.2.2.2.1.length (w64 (x1 - 1))).bind fun v3 =>
        (ix x2.2.2.2.2.2.2.2.2.2.2.1.length x1).bind fun v4 =>
        cond (decide (gd (Ty.int .i64) x2.2.2.2.2.2.2.2.2.2.2.1 v3 ≥ gd (Ty.int .i64) x2.2.2.2.2.2.2.2.2.2.2.1 v4))
          (some (false, ()))
          (k.k8 (w64 (x1 + 1)) x2))
        (k.k8 (w64 (x1 + 1)) x2)))
    (cond (decide (x2.2.2.1 ≥ 1))
      (cond (x2.2.2.2.1 == x2.1)
        (cond (x2.2.2.2.2.2.1 == (-1))
          ((spec_l13In (x2.2.2.2.2.2.2.2.2.2.2.1, x2.1, ())).bind fun v5 =>
          cond v5.1
            (cond (decide (w64 (2 * (x2.2.2.2.2.2.2.2.2.2.2.1.length : Int)) ≤ x2.2.1))
              (cond ((x2.2.2.2.2.2.2.2.2.2.2.2.1.length : Int) == 0)
                (some ((x2.2.2.2.2.2.2.2.2.2.2.2.2.1.length : Int) == 0, ()))
                (some (false, ())))
              (some (false, ())))
            (some (false, ())))
          (some (false, ())))
        (some (false, ())))
      (some (false, ())))
def spec_CoreOk_b17 (k : spec_CoreOk_K) (x1 : Int) (x2 : tCore.D) : Option (Bool × Unit) :=
  cond (decide (x1 < x2.2.1))
    ((ix x2.2.2.2.2.2.2.2.2.2.2.2.2.1.length x1).bind fun v1 =>
    cond (decide (gd (Ty.int .i64) x2.2.2.2.2.2.2.2.2.2.2.2.2.1 v1 < 0))
      (some (false, ()))
      ((ix x2.2.2.2.2.2.2.2.2.2.2.2.1.length x1).bind fun v2 =>
      (ix x2.2.2.2.2.2.2.2.2.2.2.2.2.1.length x1).bind fun v3 =>
      cond (decide (gd (Ty.int .i64) x2.2.2.2.2.2.2.2.2.2.2.2.1 v2 ≤ gd (Ty.int .i64) x2.2.2.2.2.2.2.2.2.2.2.2.2.1 v3))
        (some (false, ()))
        ((ix x2.2.2.2.2.2.2.2.2.2.2.2.1.length x1).bind fun v4 =>
        (spec_l13Last (x2, ())).bind fun v5 =>
        cond (decide (gd (Ty.int .i64) x2.2.2.2.2.2.2.2.2.2.2.2.1 v4 > w64 (v5.1 + 1)))
          (some (false, ()))
          (k.k17 (w64 (x1 + 1)) x2))))
    (some (true, ()))
def spec_CoreOk_N (k : spec_CoreOk_K) : spec_CoreOk_K := ⟨spec_CoreOk_b3 k, spec_CoreOk_b8 k, spec_CoreOk_b17 k⟩
def spec_CoreOk_L : Nat → spec_CoreOk_K := iterK spec_CoreOk_N ⟨fun _ => none, fun _ _ => none, fun _ _ => none⟩
def spec_CoreOk (x : tCore.D × Unit) : Option (Bool × Unit) := spec_CoreOk_s (spec_CoreOk_L BIG) x.1

/-! spec.StateOk -/
def spec_StateOk (_ : (List tTenant.D) × Unit) : Option (Bool × Unit) := none

/-! spec.ReadState -/
def spec_ReadState (_ : (List UInt8) × Unit) : Option ((List tTenant.D) × Bool × Unit) := none

/-! spec.l11Grouped -/
def spec_l11Grouped (_ : (List tSlot.D) × Int × Unit) : Option (Bool × Unit) := none

/-! spec.l12SameEntries -/
abbrev spec_l12SameEntries_K4 : Type := (List tEntry.D) → (List tEntry.D) → Int → Option (Bool × Unit)
def spec_l12SameEntries_s (k4 : spec_l12SameEntries_K4) (a1 : List tEntry.D) (a2 : List tEntry.D) : Option (Bool × Unit) :=
  cond ((a1.length : Int) != (a2.length : Int))
    (some (false, ()))
    (k4 a1 a2 0)
def spec_l12SameEntries_b4 (k4 : spec_l12SameEntries_K4) (x1 : List tEntry.D) (x2 : List tEntry.D) (x3 : Int) : Option (Bool × Unit) :=
  cond (decide (x3 < (x1.length : Int)))
    ((ix x1.length x3).bind fun v1 =>
    (ix x2.length x3).bind fun v2 =>
    cond (!(((gd tEntry x1 v1).1 == (gd tEntry x2 v2).1) && (eqS ((gd tEntry x1 v1).2.1) ((gd tEntry x2 v2).2.1) && true)))
      (some (false, ()))
      (k4 x1 x2 (w64 (x3 + 1))))
    (some (true, ()))
def spec_l12SameEntries_L4 : Nat → spec_l12SameEntries_K4
  | 0, _, _, _ => none
  | m + 1, x1, x2, x3 => spec_l12SameEntries_b4 (spec_l12SameEntries_L4 m) x1 x2 x3
def spec_l12SameEntries (x : (List tEntry.D) × (List tEntry.D) × Unit) : Option (Bool × Unit) := spec_l12SameEntries_s (spec_l12SameEntries_L4 BIG) x.1 x.2.1

/-! spec.l14SameKept -/
def spec_l14SameKept_s (a1 : tKept.D) (a2 : tKept.D) : Option (Bool × Unit) :=
  cond (a1.1 == a2.1)
    (cond (a1.2.1 == a2.2.1)
      (cond ((a1.2.2.1.1 == a2.2.2.1.1) && ((a1.2.2.1.2.1 == a2.2.2.1.2.1) && (eqS a1.2.2.1.2.2.1 a2.2.2.1.2.2.1 && true)))
        ((spec_l12SameEntries (a1.2.2.2.1, a2.2.2.2.1, ())).bind fun v1 =>
        some (v1.1, ()))
        (some (false, ())))
      (some (false, ())))
    (some (false, ()))
def spec_l14SameKept (x : tKept.D × tKept.D × Unit) : Option (Bool × Unit) := spec_l14SameKept_s x.1 x.2.1

/-! spec.NodeOk -/
structure spec_NodeOk_K where
  k3 : tNode.D → Option (Bool × Unit)
  k8 : tNode.D → tCore.D → Option (Bool × Unit)
  k12 : tNode.D → tCore.D → Option (Bool × Unit)
  k14 : tNode.D → tCore.D → Option (Bool × Unit)
def spec_NodeOk_s (k : spec_NodeOk_K) (a1 : tNode.D) : Option (Bool × Unit) :=
  (spec_l1In (a1.2.1, 1, 5, ())).bind fun v1 =>
  cond (!v1.1)
    (some (false, ()))
    ((spec_l1In (a1.1, 0, w64 (a1.2.1 - 1), ())).bind fun v2 =>
    cond (!v2.1)
      (some (false, ()))
      ((spec_StoreOk (a1.2.2.2.2.2.2.1, ())).bind fun v3 =>
      cond (!v3.1)
        (some (false, ()))
        (cond (decide ((a1.2.2.2.2.2.2.1.2.1.length : Int) > 0))
          (some (false, ()))
          ((spec_l1In (a1.2.2.2.2.2.2.2.2.1, (-1), 100, ())).bind fun v4 =>
          cond (!v4.1)
            (some (false, ()))
            ((spec_l1In (a1.2.2.2.2.2.2.2.2.2.1, 0, 80, ())).bind fun v5 =>
            cond (!v5.1)
              (some (false, ()))
              (cond (a1.2.2.2.2.2.2.2.2.1 == (-1))
                (cond (a1.2.2.2.2.2.2.2.2.2.1 != 0)
                  (some (false, ()))
                  (k.k3 a1))
                (k.k3 a1)))))))
def spec_NodeOk_b3 (k : spec_NodeOk_K) (x1 : tNode.D) : Option (Bool × Unit) :=
  cond (!x1.2.2.1)
    ((spec_l14ZeroCore (x1.2.2.2.1, ())).bind fun v1 =>
    cond v1.1
      (cond ((x1.2.2.2.2.1.length : Int) == 0)
        (cond ((x1.2.2.2.2.2.1.1 == 0) && ((x1.2.2.2.2.2.1.2.1 == 0) && (eqS x1.2.2.2.2.2.1.2.2.1 ([] : List UInt8) && true)))
          (cond ((x1.2.2.2.2.2.2.2.1.length : Int) == 0)
            (some (x1.2.2.2.2.2.2.2.2.1 == (-1), ()))
            (some (false, ())))
          (some (false, ())))
        (some (false, ())))
      (some (false, ())))
    ((spec_CoreOk (x1.2.2.2.1, ())).bind fun v2 =>
    cond (!v2.1)
      (some (false, ()))
      (cond (x1.2.2.2.1.1 != x1.1)
        (some (false, ()))
        (cond (x1.2.2.2.1.2.1 != x1.2.1)
          (some (false, ()))
          ((spec_StateOk (x1.2.2.2.2.1, ())).bind fun v3 =>
          cond (!v3.1)
            (some (false, ()))
            (cond (x1.2.2.2.2.2.1.1 != x1.2.2.2.1.2.2.2.2.2.2.1)
              (some (false, ()))
              (cond (x1.2.2.2.2.2.1.2.1 != x1.2.2.2.1.2.2.2.2.2.2.2.1)
                (some (false, ()))
                (cond (x1.2.2.2.1.2.2.2.2.2.2.1 == 0)
                  (cond (!(eqS x1.2.2.2.2.2.1.2.2.1 ([] : List UInt8)))
                    (some (false, ()))
                    (k.k8 x1 x1.2.2.2.1))
                  (k.k8 x1 x1.2.2.2.1))))))))
def spec_NodeOk_b8 (k : spec_NodeOk_K) (x1 : tNode.D) (x2 : tCore.D) : Option (Bool × Unit) :=
  cond (decide (x2.2.2.2.2.2.2.1 > 0))
    ((spec_ReadState (x1.2.2.2.2.2.1.2.2.1, ())).bind fun v1 =>
    cond (!v1.2.1)
      (some (false, ()))
      (k.k12 x1 x2))
    (k.k12 x1 x2)
def spec_NodeOk_b12 (k : spec_NodeOk_K) (x1 : tNode.D) (x2 : tCore.D) : Option (Bool × Unit) :=
  cond (x2.2.2.2.2.1 != 3)
    (cond (decide ((x1.2.2.2.2.2.2.2.1.length : Int) > 0))
      (some (false, ()))
      ((spec_l11Grouped (x1.2.2.2.2.2.2.2.1, 4, ())).bind fun v1 =>
      cond (!v1.1)
        (some (false, ()))
        (k.k14 x1 x2)))
    ((spec_l11Grouped (x1.2.2.2.2.2.2.2.1, 4, ())).bind fun v2 =>
    cond (!v2.1)
      (some (false, ()))
      (k.k14 x1 x2))
def spec_NodeOk_b14 (k : spec_NodeOk_K) (x1 : tNode.D) (x2 : tCore.D) : Option (Bool × Unit) :=
  (spec_l13Kept (x2, x1.2.2.2.2.2.1.2.2.1, ())).bind fun v1 =>
  (spec_l14SameKept (x1.2.2.2.2.2.2.1.1, v1.1, ())).bind fun v2 =>
  some (v2.1, ())
def spec_NodeOk_N (k : spec_NodeOk_K) : spec_NodeOk_K := ⟨spec_NodeOk_b3 k, spec_NodeOk_b8 k, spec_NodeOk_b12 k, spec_NodeOk_b14 k⟩
def spec_NodeOk_L : Nat → spec_NodeOk_K := iterK spec_NodeOk_N ⟨fun _ => none, fun _ _ => none, fun _ _ => none, fun _ _ => none⟩
def spec_NodeOk (x : tNode.D × Unit) : Option (Bool × Unit) := spec_NodeOk_s (spec_NodeOk_L BIG) x.1

/-! spec.NewStore -/
def spec_NewStore_s  : Option (tStore.D × Unit) :=
  some (((0, (-1), (0, 0, ([] : List UInt8), ()), ([] : List tEntry.D), ()), ([] : List tRec.D), ()), ())
def spec_NewStore (x : Unit) : Option (tStore.D × Unit) := spec_NewStore_s 

/-! spec.CoreOf -/
abbrev spec_CoreOf_R : Type := tCore.D × Bool × Unit
abbrev spec_CoreOf_K2 : Type := tKept.D → tCore.D → tCore.D → Option (spec_CoreOf_R)
def spec_CoreOf_s (k2 : spec_CoreOf_K2) (a1 : Int) (a2 : Int) (a3 : tKept.D) : Option (spec_CoreOf_R) :=
  both
    (dup
      (cond (room (([] : List tEntry.D).length + a3.2.2.2.1.length))
        (k2 a3 (0, 0, 0, 0, 0, 0, 0, 0, ([] : List tEntry.D), 0, ([] : List Int), ([] : List Int), ([] : List Int), ()) (a1, a2, a3.1, a3.2.1, 1, (-1), a3.2.2.1.1, a3.2.2.1.2.1, ([] : List tEntry.D) ++ a3.2.2.2.1, a3.2.2.1.1, ([] : List Int), ([] : List Int), ([] : List Int), ()))
        (none)))
    (cond (room (([] : List tEntry.D).length + a3.2.2.2.1.length))
      (k2 a3 (0, 0, 0, 0, 0, 0, 0, 0, ([] : List tEntry.D), 0, ([] : List Int), ([] : List Int), ([] : List Int), ()) (a1, a2, a3.1, a3.2.1, 1, (-1), a3.2.2.1.1, a3.2.2.1.2.1, ([] : List tEntry.D) ++ a3.2.2.2.1, a3.2.2.1.1, ([] : List Int), ([] : List Int), ([] : List Int), ()))
      (none))
def spec_CoreOf_b2 (k2 : spec_CoreOf_K2) (x1 : tKept.D) (x2 : tCore.D) (x3 : tCore.D) : Option (spec_CoreOf_R) :=
  (spec_KeptOk (x1, ())).bind fun v1 =>
  cond (!v1.1)
    (some ((0, 0, 0, 0, 0, 0, 0, 0, ([] : List tEntry.D), 0, ([] : List Int), ([] : List Int), ([] : List Int), ()), false, ()))
    ((spec_CoreOk (x3, ())).bind fun v2 =>
    cond (!v2.1)
      (some ((0, 0, 0, 0, 0, 0, 0, 0, ([] : List tEntry.D), 0, ([] : List Int), ([] : List Int), ([] : List Int), ()), false, ()))
      (some (x3, true, ())))
def spec_CoreOf_L2 : Nat → spec_CoreOf_K2
  | 0, _, _, _ => none
  | m + 1, x1, x2, x3 => spec_CoreOf_b2 (spec_CoreOf_L2 m) x1 x2 x3
def spec_CoreOf (x : Int × Int × tKept.D × Unit) : Option (spec_CoreOf_R) := spec_CoreOf_s (spec_CoreOf_L2 BIG) x.1 x.2.1 x.2.2.1

/-! spec.NewVol -/
def spec_NewVol_s  : Option (tVol.D × Unit) :=
  some ((2, [(1, 2, 493, 0, 0, ([] : List UInt8), ([] : List tDirent.D), 0, 0, ())], ()), ())
def spec_NewVol (x : Unit) : Option (tVol.D × Unit) := spec_NewVol_s 

/-! spec.NewTenant -/
def spec_NewTenant_s_v3 (v1 : tVol.D × Unit) (v3 : List tInode.D) : Option (tTenant.D × Unit) :=
  some (((v1.1.1, v3, ()), 30, ([] : List tNote.D), ([] : List tSession.D), ()), ())
def spec_NewTenant_s  : Option (tTenant.D × Unit) :=
  (spec_NewVol ()).bind fun v1 =>
  (ix v1.1.2.1.length 0).bind fun v2 =>
  spec_NewTenant_s_v3 v1 (v1.1.2.1.set (0 + v2) ((gd tInode v1.1.2.1 (0 + v2)).1, (gd tInode v1.1.2.1 (0 + v2)).2.1, 1023, (gd tInode v1.1.2.1 (0 + v2)).2.2.2.1, (gd tInode v1.1.2.1 (0 + v2)).2.2.2.2.1, (gd tInode v1.1.2.1 (0 + v2)).2.2.2.2.2.1, (gd tInode v1.1.2.1 (0 + v2)).2.2.2.2.2.2.1, (gd tInode v1.1.2.1 (0 + v2)).2.2.2.2.2.2.2.1, (gd tInode v1.1.2.1 (0 + v2)).2.2.2.2.2.2.2.2.1, ()))
def spec_NewTenant (x : Unit) : Option (tTenant.D × Unit) := spec_NewTenant_s 

/-! spec.NewState -/
abbrev spec_NewState_R : Type := (List tTenant.D) × Unit
abbrev spec_NewState_K3 : Type := Int → (List tTenant.D) → Option (spec_NewState_R)
def spec_NewState_s (k3 : spec_NewState_K3)  : Option (spec_NewState_R) :=
  k3 0 ([] : List tTenant.D)
def spec_NewState_b3 (k3 : spec_NewState_K3) (x1 : Int) (x2 : List tTenant.D) : Option (spec_NewState_R) :=
  cond (decide (x1 < 3))
    ((spec_NewTenant ()).bind fun v1 =>
    cond (room (x2.length + [v1.1].length))
      (k3 (w64 (x1 + 1)) (x2 ++ [v1.1]))
      (none))
    (some (x2, ()))
def spec_NewState_L3 : Nat → spec_NewState_K3
  | 0, _, _ => none
  | m + 1, x1, x2 => spec_NewState_b3 (spec_NewState_L3 m) x1 x2
def spec_NewState (x : Unit) : Option (spec_NewState_R) := spec_NewState_s (spec_NewState_L3 BIG) 

/-! spec.l14Rise -/
abbrev spec_l14Rise_R : Type := tNode.D × Bool × Unit
def spec_l14Rise_s (a1 : tNode.D) : Option (spec_l14Rise_R) :=
  cond a1.2.2.1
    (some (a1, false, ()))
    ((spec_CoreOf (a1.1, a1.2.1, a1.2.2.2.2.2.2.1.1, ())).bind fun v1 =>
    (spec_NewState ()).bind fun v2 =>
    cond (decide (a1.2.2.2.2.2.2.1.1.2.2.1.1 > 0))
      ((spec_ReadState (a1.2.2.2.2.2.2.1.1.2.2.1.2.2.1, ())).bind fun v3 =>
      cond v1.2.1
        (cond (!v3.2.1)
          (some (a1, false, ()))
          (some ((a1.1, a1.2.1, true, v1.1, v3.1, a1.2.2.2.2.2.2.1.1.2.2.1, a1.2.2.2.2.2.2.1, a1.2.2.2.2.2.2.2.1, a1.2.2.2.2.2.2.2.2.1, a1.2.2.2.2.2.2.2.2.2.1, ()), true, ())))
        (some (a1, false, ())))
      (cond (!v1.2.1)
        (some (a1, false, ()))
        (some ((a1.1, a1.2.1, true, v1.1, v2.1, a1.2.2.2.2.2.2.1.1.2.2.1, a1.2.2.2.2.2.2.1, a1.2.2.2.2.2.2.2.1, a1.2.2.2.2.2.2.2.2.1, a1.2.2.2.2.2.2.2.2.2.1, ()), true, ()))))
def spec_l14Rise (x : tNode.D × Unit) : Option (spec_l14Rise_R) := spec_l14Rise_s x.1

/-! spec.NodeNew -/
abbrev spec_NodeNew_R : Type := tNode.D × Bool × Unit
def spec_NodeNew_s (a1 : Int) (a2 : Int) : Option (spec_NodeNew_R) :=
  (spec_NewStore ()).bind fun v1 =>
  (spec_NodeOk ((a1, a2, false, (0, 0, 0, 0, 0, 0, 0, 0, ([] : List tEntry.D), 0, ([] : List Int), ([] : List Int), ([] : List Int), ()), ([] : List tTenant.D), (0, 0, ([] : List UInt8), ()), v1.1, ([] : List tSlot.D), (-1), 0, ()), ())).bind fun v2 =>
  cond (!v2.1)
    (some ((0, 0, false, (0, 0, 0, 0, 0, 0, 0, 0, ([] : List tEntry.D), 0, ([] : List Int), ([] : List Int), ([] : List Int), ()), ([] : List tTenant.D), (0, 0, ([] : List UInt8), ()), ((0, 0, (0, 0, ([] : List UInt8), ()), ([] : List tEntry.D), ()), ([] : List tRec.D), ()), ([] : List tSlot.D), 0, 0, ()), false, ()))
    ((spec_l14Rise ((a1, a2, false, (0, 0, 0, 0, 0, 0, 0, 0, ([] : List tEntry.D), 0, ([] : List Int), ([] : List Int), ([] : List Int), ()), ([] : List tTenant.D), (0, 0, ([] : List UInt8), ()), v1.1, ([] : List tSlot.D), (-1), 0, ()), ())).bind fun v3 =>
    some (v3.1, v3.2.1, ()))
def spec_NodeNew (x : Int × Int × Unit) : Option (spec_NodeNew_R) := spec_NodeNew_s x.1 x.2.1

/-! spec.NewCrew -/
abbrev spec_NewCrew_R : Type := tCrew.D × Bool × Unit
abbrev spec_NewCrew_K5 : Type := Int → Int → tCrew.D → tCrew.D → Option (spec_NewCrew_R)
def spec_NewCrew_s (k5 : spec_NewCrew_K5) (a1 : Int) : Option (spec_NewCrew_R) :=
  (spec_l1In (a1, 1, 5, ())).bind fun v1 =>
  cond (!v1.1)
    (some ((([] : List tNode.D), ([] : List tMsg.D), ([] : List tMail.D), ([] : List tEntry.D), false, ()), false, ()))
    (k5 a1 0 (([] : List tNode.D), ([] : List tMsg.D), ([] : List tMail.D), ([] : List tEntry.D), false, ()) (([] : List tNode.D), ([] : List tMsg.D), ([] : List tMail.D), ([] : List tEntry.D), false, ()))
def spec_NewCrew_b5 (k5 : spec_NewCrew_K5) (x1 : Int) (x2 : Int) (x3 : tCrew.D) (x4 : tCrew.D) : Option (spec_NewCrew_R) :=
  cond (decide (x2 < x1))
    ((spec_NodeNew (x2, x1, ())).bind fun v1 =>
    cond (room (x4.1.length + [v1.1].length))
      (k5 x1 (w64 (x2 + 1)) x3 (x4.1 ++ [v1.1], x4.2.1, x4.2.2.1, x4.2.2.2.1, x4.2.2.2.2.1, ()))
      (none))
    (some (x4, true, ()))
def spec_NewCrew_L5 : Nat → spec_NewCrew_K5
  | 0, _, _, _, _ => none
  | m + 1, x1, x2, x3, x4 => spec_NewCrew_b5 (spec_NewCrew_L5 m) x1 x2 x3 x4
def spec_NewCrew (x : Int × Unit) : Option (spec_NewCrew_R) := spec_NewCrew_s (spec_NewCrew_L5 BIG) x.1

/-! spec.NewWorld -/
abbrev spec_NewWorld_R : Type := tWorld.D × Bool × Unit
structure spec_NewWorld_K where
  k6 : Int → tSetup.D → tWorld.D → tWorld.D → Option (spec_NewWorld_R)
  k9 : Int → Int → tSetup.D → tWorld.D → tWorld.D → Option (spec_NewWorld_R)
def spec_NewWorld_s (k : spec_NewWorld_K) (a1 : tSetup.D) : Option (spec_NewWorld_R) :=
  (spec_NewCrew (a1.1, ())).bind fun v1 =>
  cond (!v1.2.1)
    (some (((([] : List tNode.D), ([] : List tMsg.D), ([] : List tMail.D), ([] : List tEntry.D), false, ()), ([] : List tClient.D), ([] : List tDone.D), ([] : List Int), ()), false, ()))
    ((spec_l1In (a1.2.1, 0, 2, ())).bind fun v2 =>
    cond (!v2.1)
      (some (((([] : List tNode.D), ([] : List tMsg.D), ([] : List tMail.D), ([] : List tEntry.D), false, ()), ([] : List tClient.D), ([] : List tDone.D), ([] : List Int), ()), false, ()))
      (dup
        (k.k6 0 a1 ((([] : List tNode.D), ([] : List tMsg.D), ([] : List tMail.D), ([] : List tEntry.D), false, ()), ([] : List tClient.D), ([] : List tDone.D), ([] : List Int), ()) (v1.1, ([] : List tClient.D), ([] : List tDone.D), List.replicate (Int.toNat 3) (0 : Int), ()))))
def spec_NewWorld_b6 (k : spec_NewWorld_K) (x1 : Int) (x2 : tSetup.D) (x3 : tWorld.D) (x4 : tWorld.D) : Option (spec_NewWorld_R) :=
  cond (decide (x1 < 3))
    (k.k9 x1 1 x2 x3 x4)
    (some (x4, true, ()))
def spec_NewWorld_b9_v1 (k : spec_NewWorld_K) (x1 : Int) (x2 : Int) (x3 : tSetup.D) (x4 : tWorld.D) (x5 : tWorld.D) (v1 : List tClient.D) : Option (spec_NewWorld_R) :=
  k.k9 x1 (w64 (x2 + 1)) x3 x4 (x5.1, v1, x5.2.2.1, x5.2.2.2.1, ())
def spec_NewWorld_b9 (k : spec_NewWorld_K) (x1 : Int) (x2 : Int) (x3 : tSetup.D) (x4 : tWorld.D) (x5 : tWorld.D) : Option (spec_NewWorld_R) :=
  cond (decide (x2 ≤ x3.2.1))
    (cond (room (x5.2.1.length + ([(x1, x2, 0, false, (0, ([] : List UInt8), ([] : List UInt8), 0, 0, ([] : List UInt8), ()), 0, ())]).length))
      (spec_NewWorld_b9_v1 k x1 x2 x3 x4 x5 (x5.2.1 ++ ([(x1, x2, 0, false, (0, ([] : List UInt8), ([] : List UInt8), 0, 0, ([] : List UInt8), ()), 0, ())])))
      (none))
    (k.k6 (w64 (x1 + 1)) x3 x4 x5)
def spec_NewWorld_N (k : spec_NewWorld_K) : spec_NewWorld_K := ⟨spec_NewWorld_b6 k, spec_NewWorld_b9 k⟩
def spec_NewWorld_L : Nat → spec_NewWorld_K := iterK spec_NewWorld_N ⟨fun _ _ _ _ => none, fun _ _ _ _ _ => none⟩
def spec_NewWorld (x : tSetup.D × Unit) : Option (spec_NewWorld_R) := spec_NewWorld_s (spec_NewWorld_L BIG) x.1

/-! laws.toSetup -/
def laws_toSetup_s (a1 : tSetup.D) : Option (tSetup.D × Unit) :=
  some (a1, ())
def laws_toSetup (x : tSetup.D × Unit) : Option (tSetup.D × Unit) := laws_toSetup_s x.1

/-! impl.within -/
def impl_within_s (a1 : Int) (a2 : Int) (a3 : Int) : Option (Bool × Unit) :=
  cond (decide (a1 ≥ a2))
    (some (decide (a1 ≤ a3), ()))
    (some (false, ()))
def impl_within (x : Int × Int × Int × Unit) : Option (Bool × Unit) := impl_within_s x.1 x.2.1 x.2.2.1

/-! impl.KeptOk -/
abbrev impl_KeptOk_K7 : Type := Int → (List tEntry.D) → Int → Int → tKept.D → Option (Bool × Unit)
def impl_KeptOk_s (k7 : impl_KeptOk_K7) (a1 : tKept.D) : Option (Bool × Unit) :=
  (impl_within (a1.1, 0, 100000, ())).bind fun v1 =>
  cond (!v1.1)
    (some (false, ()))
    ((impl_within (a1.2.1, (-1), 4, ())).bind fun v2 =>
    cond (!v2.1)
      (some (false, ()))
      (cond (decide ((a1.2.2.2.1.length : Int) > 60))
        (some (false, ()))
        (cond (!((a1.2.2.1.1 == 0) && ((a1.2.2.1.2.1 == 0) && (eqS a1.2.2.1.2.2.1 ([] : List UInt8) && true))))
          ((impl_within (a1.2.2.1.1, 1, 100000, ())).bind fun v3 =>
          cond (!v3.1)
            (some (false, ()))
            ((impl_within (a1.2.2.1.2.1, 1, a1.1, ())).bind fun v4 =>
            cond (!v4.1)
              (some (false, ()))
              (cond (decide ((a1.2.2.1.2.2.1.length : Int) > 20000))
                (some (false, ()))
                (k7 (mxI 1 a1.2.2.1.2.1) a1.2.2.2.1 (a1.2.2.2.1.length : Int) 0 a1))))
          (k7 (mxI 1 a1.2.2.1.2.1) a1.2.2.2.1 (a1.2.2.2.1.length : Int) 0 a1))))
def impl_KeptOk_b7 (k7 : impl_KeptOk_K7) (x1 : Int) (x2 : List tEntry.D) (x3 : Int) (x4 : Int) (x5 : tKept.D) : Option (Bool × Unit) :=
  cond (decide (x4 < x3))
    ((ix x2.length x4).bind fun v1 =>
    cond (decide ((((gd tEntry x2 v1).2.1).length : Int) > 1600))
      (some (false, ()))
      ((impl_within ((gd tEntry x2 v1).1, x1, x5.1, ())).bind fun v2 =>
      cond (!v2.1)
        (some (false, ()))
        (k7 ((gd tEntry x2 v1).1) x2 x3 (w64 (x4 + 1)) x5)))
    (some (decide (w64 (x5.2.2.1.1 + (x5.2.2.2.1.length : Int)) ≤ 100000), ()))
def impl_KeptOk_L7 : Nat → impl_KeptOk_K7
  | 0, _, _, _, _, _ => none
  | m + 1, x1, x2, x3, x4, x5 => impl_KeptOk_b7 (impl_KeptOk_L7 m) x1 x2 x3 x4 x5
def impl_KeptOk (x : tKept.D × Unit) : Option (Bool × Unit) := impl_KeptOk_s (impl_KeptOk_L7 BIG) x.1

/-! impl.copyKept -/
def impl_copyKept_s (a1 : tKept.D) : Option (tKept.D × Unit) :=
  cond (room (([] : List tEntry.D).length + a1.2.2.2.1.length))
    (some ((a1.1, a1.2.1, a1.2.2.1, ([] : List tEntry.D) ++ a1.2.2.2.1, ()), ()))
    (none)
def impl_copyKept (x : tKept.D × Unit) : Option (tKept.D × Unit) := impl_copyKept_s x.1

/-! impl.RecOk -/
def impl_RecOk_s (a1 : tRec.D) : Option (Bool × Unit) :=
  cond (a1.1 == 1)
    ((impl_within (a1.2.1, 0, 100000, ())).bind fun v1 =>
    cond v1.1
      ((impl_within (a1.2.2.2.1, (-1), 4, ())).bind fun v2 =>
      cond v2.1
        (some (((a1.1 == a1.1) && ((a1.2.1 == a1.2.1) && ((a1.2.2.1 == 0) && ((a1.2.2.2.1 == a1.2.2.2.1) && (eqS a1.2.2.2.2.1 ([] : List UInt8) && true))))), ()))
        (some (false, ())))
      (some (false, ())))
    (cond (a1.1 == 2)
      ((impl_within (a1.2.1, 1, 100000, ())).bind fun v3 =>
      cond v3.1
        ((impl_within (a1.2.2.1, 1, 100000, ())).bind fun v4 =>
        cond v4.1
          (cond (decide ((a1.2.2.2.2.1.length : Int) ≤ 1600))
            (some (((a1.1 == a1.1) && ((a1.2.1 == a1.2.1) && ((a1.2.2.1 == a1.2.2.1) && ((a1.2.2.2.1 == 0) && (eqS a1.2.2.2.2.1 a1.2.2.2.2.1 && true))))), ()))
            (some (false, ())))
          (some (false, ())))
        (some (false, ())))
      (cond (a1.1 == 3)
        ((impl_within (a1.2.2.1, 1, 100000, ())).bind fun v5 =>
        cond v5.1
          (some (((a1.1 == a1.1) && ((a1.2.1 == 0) && ((a1.2.2.1 == a1.2.2.1) && ((a1.2.2.2.1 == 0) && (eqS a1.2.2.2.2.1 ([] : List UInt8) && true))))), ()))
          (some (false, ())))
        (cond (a1.1 == 4)
          ((impl_within (a1.2.1, 1, 100000, ())).bind fun v6 =>
          cond v6.1
            ((impl_within (a1.2.2.1, 1, 100000, ())).bind fun v7 =>
            cond v7.1
              (cond (decide ((a1.2.2.2.2.1.length : Int) ≤ 20000))
                (some (((a1.1 == a1.1) && ((a1.2.1 == a1.2.1) && ((a1.2.2.1 == a1.2.2.1) && ((a1.2.2.2.1 == 0) && (eqS a1.2.2.2.2.1 a1.2.2.2.2.1 && true))))), ()))
                (some (false, ())))
              (some (false, ())))
            (some (false, ())))
          (some (false, ())))))
def impl_RecOk (x : tRec.D × Unit) : Option (Bool × Unit) := impl_RecOk_s x.1

/-! impl.Kept).last -/
def impl_Kept_last_s (a1 : tKept.D) : Option (Int × Int × Unit) :=
  cond ((a1.2.2.2.1.length : Int) == 0)
    (some (a1.2.2.1.1, a1.2.2.1.2.1, ()))
    ((ix a1.2.2.2.1.length (w64 ((a1.2.2.2.1.length : Int) - 1))).bind fun v1 =>
    some (w64 (a1.2.2.1.1 + (a1.2.2.2.1.length : Int)), (gd tEntry a1.2.2.2.1 v1).1, ()))
def impl_Kept_last (x : tKept.D × Unit) : Option (Int × Int × Unit) := impl_Kept_last_s x.1

/-! impl.Kept).fits -/
def impl_Kept_fits_s (a1 : tKept.D) (a2 : tRec.D) : Option (Bool × Unit) :=
  (impl_Kept_last (a1, ())).bind fun v1 =>
  cond (a2.1 == 1)
    (cond (decide (a2.2.1 > a1.1))
      (some (true, ()))
      (cond (a2.2.1 == a1.1)
        (cond (a1.2.1 == (-1))
          (some (true, ()))
          (some (a1.2.1 == a2.2.2.2.1, ())))
        (some (false, ()))))
    (cond (a2.1 == 2)
      (cond (a2.2.2.1 == w64 (v1.1 + 1))
        (cond (decide ((a1.2.2.2.1.length : Int) < 60))
          ((impl_within (a2.2.1, v1.2.1, a1.1, ())).bind fun v2 =>
          some (v2.1, ()))
          (some (false, ())))
        (some (false, ())))
      (cond (a2.1 == 3)
        ((impl_within (a2.2.2.1, w64 (a1.2.2.1.1 + 1), v1.1, ())).bind fun v3 =>
        some (v3.1, ()))
        (cond (decide (a2.2.2.1 > a1.2.2.1.1))
          (some (decide (a2.2.1 ≤ a1.1), ()))
          (some (false, ())))))
def impl_Kept_fits (x : tKept.D × tRec.D × Unit) : Option (Bool × Unit) := impl_Kept_fits_s x.1 x.2.1

/-! impl.Kept).step -/
abbrev impl_Kept_step_R : Type := Bool × tKept.D × Unit
def impl_Kept_step_s_v3 (a1 : tKept.D) (v3 : List tEntry.D) : Option (impl_Kept_step_R) :=
  some (true, (a1.1, a1.2.1, a1.2.2.1, v3, ()), ())
def impl_Kept_step_s_v7 (a1 : tKept.D) (a2 : tRec.D) (v7 : List tEntry.D) : Option (impl_Kept_step_R) :=
  some (true, (a1.1, a1.2.1, (a2.2.2.1, a2.2.1, a2.2.2.2.2.1, ()), v7, ()), ())
def impl_Kept_step_s (a1 : tKept.D) (a2 : tRec.D) : Option (impl_Kept_step_R) :=
  (impl_RecOk (a2, ())).bind fun v1 =>
  cond (!v1.1)
    (some (false, a1, ()))
    ((impl_Kept_fits (a1, a2, ())).bind fun v2 =>
    cond (!v2.1)
      (some (false, a1, ()))
      (cond (a2.1 == 1)
        (some (true, (a2.2.1, a2.2.2.2.1, a1.2.2.1, a1.2.2.2.1, ()), ()))
        (cond (a2.1 == 2)
          (cond (room (a1.2.2.2.1.length + [(a2.2.1, a2.2.2.2.2.1, ())].length))
            (impl_Kept_step_s_v3 a1 (a1.2.2.2.1 ++ [(a2.2.1, a2.2.2.2.2.1, ())]))
            (none))
          (cond (a2.1 == 3)
            (cond (decide (w64 (w64 (a2.2.2.1 - a1.2.2.1.1) - 1) = w64 (w64 (a2.2.2.1 - a1.2.2.1.1) - 1)))
              ((rng a1.2.2.2.1.length 0 (w64 (w64 (a2.2.2.1 - a1.2.2.1.1) - 1))).bind fun v4 =>
              some (true, (a1.1, a1.2.1, a1.2.2.1, part a1.2.2.2.1 (0 + v4.1) (v4.2 - v4.1), ()), ()))
              (none))
            (cond (decide (w64 (a2.2.2.1 - a1.2.2.1.1) ≤ (a1.2.2.2.1.length : Int)))
              ((ix a1.2.2.2.1.length (w64 (w64 (a2.2.2.1 - a1.2.2.1.1) - 1))).bind fun v5 =>
              cond ((gd tEntry a1.2.2.2.1 (0 + v5)).1 == a2.2.1)
                ((rng a1.2.2.2.1.length (w64 (a2.2.2.1 - a1.2.2.1.1)) (a1.2.2.2.1.length : Int)).bind fun v6 =>
                cond (room (([] : List tEntry.D).length + (part a1.2.2.2.1 (0 + v6.1) (v6.2 - v6.1)).length))
                  (impl_Kept_step_s_v7 a1 a2 (([] : List tEntry.D) ++ (part a1.2.2.2.1 (0 + v6.1) (v6.2 - v6.1))))
                  (none))
                (some (true, (a1.1, a1.2.1, (a2.2.2.1, a2.2.1, a2.2.2.2.2.1, ()), ([] : List tEntry.D), ()), ())))
              (some (true, (a1.1, a1.2.1, (a2.2.2.1, a2.2.1, a2.2.2.2.2.1, ()), ([] : List tEntry.D), ()), ())))))))
def impl_Kept_step (x : tKept.D × tRec.D × Unit) : Option (impl_Kept_step_R) := impl_Kept_step_s x.1 x.2.1

/-! impl.Store).held -/
abbrev impl_Store_held_R : Type := tKept.D × Bool × Unit
abbrev impl_Store_held_K5 : Type := (List tRec.D) → Int → Int → tKept.D → tKept.D → Option (impl_Store_held_R)
def impl_Store_held_s (k5 : impl_Store_held_K5) (a1 : tStore.D) : Option (impl_Store_held_R) :=
  (impl_KeptOk (a1.1, ())).bind fun v1 =>
  cond (!v1.1)
    (some ((0, 0, (0, 0, ([] : List UInt8), ()), ([] : List tEntry.D), ()), false, ()))
    (cond (decide ((a1.2.1.length : Int) > 80))
      (some ((0, 0, (0, 0, ([] : List UInt8), ()), ([] : List tEntry.D), ()), false, ()))
      ((impl_copyKept (a1.1, ())).bind fun v2 =>
      k5 a1.2.1 (a1.2.1.length : Int) 0 (0, 0, (0, 0, ([] : List UInt8), ()), ([] : List tEntry.D), ()) v2.1))
def impl_Store_held_b5 (k5 : impl_Store_held_K5) (x1 : List tRec.D) (x2 : Int) (x3 : Int) (x4 : tKept.D) (x5 : tKept.D) : Option (impl_Store_held_R) :=
  cond (decide (x3 < x2))
    ((ix x1.length x3).bind fun v1 =>
    (impl_Kept_step (x5, gd tRec x1 v1, ())).bind fun v2 =>
    cond (!v2.1)
      (some ((0, 0, (0, 0, ([] : List UInt8), ()), ([] : List tEntry.D), ()), false, ()))
      (k5 x1 x2 (w64 (x3 + 1)) x4 v2.2.1))
    (some (x5, true, ()))
def impl_Store_held_L5 : Nat → impl_Store_held_K5
  | 0, _, _, _, _, _ => none
  | m + 1, x1, x2, x3, x4, x5 => impl_Store_held_b5 (impl_Store_held_L5 m) x1 x2 x3 x4 x5
def impl_Store_held (x : tStore.D × Unit) : Option (impl_Store_held_R) := impl_Store_held_s (impl_Store_held_L5 BIG) x.1

/-! impl.StoreOk -/
def impl_StoreOk_s (a1 : tStore.D) : Option (Bool × Unit) :=
  (impl_Store_held (a1, ())).bind fun v1 =>
  some (v1.2.1, ())
def impl_StoreOk (x : tStore.D × Unit) : Option (Bool × Unit) := impl_StoreOk_s x.1

/-! impl.Node).upOk -/
def impl_Node_upOk (_ : tNode.D × Unit) : Option (Bool × Unit) := none

/-! impl.isNoCore -/
def impl_isNoCore_s (a1 : tCore.D) : Option (Bool × Unit) :=
  cond (a1.1 == 0)
    (cond (a1.2.1 == 0)
      (cond (a1.2.2.1 == 0)
        (cond (a1.2.2.2.1 == 0)
          (cond (a1.2.2.2.2.1 == 0)
            (cond (a1.2.2.2.2.2.1 == 0)
              (cond (a1.2.2.2.2.2.2.1 == 0)
                (cond (a1.2.2.2.2.2.2.2.1 == 0)
                  (cond (a1.2.2.2.2.2.2.2.2.2.1 == 0)
                    (some (w64 (w64 (w64 ((a1.2.2.2.2.2.2.2.2.1.length : Int) + (a1.2.2.2.2.2.2.2.2.2.2.1.length : Int)) + (a1.2.2.2.2.2.2.2.2.2.2.2.1.length : Int)) + (a1.2.2.2.2.2.2.2.2.2.2.2.2.1.length : Int)) == 0, ()))
                    (some (false, ())))
                  (some (false, ())))
                (some (false, ())))
              (some (false, ())))
            (some (false, ())))
          (some (false, ())))
        (some (false, ())))
      (some (false, ())))
    (some (false, ()))
def impl_isNoCore (x : tCore.D × Unit) : Option (Bool × Unit) := impl_isNoCore_s x.1

/-! impl.NodeOk -/
abbrev impl_NodeOk_K3 : Type := tNode.D → Option (Bool × Unit)
def impl_NodeOk_s (k3 : impl_NodeOk_K3) (a1 : tNode.D) : Option (Bool × Unit) :=
  (impl_within (a1.2.1, 1, 5, ())).bind fun v1 =>
  cond (!v1.1)
    (some (false, ()))
    ((impl_within (a1.1, 0, w64 (a1.2.1 - 1), ())).bind fun v2 =>
    cond (!v2.1)
      (some (false, ()))
      (cond (decide ((a1.2.2.2.2.2.2.1.2.1.length : Int) > 0))
        (some (false, ()))
        ((impl_StoreOk (a1.2.2.2.2.2.2.1, ())).bind fun v3 =>
        cond (!v3.1)
          (some (false, ()))
          ((impl_within (a1.2.2.2.2.2.2.2.2.1, (-1), 100, ())).bind fun v4 =>
          cond (!v4.1)
            (some (false, ()))
            ((impl_within (a1.2.2.2.2.2.2.2.2.2.1, 0, 80, ())).bind fun v5 =>
            cond (!v5.1)
              (some (false, ()))
              (cond (a1.2.2.2.2.2.2.2.2.1 == (-1))
                (cond (a1.2.2.2.2.2.2.2.2.2.1 != 0)
                  (some (false, ()))
                  (k3 a1))
                (k3 a1)))))))
def impl_NodeOk_b3 (k3 : impl_NodeOk_K3) (x1 : tNode.D) : Option (Bool × Unit) :=
  cond x1.2.2.1
    ((impl_Node_upOk (x1, ())).bind fun v1 =>
    some (v1.1, ()))
    (cond (x1.2.2.2.2.2.2.2.2.1 == (-1))
      ((impl_isNoCore (x1.2.2.2.1, ())).bind fun v2 =>
      cond v2.1
        (cond (w64 ((x1.2.2.2.2.1.length : Int) + (x1.2.2.2.2.2.2.2.1.length : Int)) == 0)
          (some (((x1.2.2.2.2.2.1.1 == 0) && ((x1.2.2.2.2.2.1.2.1 == 0) && (eqS x1.2.2.2.2.2.1.2.2.1 ([] : List UInt8) && true))), ()))
          (some (false, ())))
        (some (false, ())))
      (some (false, ())))
def impl_NodeOk_L3 : Nat → impl_NodeOk_K3
  | 0, _ => none
  | m + 1, x1 => impl_NodeOk_b3 (impl_NodeOk_L3 m) x1
def impl_NodeOk (x : tNode.D × Unit) : Option (Bool × Unit) := impl_NodeOk_s (impl_NodeOk_L3 BIG) x.1

/-! impl.copyInts -/
def impl_copyInts_s (a1 : List Int) : Option ((List Int) × Unit) :=
  cond (room (([] : List Int).length + a1.length))
    (some (([] : List Int) ++ a1, ()))
    (none)
def impl_copyInts (x : (List Int) × Unit) : Option ((List Int) × Unit) := impl_copyInts_s x.1

/-! impl.copyCore -/
def impl_copyCore_s_v1 (a1 : tCore.D) (v1 : List tEntry.D) : Option (tCore.D × Unit) :=
  (impl_copyInts (a1.2.2.2.2.2.2.2.2.2.2.1, ())).bind fun v2 =>
  (impl_copyInts (a1.2.2.2.2.2.2.2.2.2.2.2.1, ())).bind fun v3 =>
  (impl_copyInts (a1.2.2.2.2.2.2.2.2.2.2.2.2.1, ())).bind fun v4 =>
  some ((a1.1, a1.2.1, a1.2.2.1, a1.2.2.2.1, a1.2.2.2.2.1, a1.2.2.2.2.2.1, a1.2.2.2.2.2.2.1, a1.2.2.2.2.2.2.2.1, v1, a1.2.2.2.2.2.2.2.2.2.1, v2.1, v3.1, v4.1, ()), ())
def impl_copyCore_s (a1 : tCore.D) : Option (tCore.D × Unit) :=
  cond (room (([] : List tEntry.D).length + a1.2.2.2.2.2.2.2.2.1.length))
    (impl_copyCore_s_v1 a1 (([] : List tEntry.D) ++ a1.2.2.2.2.2.2.2.2.1))
    (none)
def impl_copyCore (x : tCore.D × Unit) : Option (tCore.D × Unit) := impl_copyCore_s x.1

/-! impl.copyVol -/
abbrev impl_copyVol_K3 : Type := (List tInode.D) → Int → Int → tVol.D → tVol.D → Option (tVol.D × Unit)
def impl_copyVol_s (k3 : impl_copyVol_K3) (a1 : tVol.D) : Option (tVol.D × Unit) :=
  k3 a1.2.1 (a1.2.1.length : Int) 0 (0, ([] : List tInode.D), ()) (a1.1, ([] : List tInode.D), ())
def impl_copyVol_b3_v3 (k3 : impl_copyVol_K3) (x1 : List tInode.D) (x2 : Int) (x3 : Int) (x4 : tVol.D) (x5 : tVol.D) (v3 : List tInode.D) : Option (tVol.D × Unit) :=
  k3 x1 x2 (w64 (x3 + 1)) x4 (x5.1, v3, ())
def impl_copyVol_b3_v2 (k3 : impl_copyVol_K3) (x5 : tVol.D) (x1 : List tInode.D) (v1 : Nat) (x2 : Int) (x3 : Int) (x4 : tVol.D) (v2 : List tDirent.D) : Option (tVol.D × Unit) :=
  cond (room (x5.2.1.length + [((gd tInode x1 v1).1, (gd tInode x1 v1).2.1, (gd tInode x1 v1).2.2.1, (gd tInode x1 v1).2.2.2.1, (gd tInode x1 v1).2.2.2.2.1, (gd tInode x1 v1).2.2.2.2.2.1, v2, (gd tInode x1 v1).2.2.2.2.2.2.2.1, (gd tInode x1 v1).2.2.2.2.2.2.2.2.1, ())].length))
    (impl_copyVol_b3_v3 k3 x1 x2 x3 x4 x5 (x5.2.1 ++ [((gd tInode x1 v1).1, (gd tInode x1 v1).2.1, (gd tInode x1 v1).2.2.1, (gd tInode x1 v1).2.2.2.1, (gd tInode x1 v1).2.2.2.2.1, (gd tInode x1 v1).2.2.2.2.2.1, v2, (gd tInode x1 v1).2.2.2.2.2.2.2.1, (gd tInode x1 v1).2.2.2.2.2.2.2.2.1, ())]))
    (none)
def impl_copyVol_b3 (k3 : impl_copyVol_K3) (x1 : List tInode.D) (x2 : Int) (x3 : Int) (x4 : tVol.D) (x5 : tVol.D) : Option (tVol.D × Unit) :=
  cond (decide (x3 < x2))
    ((ix x1.length x3).bind fun v1 =>
    cond (room (([] : List tDirent.D).length + ((gd tInode x1 v1).2.2.2.2.2.2.1).length))
      (impl_copyVol_b3_v2 k3 x5 x1 v1 x2 x3 x4 (([] : List tDirent.D) ++ ((gd tInode x1 v1).2.2.2.2.2.2.1)))
      (none))
    (some (x5, ()))
def impl_copyVol_L3 : Nat → impl_copyVol_K3
  | 0, _, _, _, _, _ => none
  | m + 1, x1, x2, x3, x4, x5 => impl_copyVol_b3 (impl_copyVol_L3 m) x1 x2 x3 x4 x5
def impl_copyVol (x : tVol.D × Unit) : Option (tVol.D × Unit) := impl_copyVol_s (impl_copyVol_L3 BIG) x.1

/-! impl.copyTenant -/
def impl_copyTenant_s (a1 : tTenant.D) : Option (tTenant.D × Unit) :=
  (impl_copyVol (a1.1, ())).bind fun v1 =>
  cond (room (([] : List tNote.D).length + a1.2.2.1.length))
    (cond (room (([] : List tSession.D).length + a1.2.2.2.1.length))
      (some ((v1.1, a1.2.1, ([] : List tNote.D) ++ a1.2.2.1, ([] : List tSession.D) ++ a1.2.2.2.1, ()), ()))
      (none))
    (none)
def impl_copyTenant (x : tTenant.D × Unit) : Option (tTenant.D × Unit) := impl_copyTenant_s x.1

/-! impl.copyTenants -/
abbrev impl_copyTenants_R : Type := (List tTenant.D) × Unit
abbrev impl_copyTenants_K3 : Type := (List tTenant.D) → Int → Int → (List tTenant.D) → Option (impl_copyTenants_R)
def impl_copyTenants_s (k3 : impl_copyTenants_K3) (a1 : List tTenant.D) : Option (impl_copyTenants_R) :=
  k3 a1 (a1.length : Int) 0 ([] : List tTenant.D)
def impl_copyTenants_b3 (k3 : impl_copyTenants_K3) (x1 : List tTenant.D) (x2 : Int) (x3 : Int) (x4 : List tTenant.D) : Option (impl_copyTenants_R) :=
  cond (decide (x3 < x2))
    ((ix x1.length x3).bind fun v1 =>
    (impl_copyTenant (gd tTenant x1 v1, ())).bind fun v2 =>
    cond (room (x4.length + [v2.1].length))
      (k3 x1 x2 (w64 (x3 + 1)) (x4 ++ [v2.1]))
      (none))
    (some (x4, ()))
def impl_copyTenants_L3 : Nat → impl_copyTenants_K3
  | 0, _, _, _, _ => none
  | m + 1, x1, x2, x3, x4 => impl_copyTenants_b3 (impl_copyTenants_L3 m) x1 x2 x3 x4
def impl_copyTenants (x : (List tTenant.D) × Unit) : Option (impl_copyTenants_R) := impl_copyTenants_s (impl_copyTenants_L3 BIG) x.1

/-! impl.copyStore -/
def impl_copyStore_s (a1 : tStore.D) : Option (tStore.D × Unit) :=
  (impl_copyKept (a1.1, ())).bind fun v1 =>
  cond (room (([] : List tRec.D).length + a1.2.1.length))
    (some ((v1.1, ([] : List tRec.D) ++ a1.2.1, ()), ()))
    (none)
def impl_copyStore (x : tStore.D × Unit) : Option (tStore.D × Unit) := impl_copyStore_s x.1

/-! impl.copyNode -/
def impl_copyNode_s_v4 (a1 : tNode.D) (v1 : tCore.D × Unit) (v2 : (List tTenant.D) × Unit) (v3 : tStore.D × Unit) (v4 : List tSlot.D) : Option (tNode.D × Unit) :=
  some ((a1.1, a1.2.1, a1.2.2.1, v1.1, v2.1, a1.2.2.2.2.2.1, v3.1, v4, a1.2.2.2.2.2.2.2.2.1, a1.2.2.2.2.2.2.2.2.2.1, ()), ())
def impl_copyNode_s (a1 : tNode.D) : Option (tNode.D × Unit) :=
  (impl_copyCore (a1.2.2.2.1, ())).bind fun v1 =>
  (impl_copyTenants (a1.2.2.2.2.1, ())).bind fun v2 =>
  (impl_copyStore (a1.2.2.2.2.2.2.1, ())).bind fun v3 =>
  cond (room (([] : List tSlot.D).length + a1.2.2.2.2.2.2.2.1.length))
    (impl_copyNode_s_v4 a1 v1 v2 v3 (([] : List tSlot.D) ++ a1.2.2.2.2.2.2.2.1))
    (none)
def impl_copyNode (x : tNode.D × Unit) : Option (tNode.D × Unit) := impl_copyNode_s x.1

/-! impl.ReadState -/
def impl_ReadState (_ : (List UInt8) × Unit) : Option ((List tTenant.D) × Bool × Unit) := none

/-! impl.Core).last -/
def impl_Core_last_s (a1 : tCore.D) : Option (Int × Unit) :=
  some (w64 (a1.2.2.2.2.2.2.1 + (a1.2.2.2.2.2.2.2.2.1.length : Int)), ())
def impl_Core_last (x : tCore.D × Unit) : Option (Int × Unit) := impl_Core_last_s x.1

/-! impl.Core).kept -/
def impl_Core_kept_s_v1 (a1 : tCore.D) (a2 : List UInt8) (v1 : List tEntry.D) : Option (tKept.D × Unit) :=
  cond (a1.2.2.2.2.2.2.1 != 0)
    (some ((a1.2.2.1, a1.2.2.2.1, (a1.2.2.2.2.2.2.1, a1.2.2.2.2.2.2.2.1, a2, ()), v1, ()), ()))
    (some ((a1.2.2.1, a1.2.2.2.1, (0, 0, ([] : List UInt8), ()), v1, ()), ()))
def impl_Core_kept_s (a1 : tCore.D) (a2 : List UInt8) : Option (tKept.D × Unit) :=
  dup
    (cond (room (([] : List tEntry.D).length + a1.2.2.2.2.2.2.2.2.1.length))
      (impl_Core_kept_s_v1 a1 a2 (([] : List tEntry.D) ++ a1.2.2.2.2.2.2.2.2.1))
      (none))
def impl_Core_kept (x : tCore.D × (List UInt8) × Unit) : Option (tKept.D × Unit) := impl_Core_kept_s x.1 x.2.1

/-! slices.Index[[]int,int] -/
abbrev slices_Index_int_int_K2 : Type := (List Int) → Int → Int → Int → Option (Int × Unit)
def slices_Index_int_int_s (k2 : slices_Index_int_int_K2) (a1 : List Int) (a2 : Int) : Option (Int × Unit) :=
  k2 a1 a2 (a1.length : Int) 0
def slices_Index_int_int_b2 (k2 : slices_Index_int_int_K2) (x1 : List Int) (x2 : Int) (x3 : Int) (x4 : Int) : Option (Int × Unit) :=
  cond (decide (x4 < x3))
    ((ix x1.length x4).bind fun v1 =>
    cond (x2 == gd (Ty.int .i64) x1 v1)
      (some (x4, ()))
      (k2 x1 x2 x3 (w64 (x4 + 1))))
    (some ((-1), ()))
def slices_Index_int_int_L2 : Nat → slices_Index_int_int_K2
  | 0, _, _, _, _ => none
  | m + 1, x1, x2, x3, x4 => slices_Index_int_int_b2 (slices_Index_int_int_L2 m) x1 x2 x3 x4
def slices_Index_int_int (x : (List Int) × Int × Unit) : Option (Int × Unit) := slices_Index_int_int_s (slices_Index_int_int_L2 BIG) x.1 x.2.1

/-! slices.Contains[[]int,int] -/
def slices_Contains_int_int_s (a1 : List Int) (a2 : Int) : Option (Bool × Unit) :=
  (slices_Index_int_int (a1, a2, ())).bind fun v1 =>
  some (decide (v1.1 ≥ 0), ())
def slices_Contains_int_int (x : (List Int) × Int × Unit) : Option (Bool × Unit) := slices_Contains_int_int_s x.1 x.2.1

/-! impl.Core).isMost -/
def impl_Core_isMost_s (a1 : tCore.D) (a2 : Int) : Option (Bool × Unit) :=
  some (decide (w64 (2 * a2) > a1.2.1), ())
def impl_Core_isMost (x : tCore.D × Int × Unit) : Option (Bool × Unit) := impl_Core_isMost_s x.1 x.2.1

/-! impl.Core).seekOk -/
abbrev impl_Core_seekOk_K2 : Type := tCore.D → (List Int) → Int → Int → Option (Bool × Unit)
def impl_Core_seekOk_s (k2 : impl_Core_seekOk_K2) (a1 : tCore.D) : Option (Bool × Unit) :=
  k2 a1 a1.2.2.2.2.2.2.2.2.2.2.1 (a1.2.2.2.2.2.2.2.2.2.2.1.length : Int) 0
def impl_Core_seekOk_b2 (k2 : impl_Core_seekOk_K2) (x1 : tCore.D) (x2 : List Int) (x3 : Int) (x4 : Int) : Option (Bool × Unit) :=
  cond (decide (x4 < x3))
    ((ix x2.length x4).bind fun v1 =>
    (impl_within (gd (Ty.int .i64) x2 v1, 0, w64 (x1.2.1 - 1), ())).bind fun v2 =>
    cond (!v2.1)
      (some (false, ()))
      (cond (decide (x4 > 0))
        ((ix x1.2.2.2.2.2.2.2.2.2.2.1.length (w64 (x4 - 1))).bind fun v3 =>
        cond (decide (gd (Ty.int .i64) x1.2.2.2.2.2.2.2.2.2.2.1 v3 ≥ gd (Ty.int .i64) x2 v1))
          (some (false, ()))
          (k2 x1 x2 x3 (w64 (x4 + 1))))
        (k2 x1 x2 x3 (w64 (x4 + 1)))))
    (cond (decide (x1.2.2.1 ≥ 1))
      (cond (x1.2.2.2.1 == x1.1)
        (cond (x1.2.2.2.2.2.1 == (-1))
          ((slices_Contains_int_int (x1.2.2.2.2.2.2.2.2.2.2.1, x1.1, ())).bind fun v4 =>
          cond v4.1
            ((impl_Core_isMost (x1, (x1.2.2.2.2.2.2.2.2.2.2.1.length : Int), ())).bind fun v5 =>
            cond (!v5.1)
              (some (w64 ((x1.2.2.2.2.2.2.2.2.2.2.2.1.length : Int) + (x1.2.2.2.2.2.2.2.2.2.2.2.2.1.length : Int)) == 0, ()))
              (some (false, ())))
            (some (false, ())))
          (some (false, ())))
        (some (false, ())))
      (some (false, ())))
def impl_Core_seekOk_L2 : Nat → impl_Core_seekOk_K2
  | 0, _, _, _, _ => none
  | m + 1, x1, x2, x3, x4 => impl_Core_seekOk_b2 (impl_Core_seekOk_L2 m) x1 x2 x3 x4
def impl_Core_seekOk (x : tCore.D × Unit) : Option (Bool × Unit) := impl_Core_seekOk_s (impl_Core_seekOk_L2 BIG) x.1

/-! impl.Core).leadOk -/
abbrev impl_Core_leadOk_K4 : Type := tCore.D → (List Int) → Int → Int → Option (Bool × Unit)
def impl_Core_leadOk_s (k4 : impl_Core_leadOk_K4) (a1 : tCore.D) : Option (Bool × Unit) :=
  cond (decide (a1.2.2.1 < 1))
    (some (false, ()))
    (cond (a1.2.2.2.1 != a1.1)
      (some (false, ()))
      (cond (a1.2.2.2.2.2.1 != a1.1)
        (some (false, ()))
        (cond (decide ((a1.2.2.2.2.2.2.2.2.2.2.1.length : Int) > 0))
          (some (false, ()))
          (cond ((a1.2.2.2.2.2.2.2.2.2.2.2.1.length : Int) != a1.2.1)
            (some (false, ()))
            (cond ((a1.2.2.2.2.2.2.2.2.2.2.2.2.1.length : Int) != a1.2.1)
              (some (false, ()))
              (k4 a1 a1.2.2.2.2.2.2.2.2.2.2.2.2.1 (a1.2.2.2.2.2.2.2.2.2.2.2.2.1.length : Int) 0))))))
def impl_Core_leadOk_b4 (k4 : impl_Core_leadOk_K4) (x1 : tCore.D) (x2 : List Int) (x3 : Int) (x4 : Int) : Option (Bool × Unit) :=
  cond (decide (x4 < x3))
    ((ix x2.length x4).bind fun v1 =>
    cond (decide (gd (Ty.int .i64) x2 v1 < 0))
      (some (false, ()))
      ((ix x1.2.2.2.2.2.2.2.2.2.2.2.1.length x4).bind fun v2 =>
      cond (decide (gd (Ty.int .i64) x1.2.2.2.2.2.2.2.2.2.2.2.1 v2 ≤ gd (Ty.int .i64) x2 v1))
        (some (false, ()))
        ((ix x1.2.2.2.2.2.2.2.2.2.2.2.1.length x4).bind fun v3 =>
        (impl_Core_last (x1, ())).bind fun v4 =>
        cond (decide (gd (Ty.int .i64) x1.2.2.2.2.2.2.2.2.2.2.2.1 v3 > w64 (v4.1 + 1)))
          (some (false, ()))
          (k4 x1 x2 x3 (w64 (x4 + 1))))))
    ((ix x1.2.2.2.2.2.2.2.2.2.2.2.2.1.length x1.1).bind fun v5 =>
    (impl_Core_last (x1, ())).bind fun v6 =>
    some (gd (Ty.int .i64) x1.2.2.2.2.2.2.2.2.2.2.2.2.1 v5 == v6.1, ()))
def impl_Core_leadOk_L4 : Nat → impl_Core_leadOk_K4
  | 0, _, _, _, _ => none
  | m + 1, x1, x2, x3, x4 => impl_Core_leadOk_b4 (impl_Core_leadOk_L4 m) x1 x2 x3 x4
def impl_Core_leadOk (x : tCore.D × Unit) : Option (Bool × Unit) := impl_Core_leadOk_s (impl_Core_leadOk_L4 BIG) x.1

/-! impl.CoreOk -/
abbrev impl_CoreOk_K3 : Type := tCore.D → Option (Bool × Unit)
def impl_CoreOk_s (k3 : impl_CoreOk_K3) (a1 : tCore.D) : Option (Bool × Unit) :=
  (impl_within (a1.2.1, 1, 5, ())).bind fun v1 =>
  cond (!v1.1)
    (some (false, ()))
    ((impl_within (a1.1, 0, w64 (a1.2.1 - 1), ())).bind fun v2 =>
    cond (!v2.1)
      (some (false, ()))
      (cond (decide (a1.2.2.2.1 ≥ a1.2.1))
        (some (false, ()))
        (cond (decide (a1.2.2.2.2.2.2.1 < 0))
          (some (false, ()))
          (cond (a1.2.2.2.2.2.2.1 == 0)
            (cond (a1.2.2.2.2.2.2.2.1 != 0)
              (some (false, ()))
              ((impl_Core_kept (a1, ([] : List UInt8), ())).bind fun v3 =>
              (impl_KeptOk (v3.1, ())).bind fun v4 =>
              cond (!v4.1)
                (some (false, ()))
                ((impl_Core_last (a1, ())).bind fun v5 =>
                (impl_within (a1.2.2.2.2.2.2.2.2.2.1, a1.2.2.2.2.2.2.1, v5.1, ())).bind fun v6 =>
                cond (!v6.1)
                  (some (false, ()))
                  (k3 a1))))
            ((impl_Core_kept (a1, ([] : List UInt8), ())).bind fun v7 =>
            (impl_KeptOk (v7.1, ())).bind fun v8 =>
            cond (!v8.1)
              (some (false, ()))
              ((impl_Core_last (a1, ())).bind fun v9 =>
              (impl_within (a1.2.2.2.2.2.2.2.2.2.1, a1.2.2.2.2.2.2.1, v9.1, ())).bind fun v10 =>
              cond (!v10.1)
                (some (false, ()))
                (k3 a1)))))))
def impl_CoreOk_b3 (k3 : impl_CoreOk_K3) (x1 : tCore.D) : Option (Bool × Unit) :=
  cond (x1.2.2.2.2.1 == 1)
    ((impl_within (x1.2.2.2.2.2.1, (-1), w64 (x1.2.1 - 1), ())).bind fun v1 =>
    cond v1.1
      (cond (x1.2.2.2.2.2.1 != x1.1)
        (some (w64 (w64 ((x1.2.2.2.2.2.2.2.2.2.2.1.length : Int) + (x1.2.2.2.2.2.2.2.2.2.2.2.1.length : Int)) + (x1.2.2.2.2.2.2.2.2.2.2.2.2.1.length : Int)) == 0, ()))
        (some (false, ())))
      (some (false, ())))
    (cond (x1.2.2.2.2.1 == 2)
      ((impl_Core_seekOk (x1, ())).bind fun v2 =>
      some (v2.1, ()))
      (cond (x1.2.2.2.2.1 == 3)
        ((impl_Core_leadOk (x1, ())).bind fun v3 =>
        some (v3.1, ()))
        (some (false, ()))))
def impl_CoreOk_L3 : Nat → impl_CoreOk_K3
  | 0, _ => none
  | m + 1, x1 => impl_CoreOk_b3 (impl_CoreOk_L3 m) x1
def impl_CoreOk (x : tCore.D × Unit) : Option (Bool × Unit) := impl_CoreOk_s (impl_CoreOk_L3 BIG) x.1

/-! impl.CoreOf -/
abbrev impl_CoreOf_R : Type := tCore.D × Bool × Unit
def impl_CoreOf_s (a1 : Int) (a2 : Int) (a3 : tKept.D) : Option (impl_CoreOf_R) :=
  (impl_KeptOk (a3, ())).bind fun v1 =>
  cond (!v1.1)
    (some ((0, 0, 0, 0, 0, 0, 0, 0, ([] : List tEntry.D), 0, ([] : List Int), ([] : List Int), ([] : List Int), ()), false, ()))
    (dup
      (cond (room (([] : List tEntry.D).length + a3.2.2.2.1.length))
        ((impl_CoreOk ((a1, a2, a3.1, a3.2.1, 1, (-1), a3.2.2.1.1, a3.2.2.1.2.1, ([] : List tEntry.D) ++ a3.2.2.2.1, a3.2.2.1.1, ([] : List Int), ([] : List Int), ([] : List Int), ()), ())).bind fun v2 =>
        cond (!v2.1)
          (some ((0, 0, 0, 0, 0, 0, 0, 0, ([] : List tEntry.D), 0, ([] : List Int), ([] : List Int), ([] : List Int), ()), false, ()))
          (some ((a1, a2, a3.1, a3.2.1, 1, (-1), a3.2.2.1.1, a3.2.2.1.2.1, ([] : List tEntry.D) ++ a3.2.2.2.1, a3.2.2.1.1, ([] : List Int), ([] : List Int), ([] : List Int), ()), true, ())))
        (none)))
def impl_CoreOf (x : Int × Int × tKept.D × Unit) : Option (impl_CoreOf_R) := impl_CoreOf_s x.1 x.2.1 x.2.2.1

/-! impl.NewVol -/
def impl_NewVol_s  : Option (tVol.D × Unit) :=
  some ((2, [(1, 2, 493, 0, 0, ([] : List UInt8), ([] : List tDirent.D), 0, 0, ())], ()), ())
def impl_NewVol (x : Unit) : Option (tVol.D × Unit) := impl_NewVol_s 

/-! impl.NewTenant -/
def impl_NewTenant_s_v3 (v1 : tVol.D × Unit) (v3 : List tInode.D) : Option (tTenant.D × Unit) :=
  some (((v1.1.1, v3, ()), 30, ([] : List tNote.D), ([] : List tSession.D), ()), ())
def impl_NewTenant_s  : Option (tTenant.D × Unit) :=
  (impl_NewVol ()).bind fun v1 =>
  (ix v1.1.2.1.length 0).bind fun v2 =>
  impl_NewTenant_s_v3 v1 (v1.1.2.1.set (0 + v2) ((gd tInode v1.1.2.1 (0 + v2)).1, (gd tInode v1.1.2.1 (0 + v2)).2.1, 1023, (gd tInode v1.1.2.1 (0 + v2)).2.2.2.1, (gd tInode v1.1.2.1 (0 + v2)).2.2.2.2.1, (gd tInode v1.1.2.1 (0 + v2)).2.2.2.2.2.1, (gd tInode v1.1.2.1 (0 + v2)).2.2.2.2.2.2.1, (gd tInode v1.1.2.1 (0 + v2)).2.2.2.2.2.2.2.1, (gd tInode v1.1.2.1 (0 + v2)).2.2.2.2.2.2.2.2.1, ()))
def impl_NewTenant (x : Unit) : Option (tTenant.D × Unit) := impl_NewTenant_s 

/-! impl.NewState -/
abbrev impl_NewState_R : Type := (List tTenant.D) × Unit
abbrev impl_NewState_K3 : Type := Int → (List tTenant.D) → Option (impl_NewState_R)
def impl_NewState_s (k3 : impl_NewState_K3)  : Option (impl_NewState_R) :=
  k3 0 ([] : List tTenant.D)
def impl_NewState_b3 (k3 : impl_NewState_K3) (x1 : Int) (x2 : List tTenant.D) : Option (impl_NewState_R) :=
  cond (decide (x1 < 3))
    ((impl_NewTenant ()).bind fun v1 =>
    cond (room (x2.length + [v1.1].length))
      (k3 (w64 (x1 + 1)) (x2 ++ [v1.1]))
      (none))
    (some (x2, ()))
def impl_NewState_L3 : Nat → impl_NewState_K3
  | 0, _, _ => none
  | m + 1, x1, x2 => impl_NewState_b3 (impl_NewState_L3 m) x1 x2
def impl_NewState (x : Unit) : Option (impl_NewState_R) := impl_NewState_s (impl_NewState_L3 BIG) 

/-! impl.Node).rise -/
abbrev impl_Node_rise_R : Type := Bool × tNode.D × Unit
def impl_Node_rise_s (a1 : tNode.D) : Option (impl_Node_rise_R) :=
  dup
    ((impl_CoreOf (a1.1, a1.2.1, a1.2.2.2.2.2.2.1.1, ())).bind fun v1 =>
    cond a1.2.2.1
      (some (false, a1, ()))
      (cond (!v1.2.1)
        (some (false, a1, ()))
        ((impl_NewState ()).bind fun v2 =>
        cond (!((a1.2.2.2.2.2.2.1.1.2.2.1.1 == 0) && ((a1.2.2.2.2.2.2.1.1.2.2.1.2.1 == 0) && (eqS a1.2.2.2.2.2.2.1.1.2.2.1.2.2.1 ([] : List UInt8) && true))))
          ((impl_ReadState (a1.2.2.2.2.2.2.1.1.2.2.1.2.2.1, ())).bind fun v3 =>
          cond (!v3.2.1)
            (some (false, a1, ()))
            (some (true, (a1.1, a1.2.1, true, v1.1, v3.1, a1.2.2.2.2.2.2.1.1.2.2.1, a1.2.2.2.2.2.2.1, ([] : List tSlot.D), (-1), a1.2.2.2.2.2.2.2.2.2.1, ()), ())))
          (some (true, (a1.1, a1.2.1, true, v1.1, v2.1, a1.2.2.2.2.2.2.1.1.2.2.1, a1.2.2.2.2.2.2.1, ([] : List tSlot.D), (-1), a1.2.2.2.2.2.2.2.2.2.1, ()), ())))))
def impl_Node_rise (x : tNode.D × Unit) : Option (impl_Node_rise_R) := impl_Node_rise_s x.1

/-! impl.NodeRise -/
abbrev impl_NodeRise_R : Type := tNode.D × Bool × Unit
def impl_NodeRise_s (a1 : tNode.D) : Option (impl_NodeRise_R) :=
  (impl_NodeOk (a1, ())).bind fun v1 =>
  cond (!v1.1)
    (some ((0, 0, false, (0, 0, 0, 0, 0, 0, 0, 0, ([] : List tEntry.D), 0, ([] : List Int), ([] : List Int), ([] : List Int), ()), ([] : List tTenant.D), (0, 0, ([] : List UInt8), ()), ((0, 0, (0, 0, ([] : List UInt8), ()), ([] : List tEntry.D), ()), ([] : List tRec.D), ()), ([] : List tSlot.D), 0, 0, ()), false, ()))
    ((impl_copyNode (a1, ())).bind fun v2 =>
    (impl_Node_rise (v2.1, ())).bind fun v3 =>
    some (v3.2.1, v3.1, ()))
def impl_NodeRise (x : tNode.D × Unit) : Option (impl_NodeRise_R) := impl_NodeRise_s x.1

/-! impl.NewStore -/
def impl_NewStore_s  : Option (tStore.D × Unit) :=
  some (((0, (-1), (0, 0, ([] : List UInt8), ()), ([] : List tEntry.D), ()), ([] : List tRec.D), ()), ())
def impl_NewStore (x : Unit) : Option (tStore.D × Unit) := impl_NewStore_s 

/-! impl.NodeNew -/
abbrev impl_NodeNew_R : Type := tNode.D × Bool × Unit
def impl_NodeNew_s (a1 : Int) (a2 : Int) : Option (impl_NodeNew_R) :=
  (impl_within (a2, 1, 5, ())).bind fun v1 =>
  cond (!v1.1)
    (some ((0, 0, false, (0, 0, 0, 0, 0, 0, 0, 0, ([] : List tEntry.D), 0, ([] : List Int), ([] : List Int), ([] : List Int), ()), ([] : List tTenant.D), (0, 0, ([] : List UInt8), ()), ((0, 0, (0, 0, ([] : List UInt8), ()), ([] : List tEntry.D), ()), ([] : List tRec.D), ()), ([] : List tSlot.D), 0, 0, ()), false, ()))
    ((impl_within (a1, 0, w64 (a2 - 1), ())).bind fun v2 =>
    cond (!v2.1)
      (some ((0, 0, false, (0, 0, 0, 0, 0, 0, 0, 0, ([] : List tEntry.D), 0, ([] : List Int), ([] : List Int), ([] : List Int), ()), ([] : List tTenant.D), (0, 0, ([] : List UInt8), ()), ((0, 0, (0, 0, ([] : List UInt8), ()), ([] : List tEntry.D), ()), ([] : List tRec.D), ()), ([] : List tSlot.D), 0, 0, ()), false, ()))
      ((impl_NewStore ()).bind fun v3 =>
      (impl_NodeRise ((a1, a2, false, (0, 0, 0, 0, 0, 0, 0, 0, ([] : List tEntry.D), 0, ([] : List Int), ([] : List Int), ([] : List Int), ()), ([] : List tTenant.D), (0, 0, ([] : List UInt8), ()), v3.1, ([] : List tSlot.D), (-1), 0, ()), ())).bind fun v4 =>
      some (v4.1, v4.2.1, ())))
def impl_NodeNew (x : Int × Int × Unit) : Option (impl_NodeNew_R) := impl_NodeNew_s x.1 x.2.1

/-! impl.NewCrew -/
abbrev impl_NewCrew_R : Type := tCrew.D × Bool × Unit
abbrev impl_NewCrew_K5 : Type := Int → Int → Int → tCrew.D → tCrew.D → Option (impl_NewCrew_R)
def impl_NewCrew_s (k5 : impl_NewCrew_K5) (a1 : Int) : Option (impl_NewCrew_R) :=
  (impl_within (a1, 1, 5, ())).bind fun v1 =>
  cond (!v1.1)
    (some ((([] : List tNode.D), ([] : List tMsg.D), ([] : List tMail.D), ([] : List tEntry.D), false, ()), false, ()))
    (k5 a1 a1 0 (([] : List tNode.D), ([] : List tMsg.D), ([] : List tMail.D), ([] : List tEntry.D), false, ()) (([] : List tNode.D), ([] : List tMsg.D), ([] : List tMail.D), ([] : List tEntry.D), false, ()))
def impl_NewCrew_b5 (k5 : impl_NewCrew_K5) (x1 : Int) (x2 : Int) (x3 : Int) (x4 : tCrew.D) (x5 : tCrew.D) : Option (impl_NewCrew_R) :=
  cond (decide (x3 < x2))
    ((impl_NodeNew (x3, x1, ())).bind fun v1 =>
    cond (room (x5.1.length + [v1.1].length))
      (k5 x1 x2 (w64 (x3 + 1)) x4 (x5.1 ++ [v1.1], x5.2.1, x5.2.2.1, x5.2.2.2.1, x5.2.2.2.2.1, ()))
      (none))
    (some (x5, true, ()))
def impl_NewCrew_L5 : Nat → impl_NewCrew_K5
  | 0, _, _, _, _, _ => none
  | m + 1, x1, x2, x3, x4, x5 => impl_NewCrew_b5 (impl_NewCrew_L5 m) x1 x2 x3 x4 x5
def impl_NewCrew (x : Int × Unit) : Option (impl_NewCrew_R) := impl_NewCrew_s (impl_NewCrew_L5 BIG) x.1

/-! impl.NewWorld -/
abbrev impl_NewWorld_R : Type := tWorld.D × Bool × Unit
structure impl_NewWorld_K where
  k6 : Int → tSetup.D → tWorld.D → tWorld.D → Option (impl_NewWorld_R)
  k9 : Int → Int → Int → Int → tSetup.D → tWorld.D → tWorld.D → Option (impl_NewWorld_R)
def impl_NewWorld_s (k : impl_NewWorld_K) (a1 : tSetup.D) : Option (impl_NewWorld_R) :=
  (impl_NewCrew (a1.1, ())).bind fun v1 =>
  cond (!v1.2.1)
    (some (((([] : List tNode.D), ([] : List tMsg.D), ([] : List tMail.D), ([] : List tEntry.D), false, ()), ([] : List tClient.D), ([] : List tDone.D), ([] : List Int), ()), false, ()))
    ((impl_within (a1.2.1, 0, 2, ())).bind fun v2 =>
    cond (!v2.1)
      (some (((([] : List tNode.D), ([] : List tMsg.D), ([] : List tMail.D), ([] : List tEntry.D), false, ()), ([] : List tClient.D), ([] : List tDone.D), ([] : List Int), ()), false, ()))
      (dup
        (k.k6 0 a1 ((([] : List tNode.D), ([] : List tMsg.D), ([] : List tMail.D), ([] : List tEntry.D), false, ()), ([] : List tClient.D), ([] : List tDone.D), ([] : List Int), ()) (v1.1, ([] : List tClient.D), ([] : List tDone.D), List.replicate (Int.toNat 3) (0 : Int), ()))))
def impl_NewWorld_b6 (k : impl_NewWorld_K) (x1 : Int) (x2 : tSetup.D) (x3 : tWorld.D) (x4 : tWorld.D) : Option (impl_NewWorld_R) :=
  cond (decide (x1 < 3))
    (k.k9 x1 x1 x2.2.1 0 x2 x3 x4)
    (some (x4, true, ()))
def impl_NewWorld_b9_v1 (k : impl_NewWorld_K) (x1 : Int) (x2 : Int) (x3 : Int) (x4 : Int) (x5 : tSetup.D) (x6 : tWorld.D) (x7 : tWorld.D) (v1 : List tClient.D) : Option (impl_NewWorld_R) :=
  k.k9 x1 x2 x3 (w64 (x4 + 1)) x5 x6 (x7.1, v1, x7.2.2.1, x7.2.2.2.1, ())
def impl_NewWorld_b9 (k : impl_NewWorld_K) (x1 : Int) (x2 : Int) (x3 : Int) (x4 : Int) (x5 : tSetup.D) (x6 : tWorld.D) (x7 : tWorld.D) : Option (impl_NewWorld_R) :=
  cond (decide (x4 < x3))
    (cond (room (x7.2.1.length + ([(x1, w64 (x4 + 1), 0, false, (0, ([] : List UInt8), ([] : List UInt8), 0, 0, ([] : List UInt8), ()), 0, ())]).length))
      (impl_NewWorld_b9_v1 k x1 x2 x3 x4 x5 x6 x7 (x7.2.1 ++ ([(x1, w64 (x4 + 1), 0, false, (0, ([] : List UInt8), ([] : List UInt8), 0, 0, ([] : List UInt8), ()), 0, ())])))
      (none))
    (k.k6 (w64 (x2 + 1)) x5 x6 x7)
def impl_NewWorld_N (k : impl_NewWorld_K) : impl_NewWorld_K := ⟨impl_NewWorld_b6 k, impl_NewWorld_b9 k⟩
def impl_NewWorld_L : Nat → impl_NewWorld_K := iterK impl_NewWorld_N ⟨fun _ _ _ _ => none, fun _ _ _ _ _ _ _ => none⟩
def impl_NewWorld (x : tSetup.D × Unit) : Option (impl_NewWorld_R) := impl_NewWorld_s (impl_NewWorld_L BIG) x.1

/-! laws.markIntS -/
abbrev laws_markIntS_R : Type := Int × (List Int) × Unit
abbrev laws_markIntS_K2 : Type := Int → Int → (List Int) → Option (laws_markIntS_R)
def laws_markIntS_s (k2 : laws_markIntS_K2) (a1 : List Int) (a2 : Int) : Option (laws_markIntS_R) :=
  k2 a2 0 a1
def laws_markIntS_b2 (k2 : laws_markIntS_K2) (x1 : Int) (x2 : Int) (x3 : List Int) : Option (laws_markIntS_R) :=
  cond (decide (x2 < (x3.length : Int)))
    ((ix x3.length x2).bind fun v1 =>
    k2 (w64 (x1 + 1)) (w64 (x2 + 1)) (x3.set (0 + v1) x1))
    (some (x1, x3, ()))
def laws_markIntS_L2 : Nat → laws_markIntS_K2
  | 0, _, _, _ => none
  | m + 1, x1, x2, x3 => laws_markIntS_b2 (laws_markIntS_L2 m) x1 x2 x3
def laws_markIntS (x : (List Int) × Int × Unit) : Option (laws_markIntS_R) := laws_markIntS_s (laws_markIntS_L2 BIG) x.1 x.2.1

/-! laws.markText -/
abbrev laws_markText_K4 : Type := Int → (List UInt8) → Option ((List UInt8) × Unit)
def laws_markText_s (k4 : laws_markText_K4) (a1 : Int) : Option ((List UInt8) × Unit) :=
  cond (decide (a1 ≤ 0))
    (some (([109, 48] : List UInt8), ()))
    (k4 a1 ([] : List UInt8))
def laws_markText_b4 (k4 : laws_markText_K4) (x1 : Int) (x2 : List UInt8) : Option ((List UInt8) × Unit) :=
  cond (decide (x1 > 0))
    (cond (room ((bytesStr [IntKind.wrap .u8 (w64 (48 + Int.tmod x1 10))]).length + x2.length))
      (k4 (w64 (Int.tdiv x1 10)) ((bytesStr [IntKind.wrap .u8 (w64 (48 + Int.tmod x1 10))]) ++ x2))
      (none))
    (cond (room (([109] : List UInt8).length + x2.length))
      (some (([109] : List UInt8) ++ x2, ()))
      (none))
def laws_markText_L4 : Nat → laws_markText_K4
  | 0, _, _ => none
  | m + 1, x1, x2 => laws_markText_b4 (laws_markText_L4 m) x1 x2
def laws_markText (x : Int × Unit) : Option ((List UInt8) × Unit) := laws_markText_s (laws_markText_L4 BIG) x.1

/-! laws.markEntryS -/
abbrev laws_markEntryS_R : Type := Int × (List tEntry.D) × Unit
abbrev laws_markEntryS_K2 : Type := Int → Int → (List tEntry.D) → Option (laws_markEntryS_R)
def laws_markEntryS_s (k2 : laws_markEntryS_K2) (a1 : List tEntry.D) (a2 : Int) : Option (laws_markEntryS_R) :=
  k2 a2 0 a1
def laws_markEntryS_b2_v5 (k2 : laws_markEntryS_K2) (x1 : Int) (x2 : Int) (v5 : List tEntry.D) : Option (laws_markEntryS_R) :=
  k2 (w64 (w64 (x1 + 1) + 1)) (w64 (x2 + 1)) v5
def laws_markEntryS_b2_v2 (k2 : laws_markEntryS_K2) (x1 : Int) (x2 : Int) (v2 : List tEntry.D) : Option (laws_markEntryS_R) :=
  (laws_markText (w64 (x1 + 1), ())).bind fun v3 =>
  (ix v2.length x2).bind fun v4 =>
  laws_markEntryS_b2_v5 k2 x1 x2 (v2.set (0 + v4) ((gd tEntry v2 (0 + v4)).1, v3.1, ()))
def laws_markEntryS_b2 (k2 : laws_markEntryS_K2) (x1 : Int) (x2 : Int) (x3 : List tEntry.D) : Option (laws_markEntryS_R) :=
  cond (decide (x2 < (x3.length : Int)))
    ((ix x3.length x2).bind fun v1 =>
    laws_markEntryS_b2_v2 k2 x1 x2 (x3.set (0 + v1) (x1, (gd tEntry x3 (0 + v1)).2.1, ())))
    (some (x1, x3, ()))
def laws_markEntryS_L2 : Nat → laws_markEntryS_K2
  | 0, _, _, _ => none
  | m + 1, x1, x2, x3 => laws_markEntryS_b2 (laws_markEntryS_L2 m) x1 x2 x3
def laws_markEntryS (x : (List tEntry.D) × Int × Unit) : Option (laws_markEntryS_R) := laws_markEntryS_s (laws_markEntryS_L2 BIG) x.1 x.2.1

/-! laws.markDirentS -/
abbrev laws_markDirentS_R : Type := Int × (List tDirent.D) × Unit
abbrev laws_markDirentS_K2 : Type := Int → Int → (List tDirent.D) → Option (laws_markDirentS_R)
def laws_markDirentS_s (k2 : laws_markDirentS_K2) (a1 : List tDirent.D) (a2 : Int) : Option (laws_markDirentS_R) :=
  k2 a2 0 a1
def laws_markDirentS_b2_v5 (k2 : laws_markDirentS_K2) (x1 : Int) (x2 : Int) (v5 : List tDirent.D) : Option (laws_markDirentS_R) :=
  k2 (w64 (w64 (x1 + 1) + 1)) (w64 (x2 + 1)) v5
def laws_markDirentS_b2_v3 (k2 : laws_markDirentS_K2) (x2 : Int) (x1 : Int) (v3 : List tDirent.D) : Option (laws_markDirentS_R) :=
  (ix v3.length x2).bind fun v4 =>
  laws_markDirentS_b2_v5 k2 x1 x2 (v3.set (0 + v4) ((gd tDirent v3 (0 + v4)).1, w64 (x1 + 1), ()))
def laws_markDirentS_b2 (k2 : laws_markDirentS_K2) (x1 : Int) (x2 : Int) (x3 : List tDirent.D) : Option (laws_markDirentS_R) :=
  cond (decide (x2 < (x3.length : Int)))
    ((laws_markText (x1, ())).bind fun v1 =>
    (ix x3.length x2).bind fun v2 =>
    laws_markDirentS_b2_v3 k2 x2 x1 (x3.set (0 + v2) (v1.1, (gd tDirent x3 (0 + v2)).2.1, ())))
    (some (x1, x3, ()))
def laws_markDirentS_L2 : Nat → laws_markDirentS_K2
  | 0, _, _, _ => none
  | m + 1, x1, x2, x3 => laws_markDirentS_b2 (laws_markDirentS_L2 m) x1 x2 x3
def laws_markDirentS (x : (List tDirent.D) × Int × Unit) : Option (laws_markDirentS_R) := laws_markDirentS_s (laws_markDirentS_L2 BIG) x.1 x.2.1

/-! laws.markInodeS -/
abbrev laws_markInodeS_R : Type := Int × (List tInode.D) × Unit
abbrev laws_markInodeS_K2 : Type := Int → Int → (List tInode.D) → Option (laws_markInodeS_R)
def laws_markInodeS_s (k2 : laws_markInodeS_K2) (a1 : List tInode.D) (a2 : Int) : Option (laws_markInodeS_R) :=
  k2 a2 0 a1
def laws_markInodeS_b2_v20 (k2 : laws_markInodeS_K2) (v15 : Int × (List tDirent.D) × Unit) (x2 : Int) (v20 : List tInode.D) : Option (laws_markInodeS_R) :=
  k2 (w64 (w64 (v15.1 + 1) + 1)) (w64 (x2 + 1)) v20
def laws_markInodeS_b2_v18 (k2 : laws_markInodeS_K2) (x2 : Int) (v15 : Int × (List tDirent.D) × Unit) (v18 : List tInode.D) : Option (laws_markInodeS_R) :=
  (ix v18.length x2).bind fun v19 =>
  laws_markInodeS_b2_v20 k2 v15 x2 (v18.set (0 + v19) ((gd tInode v18 (0 + v19)).1, (gd tInode v18 (0 + v19)).2.1, (gd tInode v18 (0 + v19)).2.2.1, (gd tInode v18 (0 + v19)).2.2.2.1, (gd tInode v18 (0 + v19)).2.2.2.2.1, (gd tInode v18 (0 + v19)).2.2.2.2.2.1, (gd tInode v18 (0 + v19)).2.2.2.2.2.2.1, (gd tInode v18 (0 + v19)).2.2.2.2.2.2.2.1, w64 (v15.1 + 1), ()))
def laws_markInodeS_b2_v16 (k2 : laws_markInodeS_K2) (x2 : Int) (v15 : Int × (List tDirent.D) × Unit) (v16 : List tInode.D) : Option (laws_markInodeS_R) :=
  (ix v16.length x2).bind fun v17 =>
  laws_markInodeS_b2_v18 k2 x2 v15 (v16.set (0 + v17) ((gd tInode v16 (0 + v17)).1, (gd tInode v16 (0 + v17)).2.1, (gd tInode v16 (0 + v17)).2.2.1, (gd tInode v16 (0 + v17)).2.2.2.1, (gd tInode v16 (0 + v17)).2.2.2.2.1, (gd tInode v16 (0 + v17)).2.2.2.2.2.1, (gd tInode v16 (0 + v17)).2.2.2.2.2.2.1, v15.1, (gd tInode v16 (0 + v17)).2.2.2.2.2.2.2.2.1, ()))
def laws_markInodeS_b2_v13 (k2 : laws_markInodeS_K2) (x2 : Int) (x1 : Int) (v13 : List tInode.D) : Option (laws_markInodeS_R) :=
  (ix v13.length x2).bind fun v14 =>
  (laws_markDirentS ((gd tInode v13 (0 + v14)).2.2.2.2.2.2.1, w64 (w64 (w64 (w64 (w64 (w64 (x1 + 1) + 1) + 1) + 1) + 1) + 1), ())).bind fun v15 =>
  laws_markInodeS_b2_v16 k2 x2 v15 (v13.set (0 + v14) ((gd tInode v13 (0 + v14)).1, (gd tInode v13 (0 + v14)).2.1, (gd tInode v13 (0 + v14)).2.2.1, (gd tInode v13 (0 + v14)).2.2.2.1, (gd tInode v13 (0 + v14)).2.2.2.2.1, (gd tInode v13 (0 + v14)).2.2.2.2.2.1, v15.2.1, (gd tInode v13 (0 + v14)).2.2.2.2.2.2.2.1, (gd tInode v13 (0 + v14)).2.2.2.2.2.2.2.2.1, ()))
def laws_markInodeS_b2_v10 (k2 : laws_markInodeS_K2) (x1 : Int) (x2 : Int) (v10 : List tInode.D) : Option (laws_markInodeS_R) :=
  (laws_markText (w64 (w64 (w64 (w64 (w64 (x1 + 1) + 1) + 1) + 1) + 1), ())).bind fun v11 =>
  (ix v10.length x2).bind fun v12 =>
  laws_markInodeS_b2_v13 k2 x2 x1 (v10.set (0 + v12) ((gd tInode v10 (0 + v12)).1, (gd tInode v10 (0 + v12)).2.1, (gd tInode v10 (0 + v12)).2.2.1, (gd tInode v10 (0 + v12)).2.2.2.1, (gd tInode v10 (0 + v12)).2.2.2.2.1, v11.1, (gd tInode v10 (0 + v12)).2.2.2.2.2.2.1, (gd tInode v10 (0 + v12)).2.2.2.2.2.2.2.1, (gd tInode v10 (0 + v12)).2.2.2.2.2.2.2.2.1, ()))
def laws_markInodeS_b2_v8 (k2 : laws_markInodeS_K2) (x2 : Int) (x1 : Int) (v8 : List tInode.D) : Option (laws_markInodeS_R) :=
  (ix v8.length x2).bind fun v9 =>
  laws_markInodeS_b2_v10 k2 x1 x2 (v8.set (0 + v9) ((gd tInode v8 (0 + v9)).1, (gd tInode v8 (0 + v9)).2.1, (gd tInode v8 (0 + v9)).2.2.1, (gd tInode v8 (0 + v9)).2.2.2.1, w64 (w64 (w64 (w64 (x1 + 1) + 1) + 1) + 1), (gd tInode v8 (0 + v9)).2.2.2.2.2.1, (gd tInode v8 (0 + v9)).2.2.2.2.2.2.1, (gd tInode v8 (0 + v9)).2.2.2.2.2.2.2.1, (gd tInode v8 (0 + v9)).2.2.2.2.2.2.2.2.1, ()))
def laws_markInodeS_b2_v6 (k2 : laws_markInodeS_K2) (x2 : Int) (x1 : Int) (v6 : List tInode.D) : Option (laws_markInodeS_R) :=
  (ix v6.length x2).bind fun v7 =>
  laws_markInodeS_b2_v8 k2 x2 x1 (v6.set (0 + v7) ((gd tInode v6 (0 + v7)).1, (gd tInode v6 (0 + v7)).2.1, (gd tInode v6 (0 + v7)).2.2.1, w64 (w64 (w64 (x1 + 1) + 1) + 1), (gd tInode v6 (0 + v7)).2.2.2.2.1, (gd tInode v6 (0 + v7)).2.2.2.2.2.1, (gd tInode v6 (0 + v7)).2.2.2.2.2.2.1, (gd tInode v6 (0 + v7)).2.2.2.2.2.2.2.1, (gd tInode v6 (0 + v7)).2.2.2.2.2.2.2.2.1, ()))
def laws_markInodeS_b2_v4 (k2 : laws_markInodeS_K2) (x2 : Int) (x1 : Int) (v4 : List tInode.D) : Option (laws_markInodeS_R) :=
  (ix v4.length x2).bind fun v5 =>
  laws_markInodeS_b2_v6 k2 x2 x1 (v4.set (0 + v5) ((gd tInode v4 (0 + v5)).1, (gd tInode v4 (0 + v5)).2.1, w64 (w64 (x1 + 1) + 1), (gd tInode v4 (0 + v5)).2.2.2.1, (gd tInode v4 (0 + v5)).2.2.2.2.1, (gd tInode v4 (0 + v5)).2.2.2.2.2.1, (gd tInode v4 (0 + v5)).2.2.2.2.2.2.1, (gd tInode v4 (0 + v5)).2.2.2.2.2.2.2.1, (gd tInode v4 (0 + v5)).2.2.2.2.2.2.2.2.1, ()))
def laws_markInodeS_b2_v2 (k2 : laws_markInodeS_K2) (x2 : Int) (x1 : Int) (v2 : List tInode.D) : Option (laws_markInodeS_R) :=
  (ix v2.length x2).bind fun v3 =>
  laws_markInodeS_b2_v4 k2 x2 x1 (v2.set (0 + v3) ((gd tInode v2 (0 + v3)).1, w64 (x1 + 1), (gd tInode v2 (0 + v3)).2.2.1, (gd tInode v2 (0 + v3)).2.2.2.1, (gd tInode v2 (0 + v3)).2.2.2.2.1, (gd tInode v2 (0 + v3)).2.2.2.2.2.1, (gd tInode v2 (0 + v3)).2.2.2.2.2.2.1, (gd tInode v2 (0 + v3)).2.2.2.2.2.2.2.1, (gd tInode v2 (0 + v3)).2.2.2.2.2.2.2.2.1, ()))
def laws_markInodeS_b2 (k2 : laws_markInodeS_K2) (x1 : Int) (x2 : Int) (x3 : List tInode.D) : Option (laws_markInodeS_R) :=
  cond (decide (x2 < (x3.length : Int)))
    ((ix x3.length x2).bind fun v1 =>
    laws_markInodeS_b2_v2 k2 x2 x1 (x3.set (0 + v1) (x1, (gd tInode x3 (0 + v1)).2.1, (gd tInode x3 (0 + v1)).2.2.1, (gd tInode x3 (0 + v1)).2.2.2.1, (gd tInode x3 (0 + v1)).2.2.2.2.1, (gd tInode x3 (0 + v1)).2.2.2.2.2.1, (gd tInode x3 (0 + v1)).2.2.2.2.2.2.1, (gd tInode x3 (0 + v1)).2.2.2.2.2.2.2.1, (gd tInode x3 (0 + v1)).2.2.2.2.2.2.2.2.1, ())))
    (some (x1, x3, ()))
def laws_markInodeS_L2 : Nat → laws_markInodeS_K2
  | 0, _, _, _ => none
  | m + 1, x1, x2, x3 => laws_markInodeS_b2 (laws_markInodeS_L2 m) x1 x2 x3
def laws_markInodeS (x : (List tInode.D) × Int × Unit) : Option (laws_markInodeS_R) := laws_markInodeS_s (laws_markInodeS_L2 BIG) x.1 x.2.1

/-! laws.markNoteS -/
abbrev laws_markNoteS_R : Type := Int × (List tNote.D) × Unit
abbrev laws_markNoteS_K2 : Type := Int → Int → (List tNote.D) → Option (laws_markNoteS_R)
def laws_markNoteS_s (k2 : laws_markNoteS_K2) (a1 : List tNote.D) (a2 : Int) : Option (laws_markNoteS_R) :=
  k2 a2 0 a1
def laws_markNoteS_b2_v10 (k2 : laws_markNoteS_K2) (x1 : Int) (x2 : Int) (v10 : List tNote.D) : Option (laws_markNoteS_R) :=
  k2 (w64 (w64 (w64 (w64 (w64 (x1 + 1) + 1) + 1) + 1) + 1)) (w64 (x2 + 1)) v10
def laws_markNoteS_b2_v8 (k2 : laws_markNoteS_K2) (x2 : Int) (x1 : Int) (v8 : List tNote.D) : Option (laws_markNoteS_R) :=
  (ix v8.length x2).bind fun v9 =>
  laws_markNoteS_b2_v10 k2 x1 x2 (v8.set (0 + v9) ((gd tNote v8 (0 + v9)).1, (gd tNote v8 (0 + v9)).2.1, (gd tNote v8 (0 + v9)).2.2.1, (gd tNote v8 (0 + v9)).2.2.2.1, w64 (w64 (w64 (w64 (x1 + 1) + 1) + 1) + 1), ()))
def laws_markNoteS_b2_v6 (k2 : laws_markNoteS_K2) (x2 : Int) (x1 : Int) (v6 : List tNote.D) : Option (laws_markNoteS_R) :=
  (ix v6.length x2).bind fun v7 =>
  laws_markNoteS_b2_v8 k2 x2 x1 (v6.set (0 + v7) ((gd tNote v6 (0 + v7)).1, (gd tNote v6 (0 + v7)).2.1, (gd tNote v6 (0 + v7)).2.2.1, w64 (w64 (w64 (x1 + 1) + 1) + 1), (gd tNote v6 (0 + v7)).2.2.2.2.1, ()))
def laws_markNoteS_b2_v4 (k2 : laws_markNoteS_K2) (x2 : Int) (x1 : Int) (v4 : List tNote.D) : Option (laws_markNoteS_R) :=
  (ix v4.length x2).bind fun v5 =>
  laws_markNoteS_b2_v6 k2 x2 x1 (v4.set (0 + v5) ((gd tNote v4 (0 + v5)).1, (gd tNote v4 (0 + v5)).2.1, w64 (w64 (x1 + 1) + 1), (gd tNote v4 (0 + v5)).2.2.2.1, (gd tNote v4 (0 + v5)).2.2.2.2.1, ()))
def laws_markNoteS_b2_v2 (k2 : laws_markNoteS_K2) (x2 : Int) (x1 : Int) (v2 : List tNote.D) : Option (laws_markNoteS_R) :=
  (ix v2.length x2).bind fun v3 =>
  laws_markNoteS_b2_v4 k2 x2 x1 (v2.set (0 + v3) ((gd tNote v2 (0 + v3)).1, w64 (x1 + 1), (gd tNote v2 (0 + v3)).2.2.1, (gd tNote v2 (0 + v3)).2.2.2.1, (gd tNote v2 (0 + v3)).2.2.2.2.1, ()))
def laws_markNoteS_b2 (k2 : laws_markNoteS_K2) (x1 : Int) (x2 : Int) (x3 : List tNote.D) : Option (laws_markNoteS_R) :=
  cond (decide (x2 < (x3.length : Int)))
    ((ix x3.length x2).bind fun v1 =>
    laws_markNoteS_b2_v2 k2 x2 x1 (x3.set (0 + v1) (x1, (gd tNote x3 (0 + v1)).2.1, (gd tNote x3 (0 + v1)).2.2.1, (gd tNote x3 (0 + v1)).2.2.2.1, (gd tNote x3 (0 + v1)).2.2.2.2.1, ())))
    (some (x1, x3, ()))
def laws_markNoteS_L2 : Nat → laws_markNoteS_K2
  | 0, _, _, _ => none
  | m + 1, x1, x2, x3 => laws_markNoteS_b2 (laws_markNoteS_L2 m) x1 x2 x3
def laws_markNoteS (x : (List tNote.D) × Int × Unit) : Option (laws_markNoteS_R) := laws_markNoteS_s (laws_markNoteS_L2 BIG) x.1 x.2.1

/-! laws.markSessionS -/
abbrev laws_markSessionS_R : Type := Int × (List tSession.D) × Unit
abbrev laws_markSessionS_K2 : Type := Int → Int → (List tSession.D) → Option (laws_markSessionS_R)
def laws_markSessionS_s (k2 : laws_markSessionS_K2) (a1 : List tSession.D) (a2 : Int) : Option (laws_markSessionS_R) :=
  k2 a2 0 a1
def laws_markSessionS_b2_v11 (k2 : laws_markSessionS_K2) (x1 : Int) (x2 : Int) (v11 : List tSession.D) : Option (laws_markSessionS_R) :=
  k2 (w64 (w64 (w64 (w64 (w64 (x1 + 1) + 1) + 1) + 1) + 1)) (w64 (x2 + 1)) v11
def laws_markSessionS_b2_v8 (k2 : laws_markSessionS_K2) (x1 : Int) (x2 : Int) (v8 : List tSession.D) : Option (laws_markSessionS_R) :=
  (laws_markText (w64 (w64 (w64 (w64 (x1 + 1) + 1) + 1) + 1), ())).bind fun v9 =>
  (ix v8.length x2).bind fun v10 =>
  laws_markSessionS_b2_v11 k2 x1 x2 (v8.set (0 + v10) ((gd tSession v8 (0 + v10)).1, (gd tSession v8 (0 + v10)).2.1, (gd tSession v8 (0 + v10)).2.2.1, (((gd tSession v8 (0 + v10)).2.2.2.1).1, v9.1, ()), ()))
def laws_markSessionS_b2_v6 (k2 : laws_markSessionS_K2) (x2 : Int) (x1 : Int) (v6 : List tSession.D) : Option (laws_markSessionS_R) :=
  (ix v6.length x2).bind fun v7 =>
  laws_markSessionS_b2_v8 k2 x1 x2 (v6.set (0 + v7) ((gd tSession v6 (0 + v7)).1, (gd tSession v6 (0 + v7)).2.1, (gd tSession v6 (0 + v7)).2.2.1, (w64 (w64 (w64 (x1 + 1) + 1) + 1), ((gd tSession v6 (0 + v7)).2.2.2.1).2.1, ()), ()))
def laws_markSessionS_b2_v4 (k2 : laws_markSessionS_K2) (x2 : Int) (x1 : Int) (v4 : List tSession.D) : Option (laws_markSessionS_R) :=
  (ix v4.length x2).bind fun v5 =>
  laws_markSessionS_b2_v6 k2 x2 x1 (v4.set (0 + v5) ((gd tSession v4 (0 + v5)).1, (gd tSession v4 (0 + v5)).2.1, w64 (w64 (x1 + 1) + 1), (gd tSession v4 (0 + v5)).2.2.2.1, ()))
def laws_markSessionS_b2_v2 (k2 : laws_markSessionS_K2) (x2 : Int) (x1 : Int) (v2 : List tSession.D) : Option (laws_markSessionS_R) :=
  (ix v2.length x2).bind fun v3 =>
  laws_markSessionS_b2_v4 k2 x2 x1 (v2.set (0 + v3) ((gd tSession v2 (0 + v3)).1, w64 (x1 + 1), (gd tSession v2 (0 + v3)).2.2.1, (gd tSession v2 (0 + v3)).2.2.2.1, ()))
def laws_markSessionS_b2 (k2 : laws_markSessionS_K2) (x1 : Int) (x2 : Int) (x3 : List tSession.D) : Option (laws_markSessionS_R) :=
  cond (decide (x2 < (x3.length : Int)))
    ((ix x3.length x2).bind fun v1 =>
    laws_markSessionS_b2_v2 k2 x2 x1 (x3.set (0 + v1) (x1, (gd tSession x3 (0 + v1)).2.1, (gd tSession x3 (0 + v1)).2.2.1, (gd tSession x3 (0 + v1)).2.2.2.1, ())))
    (some (x1, x3, ()))
def laws_markSessionS_L2 : Nat → laws_markSessionS_K2
  | 0, _, _, _ => none
  | m + 1, x1, x2, x3 => laws_markSessionS_b2 (laws_markSessionS_L2 m) x1 x2 x3
def laws_markSessionS (x : (List tSession.D) × Int × Unit) : Option (laws_markSessionS_R) := laws_markSessionS_s (laws_markSessionS_L2 BIG) x.1 x.2.1

/-! laws.markTenantS -/
abbrev laws_markTenantS_R : Type := Int × (List tTenant.D) × Unit
abbrev laws_markTenantS_K2 : Type := Int → Int → (List tTenant.D) → Option (laws_markTenantS_R)
def laws_markTenantS_s (k2 : laws_markTenantS_K2) (a1 : List tTenant.D) (a2 : Int) : Option (laws_markTenantS_R) :=
  k2 a2 0 a1
def laws_markTenantS_b2_v13 (k2 : laws_markTenantS_K2) (v12 : Int × (List tSession.D) × Unit) (x2 : Int) (v13 : List tTenant.D) : Option (laws_markTenantS_R) :=
  k2 v12.1 (w64 (x2 + 1)) v13
def laws_markTenantS_b2_v10 (k2 : laws_markTenantS_K2) (x2 : Int) (v9 : Int × (List tNote.D) × Unit) (v10 : List tTenant.D) : Option (laws_markTenantS_R) :=
  (ix v10.length x2).bind fun v11 =>
  (laws_markSessionS ((gd tTenant v10 (0 + v11)).2.2.2.1, v9.1, ())).bind fun v12 =>
  laws_markTenantS_b2_v13 k2 v12 x2 (v10.set (0 + v11) ((gd tTenant v10 (0 + v11)).1, (gd tTenant v10 (0 + v11)).2.1, (gd tTenant v10 (0 + v11)).2.2.1, v12.2.1, ()))
def laws_markTenantS_b2_v7 (k2 : laws_markTenantS_K2) (x2 : Int) (v4 : Int × (List tInode.D) × Unit) (v7 : List tTenant.D) : Option (laws_markTenantS_R) :=
  (ix v7.length x2).bind fun v8 =>
  (laws_markNoteS ((gd tTenant v7 (0 + v8)).2.2.1, w64 (v4.1 + 1), ())).bind fun v9 =>
  laws_markTenantS_b2_v10 k2 x2 v9 (v7.set (0 + v8) ((gd tTenant v7 (0 + v8)).1, (gd tTenant v7 (0 + v8)).2.1, v9.2.1, (gd tTenant v7 (0 + v8)).2.2.2.1, ()))
def laws_markTenantS_b2_v5 (k2 : laws_markTenantS_K2) (x2 : Int) (v4 : Int × (List tInode.D) × Unit) (v5 : List tTenant.D) : Option (laws_markTenantS_R) :=
  (ix v5.length x2).bind fun v6 =>
  laws_markTenantS_b2_v7 k2 x2 v4 (v5.set (0 + v6) ((gd tTenant v5 (0 + v6)).1, v4.1, (gd tTenant v5 (0 + v6)).2.2.1, (gd tTenant v5 (0 + v6)).2.2.2.1, ()))
def laws_markTenantS_b2_v2 (k2 : laws_markTenantS_K2) (x2 : Int) (x1 : Int) (v2 : List tTenant.D) : Option (laws_markTenantS_R) :=
  (ix v2.length x2).bind fun v3 =>
  (laws_markInodeS (((gd tTenant v2 (0 + v3)).1).2.1, w64 (x1 + 1), ())).bind fun v4 =>
  laws_markTenantS_b2_v5 k2 x2 v4 (v2.set (0 + v3) ((((gd tTenant v2 (0 + v3)).1).1, v4.2.1, ()), (gd tTenant v2 (0 + v3)).2.1, (gd tTenant v2 (0 + v3)).2.2.1, (gd tTenant v2 (0 + v3)).2.2.2.1, ()))
def laws_markTenantS_b2 (k2 : laws_markTenantS_K2) (x1 : Int) (x2 : Int) (x3 : List tTenant.D) : Option (laws_markTenantS_R) :=
  cond (decide (x2 < (x3.length : Int)))
    ((ix x3.length x2).bind fun v1 =>
    laws_markTenantS_b2_v2 k2 x2 x1 (x3.set (0 + v1) ((x1, ((gd tTenant x3 (0 + v1)).1).2.1, ()), (gd tTenant x3 (0 + v1)).2.1, (gd tTenant x3 (0 + v1)).2.2.1, (gd tTenant x3 (0 + v1)).2.2.2.1, ())))
    (some (x1, x3, ()))
def laws_markTenantS_L2 : Nat → laws_markTenantS_K2
  | 0, _, _, _ => none
  | m + 1, x1, x2, x3 => laws_markTenantS_b2 (laws_markTenantS_L2 m) x1 x2 x3
def laws_markTenantS (x : (List tTenant.D) × Int × Unit) : Option (laws_markTenantS_R) := laws_markTenantS_s (laws_markTenantS_L2 BIG) x.1 x.2.1

/-! laws.markRecS -/
abbrev laws_markRecS_R : Type := Int × (List tRec.D) × Unit
abbrev laws_markRecS_K2 : Type := Int → Int → (List tRec.D) → Option (laws_markRecS_R)
def laws_markRecS_s (k2 : laws_markRecS_K2) (a1 : List tRec.D) (a2 : Int) : Option (laws_markRecS_R) :=
  k2 a2 0 a1
def laws_markRecS_b2_v11 (k2 : laws_markRecS_K2) (x1 : Int) (x2 : Int) (v11 : List tRec.D) : Option (laws_markRecS_R) :=
  k2 (w64 (w64 (w64 (w64 (w64 (x1 + 1) + 1) + 1) + 1) + 1)) (w64 (x2 + 1)) v11
def laws_markRecS_b2_v8 (k2 : laws_markRecS_K2) (x1 : Int) (x2 : Int) (v8 : List tRec.D) : Option (laws_markRecS_R) :=
  (laws_markText (w64 (w64 (w64 (w64 (x1 + 1) + 1) + 1) + 1), ())).bind fun v9 =>
  (ix v8.length x2).bind fun v10 =>
  laws_markRecS_b2_v11 k2 x1 x2 (v8.set (0 + v10) ((gd tRec v8 (0 + v10)).1, (gd tRec v8 (0 + v10)).2.1, (gd tRec v8 (0 + v10)).2.2.1, (gd tRec v8 (0 + v10)).2.2.2.1, v9.1, ()))
def laws_markRecS_b2_v6 (k2 : laws_markRecS_K2) (x2 : Int) (x1 : Int) (v6 : List tRec.D) : Option (laws_markRecS_R) :=
  (ix v6.length x2).bind fun v7 =>
  laws_markRecS_b2_v8 k2 x1 x2 (v6.set (0 + v7) ((gd tRec v6 (0 + v7)).1, (gd tRec v6 (0 + v7)).2.1, (gd tRec v6 (0 + v7)).2.2.1, w64 (w64 (w64 (x1 + 1) + 1) + 1), (gd tRec v6 (0 + v7)).2.2.2.2.1, ()))
def laws_markRecS_b2_v4 (k2 : laws_markRecS_K2) (x2 : Int) (x1 : Int) (v4 : List tRec.D) : Option (laws_markRecS_R) :=
  (ix v4.length x2).bind fun v5 =>
  laws_markRecS_b2_v6 k2 x2 x1 (v4.set (0 + v5) ((gd tRec v4 (0 + v5)).1, (gd tRec v4 (0 + v5)).2.1, w64 (w64 (x1 + 1) + 1), (gd tRec v4 (0 + v5)).2.2.2.1, (gd tRec v4 (0 + v5)).2.2.2.2.1, ()))
def laws_markRecS_b2_v2 (k2 : laws_markRecS_K2) (x2 : Int) (x1 : Int) (v2 : List tRec.D) : Option (laws_markRecS_R) :=
  (ix v2.length x2).bind fun v3 =>
  laws_markRecS_b2_v4 k2 x2 x1 (v2.set (0 + v3) ((gd tRec v2 (0 + v3)).1, w64 (x1 + 1), (gd tRec v2 (0 + v3)).2.2.1, (gd tRec v2 (0 + v3)).2.2.2.1, (gd tRec v2 (0 + v3)).2.2.2.2.1, ()))
def laws_markRecS_b2 (k2 : laws_markRecS_K2) (x1 : Int) (x2 : Int) (x3 : List tRec.D) : Option (laws_markRecS_R) :=
  cond (decide (x2 < (x3.length : Int)))
    ((ix x3.length x2).bind fun v1 =>
    laws_markRecS_b2_v2 k2 x2 x1 (x3.set (0 + v1) (x1, (gd tRec x3 (0 + v1)).2.1, (gd tRec x3 (0 + v1)).2.2.1, (gd tRec x3 (0 + v1)).2.2.2.1, (gd tRec x3 (0 + v1)).2.2.2.2.1, ())))
    (some (x1, x3, ()))
def laws_markRecS_L2 : Nat → laws_markRecS_K2
  | 0, _, _, _ => none
  | m + 1, x1, x2, x3 => laws_markRecS_b2 (laws_markRecS_L2 m) x1 x2 x3
def laws_markRecS (x : (List tRec.D) × Int × Unit) : Option (laws_markRecS_R) := laws_markRecS_s (laws_markRecS_L2 BIG) x.1 x.2.1

/-! laws.markSlotS -/
abbrev laws_markSlotS_R : Type := Int × (List tSlot.D) × Unit
abbrev laws_markSlotS_K2 : Type := Int → Int → (List tSlot.D) → Option (laws_markSlotS_R)
def laws_markSlotS_s (k2 : laws_markSlotS_K2) (a1 : List tSlot.D) (a2 : Int) : Option (laws_markSlotS_R) :=
  k2 a2 0 a1
def laws_markSlotS_b2_v21 (k2 : laws_markSlotS_K2) (x1 : Int) (x2 : Int) (v21 : List tSlot.D) : Option (laws_markSlotS_R) :=
  k2 (w64 (w64 (w64 (w64 (w64 (w64 (w64 (w64 (w64 (x1 + 1) + 1) + 1) + 1) + 1) + 1) + 1) + 1) + 1)) (w64 (x2 + 1)) v21
def laws_markSlotS_b2_v18 (k2 : laws_markSlotS_K2) (x1 : Int) (x2 : Int) (v18 : List tSlot.D) : Option (laws_markSlotS_R) :=
  (laws_markText (w64 (w64 (w64 (w64 (w64 (w64 (w64 (w64 (x1 + 1) + 1) + 1) + 1) + 1) + 1) + 1) + 1), ())).bind fun v19 =>
  (ix v18.length x2).bind fun v20 =>
  laws_markSlotS_b2_v21 k2 x1 x2 (v18.set (0 + v20) ((gd tSlot v18 (0 + v20)).1, (gd tSlot v18 (0 + v20)).2.1, (gd tSlot v18 (0 + v20)).2.2.1, (((gd tSlot v18 (0 + v20)).2.2.2.1).1, ((gd tSlot v18 (0 + v20)).2.2.2.1).2.1, ((gd tSlot v18 (0 + v20)).2.2.2.1).2.2.1, ((gd tSlot v18 (0 + v20)).2.2.2.1).2.2.2.1, ((gd tSlot v18 (0 + v20)).2.2.2.1).2.2.2.2.1, v19.1, ()), ()))
def laws_markSlotS_b2_v16 (k2 : laws_markSlotS_K2) (x2 : Int) (x1 : Int) (v16 : List tSlot.D) : Option (laws_markSlotS_R) :=
  (ix v16.length x2).bind fun v17 =>
  laws_markSlotS_b2_v18 k2 x1 x2 (v16.set (0 + v17) ((gd tSlot v16 (0 + v17)).1, (gd tSlot v16 (0 + v17)).2.1, (gd tSlot v16 (0 + v17)).2.2.1, (((gd tSlot v16 (0 + v17)).2.2.2.1).1, ((gd tSlot v16 (0 + v17)).2.2.2.1).2.1, ((gd tSlot v16 (0 + v17)).2.2.2.1).2.2.1, ((gd tSlot v16 (0 + v17)).2.2.2.1).2.2.2.1, w64 (w64 (w64 (w64 (w64 (w64 (w64 (x1 + 1) + 1) + 1) + 1) + 1) + 1) + 1), ((gd tSlot v16 (0 + v17)).2.2.2.1).2.2.2.2.2.1, ()), ()))
def laws_markSlotS_b2_v14 (k2 : laws_markSlotS_K2) (x2 : Int) (x1 : Int) (v14 : List tSlot.D) : Option (laws_markSlotS_R) :=
  (ix v14.length x2).bind fun v15 =>
  laws_markSlotS_b2_v16 k2 x2 x1 (v14.set (0 + v15) ((gd tSlot v14 (0 + v15)).1, (gd tSlot v14 (0 + v15)).2.1, (gd tSlot v14 (0 + v15)).2.2.1, (((gd tSlot v14 (0 + v15)).2.2.2.1).1, ((gd tSlot v14 (0 + v15)).2.2.2.1).2.1, ((gd tSlot v14 (0 + v15)).2.2.2.1).2.2.1, w64 (w64 (w64 (w64 (w64 (w64 (x1 + 1) + 1) + 1) + 1) + 1) + 1), ((gd tSlot v14 (0 + v15)).2.2.2.1).2.2.2.2.1, ((gd tSlot v14 (0 + v15)).2.2.2.1).2.2.2.2.2.1, ()), ()))
def laws_markSlotS_b2_v11 (k2 : laws_markSlotS_K2) (x1 : Int) (x2 : Int) (v11 : List tSlot.D) : Option (laws_markSlotS_R) :=
  (laws_markText (w64 (w64 (w64 (w64 (w64 (x1 + 1) + 1) + 1) + 1) + 1), ())).bind fun v12 =>
  (ix v11.length x2).bind fun v13 =>
  laws_markSlotS_b2_v14 k2 x2 x1 (v11.set (0 + v13) ((gd tSlot v11 (0 + v13)).1, (gd tSlot v11 (0 + v13)).2.1, (gd tSlot v11 (0 + v13)).2.2.1, (((gd tSlot v11 (0 + v13)).2.2.2.1).1, ((gd tSlot v11 (0 + v13)).2.2.2.1).2.1, v12.1, ((gd tSlot v11 (0 + v13)).2.2.2.1).2.2.2.1, ((gd tSlot v11 (0 + v13)).2.2.2.1).2.2.2.2.1, ((gd tSlot v11 (0 + v13)).2.2.2.1).2.2.2.2.2.1, ()), ()))
def laws_markSlotS_b2_v8 (k2 : laws_markSlotS_K2) (x1 : Int) (x2 : Int) (v8 : List tSlot.D) : Option (laws_markSlotS_R) :=
  (laws_markText (w64 (w64 (w64 (w64 (x1 + 1) + 1) + 1) + 1), ())).bind fun v9 =>
  (ix v8.length x2).bind fun v10 =>
  laws_markSlotS_b2_v11 k2 x1 x2 (v8.set (0 + v10) ((gd tSlot v8 (0 + v10)).1, (gd tSlot v8 (0 + v10)).2.1, (gd tSlot v8 (0 + v10)).2.2.1, (((gd tSlot v8 (0 + v10)).2.2.2.1).1, v9.1, ((gd tSlot v8 (0 + v10)).2.2.2.1).2.2.1, ((gd tSlot v8 (0 + v10)).2.2.2.1).2.2.2.1, ((gd tSlot v8 (0 + v10)).2.2.2.1).2.2.2.2.1, ((gd tSlot v8 (0 + v10)).2.2.2.1).2.2.2.2.2.1, ()), ()))
def laws_markSlotS_b2_v6 (k2 : laws_markSlotS_K2) (x2 : Int) (x1 : Int) (v6 : List tSlot.D) : Option (laws_markSlotS_R) :=
  (ix v6.length x2).bind fun v7 =>
  laws_markSlotS_b2_v8 k2 x1 x2 (v6.set (0 + v7) ((gd tSlot v6 (0 + v7)).1, (gd tSlot v6 (0 + v7)).2.1, (gd tSlot v6 (0 + v7)).2.2.1, (w64 (w64 (w64 (x1 + 1) + 1) + 1), ((gd tSlot v6 (0 + v7)).2.2.2.1).2.1, ((gd tSlot v6 (0 + v7)).2.2.2.1).2.2.1, ((gd tSlot v6 (0 + v7)).2.2.2.1).2.2.2.1, ((gd tSlot v6 (0 + v7)).2.2.2.1).2.2.2.2.1, ((gd tSlot v6 (0 + v7)).2.2.2.1).2.2.2.2.2.1, ()), ()))
def laws_markSlotS_b2_v4 (k2 : laws_markSlotS_K2) (x2 : Int) (x1 : Int) (v4 : List tSlot.D) : Option (laws_markSlotS_R) :=
  (ix v4.length x2).bind fun v5 =>
  laws_markSlotS_b2_v6 k2 x2 x1 (v4.set (0 + v5) ((gd tSlot v4 (0 + v5)).1, (gd tSlot v4 (0 + v5)).2.1, w64 (w64 (x1 + 1) + 1), (gd tSlot v4 (0 + v5)).2.2.2.1, ()))
def laws_markSlotS_b2_v2 (k2 : laws_markSlotS_K2) (x2 : Int) (x1 : Int) (v2 : List tSlot.D) : Option (laws_markSlotS_R) :=
  (ix v2.length x2).bind fun v3 =>
  laws_markSlotS_b2_v4 k2 x2 x1 (v2.set (0 + v3) ((gd tSlot v2 (0 + v3)).1, w64 (x1 + 1), (gd tSlot v2 (0 + v3)).2.2.1, (gd tSlot v2 (0 + v3)).2.2.2.1, ()))
def laws_markSlotS_b2 (k2 : laws_markSlotS_K2) (x1 : Int) (x2 : Int) (x3 : List tSlot.D) : Option (laws_markSlotS_R) :=
  cond (decide (x2 < (x3.length : Int)))
    ((ix x3.length x2).bind fun v1 =>
    laws_markSlotS_b2_v2 k2 x2 x1 (x3.set (0 + v1) (x1, (gd tSlot x3 (0 + v1)).2.1, (gd tSlot x3 (0 + v1)).2.2.1, (gd tSlot x3 (0 + v1)).2.2.2.1, ())))
    (some (x1, x3, ()))
def laws_markSlotS_L2 : Nat → laws_markSlotS_K2
  | 0, _, _, _ => none
  | m + 1, x1, x2, x3 => laws_markSlotS_b2 (laws_markSlotS_L2 m) x1 x2 x3
def laws_markSlotS (x : (List tSlot.D) × Int × Unit) : Option (laws_markSlotS_R) := laws_markSlotS_s (laws_markSlotS_L2 BIG) x.1 x.2.1

/-! laws.markNodeS -/
abbrev laws_markNodeS_R : Type := Int × (List tNode.D) × Unit
abbrev laws_markNodeS_K2 : Type := Int → Int → (List tNode.D) → Option (laws_markNodeS_R)
def laws_markNodeS_s (k2 : laws_markNodeS_K2) (a1 : List tNode.D) (a2 : Int) : Option (laws_markNodeS_R) :=
  k2 a2 0 a1
def laws_markNodeS_b2_v70 (k2 : laws_markNodeS_K2) (v65 : Int × (List tSlot.D) × Unit) (x2 : Int) (v70 : List tNode.D) : Option (laws_markNodeS_R) :=
  k2 (w64 (w64 (v65.1 + 1) + 1)) (w64 (x2 + 1)) v70
def laws_markNodeS_b2_v68 (k2 : laws_markNodeS_K2) (x2 : Int) (v65 : Int × (List tSlot.D) × Unit) (v68 : List tNode.D) : Option (laws_markNodeS_R) :=
  (ix v68.length x2).bind fun v69 =>
  laws_markNodeS_b2_v70 k2 v65 x2 (v68.set (0 + v69) ((gd tNode v68 (0 + v69)).1, (gd tNode v68 (0 + v69)).2.1, (gd tNode v68 (0 + v69)).2.2.1, (gd tNode v68 (0 + v69)).2.2.2.1, (gd tNode v68 (0 + v69)).2.2.2.2.1, (gd tNode v68 (0 + v69)).2.2.2.2.2.1, (gd tNode v68 (0 + v69)).2.2.2.2.2.2.1, (gd tNode v68 (0 + v69)).2.2.2.2.2.2.2.1, (gd tNode v68 (0 + v69)).2.2.2.2.2.2.2.2.1, w64 (v65.1 + 1), ()))
def laws_markNodeS_b2_v66 (k2 : laws_markNodeS_K2) (x2 : Int) (v65 : Int × (List tSlot.D) × Unit) (v66 : List tNode.D) : Option (laws_markNodeS_R) :=
  (ix v66.length x2).bind fun v67 =>
  laws_markNodeS_b2_v68 k2 x2 v65 (v66.set (0 + v67) ((gd tNode v66 (0 + v67)).1, (gd tNode v66 (0 + v67)).2.1, (gd tNode v66 (0 + v67)).2.2.1, (gd tNode v66 (0 + v67)).2.2.2.1, (gd tNode v66 (0 + v67)).2.2.2.2.1, (gd tNode v66 (0 + v67)).2.2.2.2.2.1, (gd tNode v66 (0 + v67)).2.2.2.2.2.2.1, (gd tNode v66 (0 + v67)).2.2.2.2.2.2.2.1, v65.1, (gd tNode v66 (0 + v67)).2.2.2.2.2.2.2.2.2.1, ()))
def laws_markNodeS_b2_v63 (k2 : laws_markNodeS_K2) (x2 : Int) (v62 : Int × (List tRec.D) × Unit) (v63 : List tNode.D) : Option (laws_markNodeS_R) :=
  (ix v63.length x2).bind fun v64 =>
  (laws_markSlotS ((gd tNode v63 (0 + v64)).2.2.2.2.2.2.2.1, v62.1, ())).bind fun v65 =>
  laws_markNodeS_b2_v66 k2 x2 v65 (v63.set (0 + v64) ((gd tNode v63 (0 + v64)).1, (gd tNode v63 (0 + v64)).2.1, (gd tNode v63 (0 + v64)).2.2.1, (gd tNode v63 (0 + v64)).2.2.2.1, (gd tNode v63 (0 + v64)).2.2.2.2.1, (gd tNode v63 (0 + v64)).2.2.2.2.2.1, (gd tNode v63 (0 + v64)).2.2.2.2.2.2.1, v65.2.1, (gd tNode v63 (0 + v64)).2.2.2.2.2.2.2.2.1, (gd tNode v63 (0 + v64)).2.2.2.2.2.2.2.2.2.1, ()))
def laws_markNodeS_b2_v60 (k2 : laws_markNodeS_K2) (x2 : Int) (v59 : Int × (List tEntry.D) × Unit) (v60 : List tNode.D) : Option (laws_markNodeS_R) :=
  (ix v60.length x2).bind fun v61 =>
  (laws_markRecS (((gd tNode v60 (0 + v61)).2.2.2.2.2.2.1).2.1, v59.1, ())).bind fun v62 =>
  laws_markNodeS_b2_v63 k2 x2 v62 (v60.set (0 + v61) ((gd tNode v60 (0 + v61)).1, (gd tNode v60 (0 + v61)).2.1, (gd tNode v60 (0 + v61)).2.2.1, (gd tNode v60 (0 + v61)).2.2.2.1, (gd tNode v60 (0 + v61)).2.2.2.2.1, (gd tNode v60 (0 + v61)).2.2.2.2.2.1, (((gd tNode v60 (0 + v61)).2.2.2.2.2.2.1).1, v62.2.1, ()), (gd tNode v60 (0 + v61)).2.2.2.2.2.2.2.1, (gd tNode v60 (0 + v61)).2.2.2.2.2.2.2.2.1, (gd tNode v60 (0 + v61)).2.2.2.2.2.2.2.2.2.1, ()))
def laws_markNodeS_b2_v57 (k2 : laws_markNodeS_K2) (x2 : Int) (v38 : Int × (List tTenant.D) × Unit) (v57 : List tNode.D) : Option (laws_markNodeS_R) :=
  (ix v57.length x2).bind fun v58 =>
  (laws_markEntryS ((((gd tNode v57 (0 + v58)).2.2.2.2.2.2.1).1).2.2.2.1, w64 (w64 (w64 (w64 (w64 (w64 (w64 (w64 (v38.1 + 1) + 1) + 1) + 1) + 1) + 1) + 1) + 1), ())).bind fun v59 =>
  laws_markNodeS_b2_v60 k2 x2 v59 (v57.set (0 + v58) ((gd tNode v57 (0 + v58)).1, (gd tNode v57 (0 + v58)).2.1, (gd tNode v57 (0 + v58)).2.2.1, (gd tNode v57 (0 + v58)).2.2.2.1, (gd tNode v57 (0 + v58)).2.2.2.2.1, (gd tNode v57 (0 + v58)).2.2.2.2.2.1, (((((gd tNode v57 (0 + v58)).2.2.2.2.2.2.1).1).1, (((gd tNode v57 (0 + v58)).2.2.2.2.2.2.1).1).2.1, (((gd tNode v57 (0 + v58)).2.2.2.2.2.2.1).1).2.2.1, v59.2.1, ()), ((gd tNode v57 (0 + v58)).2.2.2.2.2.2.1).2.1, ()), (gd tNode v57 (0 + v58)).2.2.2.2.2.2.2.1, (gd tNode v57 (0 + v58)).2.2.2.2.2.2.2.2.1, (gd tNode v57 (0 + v58)).2.2.2.2.2.2.2.2.2.1, ()))
def laws_markNodeS_b2_v54 (k2 : laws_markNodeS_K2) (v38 : Int × (List tTenant.D) × Unit) (x2 : Int) (v54 : List tNode.D) : Option (laws_markNodeS_R) :=
  (laws_markText (w64 (w64 (w64 (w64 (w64 (w64 (w64 (v38.1 + 1) + 1) + 1) + 1) + 1) + 1) + 1), ())).bind fun v55 =>
  (ix v54.length x2).bind fun v56 =>
  laws_markNodeS_b2_v57 k2 x2 v38 (v54.set (0 + v56) ((gd tNode v54 (0 + v56)).1, (gd tNode v54 (0 + v56)).2.1, (gd tNode v54 (0 + v56)).2.2.1, (gd tNode v54 (0 + v56)).2.2.2.1, (gd tNode v54 (0 + v56)).2.2.2.2.1, (gd tNode v54 (0 + v56)).2.2.2.2.2.1, (((((gd tNode v54 (0 + v56)).2.2.2.2.2.2.1).1).1, (((gd tNode v54 (0 + v56)).2.2.2.2.2.2.1).1).2.1, (((((gd tNode v54 (0 + v56)).2.2.2.2.2.2.1).1).2.2.1).1, ((((gd tNode v54 (0 + v56)).2.2.2.2.2.2.1).1).2.2.1).2.1, v55.1, ()), (((gd tNode v54 (0 + v56)).2.2.2.2.2.2.1).1).2.2.2.1, ()), ((gd tNode v54 (0 + v56)).2.2.2.2.2.2.1).2.1, ()), (gd tNode v54 (0 + v56)).2.2.2.2.2.2.2.1, (gd tNode v54 (0 + v56)).2.2.2.2.2.2.2.2.1, (gd tNode v54 (0 + v56)).2.2.2.2.2.2.2.2.2.1, ()))
def laws_markNodeS_b2_v52 (k2 : laws_markNodeS_K2) (x2 : Int) (v38 : Int × (List tTenant.D) × Unit) (v52 : List tNode.D) : Option (laws_markNodeS_R) :=
  (ix v52.length x2).bind fun v53 =>
  laws_markNodeS_b2_v54 k2 v38 x2 (v52.set (0 + v53) ((gd tNode v52 (0 + v53)).1, (gd tNode v52 (0 + v53)).2.1, (gd tNode v52 (0 + v53)).2.2.1, (gd tNode v52 (0 + v53)).2.2.2.1, (gd tNode v52 (0 + v53)).2.2.2.2.1, (gd tNode v52 (0 + v53)).2.2.2.2.2.1, (((((gd tNode v52 (0 + v53)).2.2.2.2.2.2.1).1).1, (((gd tNode v52 (0 + v53)).2.2.2.2.2.2.1).1).2.1, (((((gd tNode v52 (0 + v53)).2.2.2.2.2.2.1).1).2.2.1).1, w64 (w64 (w64 (w64 (w64 (w64 (v38.1 + 1) + 1) + 1) + 1) + 1) + 1), ((((gd tNode v52 (0 + v53)).2.2.2.2.2.2.1).1).2.2.1).2.2.1, ()), (((gd tNode v52 (0 + v53)).2.2.2.2.2.2.1).1).2.2.2.1, ()), ((gd tNode v52 (0 + v53)).2.2.2.2.2.2.1).2.1, ()), (gd tNode v52 (0 + v53)).2.2.2.2.2.2.2.1, (gd tNode v52 (0 + v53)).2.2.2.2.2.2.2.2.1, (gd tNode v52 (0 + v53)).2.2.2.2.2.2.2.2.2.1, ()))
def laws_markNodeS_b2_v50 (k2 : laws_markNodeS_K2) (x2 : Int) (v38 : Int × (List tTenant.D) × Unit) (v50 : List tNode.D) : Option (laws_markNodeS_R) :=
  (ix v50.length x2).bind fun v51 =>
  laws_markNodeS_b2_v52 k2 x2 v38 (v50.set (0 + v51) ((gd tNode v50 (0 + v51)).1, (gd tNode v50 (0 + v51)).2.1, (gd tNode v50 (0 + v51)).2.2.1, (gd tNode v50 (0 + v51)).2.2.2.1, (gd tNode v50 (0 + v51)).2.2.2.2.1, (gd tNode v50 (0 + v51)).2.2.2.2.2.1, (((((gd tNode v50 (0 + v51)).2.2.2.2.2.2.1).1).1, (((gd tNode v50 (0 + v51)).2.2.2.2.2.2.1).1).2.1, (w64 (w64 (w64 (w64 (w64 (v38.1 + 1) + 1) + 1) + 1) + 1), ((((gd tNode v50 (0 + v51)).2.2.2.2.2.2.1).1).2.2.1).2.1, ((((gd tNode v50 (0 + v51)).2.2.2.2.2.2.1).1).2.2.1).2.2.1, ()), (((gd tNode v50 (0 + v51)).2.2.2.2.2.2.1).1).2.2.2.1, ()), ((gd tNode v50 (0 + v51)).2.2.2.2.2.2.1).2.1, ()), (gd tNode v50 (0 + v51)).2.2.2.2.2.2.2.1, (gd tNode v50 (0 + v51)).2.2.2.2.2.2.2.2.1, (gd tNode v50 (0 + v51)).2.2.2.2.2.2.2.2.2.1, ()))
def laws_markNodeS_b2_v48 (k2 : laws_markNodeS_K2) (x2 : Int) (v38 : Int × (List tTenant.D) × Unit) (v48 : List tNode.D) : Option (laws_markNodeS_R) :=
  (ix v48.length x2).bind fun v49 =>
  laws_markNodeS_b2_v50 k2 x2 v38 (v48.set (0 + v49) ((gd tNode v48 (0 + v49)).1, (gd tNode v48 (0 + v49)).2.1, (gd tNode v48 (0 + v49)).2.2.1, (gd tNode v48 (0 + v49)).2.2.2.1, (gd tNode v48 (0 + v49)).2.2.2.2.1, (gd tNode v48 (0 + v49)).2.2.2.2.2.1, (((((gd tNode v48 (0 + v49)).2.2.2.2.2.2.1).1).1, w64 (w64 (w64 (w64 (v38.1 + 1) + 1) + 1) + 1), (((gd tNode v48 (0 + v49)).2.2.2.2.2.2.1).1).2.2.1, (((gd tNode v48 (0 + v49)).2.2.2.2.2.2.1).1).2.2.2.1, ()), ((gd tNode v48 (0 + v49)).2.2.2.2.2.2.1).2.1, ()), (gd tNode v48 (0 + v49)).2.2.2.2.2.2.2.1, (gd tNode v48 (0 + v49)).2.2.2.2.2.2.2.2.1, (gd tNode v48 (0 + v49)).2.2.2.2.2.2.2.2.2.1, ()))
def laws_markNodeS_b2_v46 (k2 : laws_markNodeS_K2) (x2 : Int) (v38 : Int × (List tTenant.D) × Unit) (v46 : List tNode.D) : Option (laws_markNodeS_R) :=
  (ix v46.length x2).bind fun v47 =>
  laws_markNodeS_b2_v48 k2 x2 v38 (v46.set (0 + v47) ((gd tNode v46 (0 + v47)).1, (gd tNode v46 (0 + v47)).2.1, (gd tNode v46 (0 + v47)).2.2.1, (gd tNode v46 (0 + v47)).2.2.2.1, (gd tNode v46 (0 + v47)).2.2.2.2.1, (gd tNode v46 (0 + v47)).2.2.2.2.2.1, ((w64 (w64 (w64 (v38.1 + 1) + 1) + 1), (((gd tNode v46 (0 + v47)).2.2.2.2.2.2.1).1).2.1, (((gd tNode v46 (0 + v47)).2.2.2.2.2.2.1).1).2.2.1, (((gd tNode v46 (0 + v47)).2.2.2.2.2.2.1).1).2.2.2.1, ()), ((gd tNode v46 (0 + v47)).2.2.2.2.2.2.1).2.1, ()), (gd tNode v46 (0 + v47)).2.2.2.2.2.2.2.1, (gd tNode v46 (0 + v47)).2.2.2.2.2.2.2.2.1, (gd tNode v46 (0 + v47)).2.2.2.2.2.2.2.2.2.1, ()))
def laws_markNodeS_b2_v43 (k2 : laws_markNodeS_K2) (v38 : Int × (List tTenant.D) × Unit) (x2 : Int) (v43 : List tNode.D) : Option (laws_markNodeS_R) :=
  (laws_markText (w64 (w64 (v38.1 + 1) + 1), ())).bind fun v44 =>
  (ix v43.length x2).bind fun v45 =>
  laws_markNodeS_b2_v46 k2 x2 v38 (v43.set (0 + v45) ((gd tNode v43 (0 + v45)).1, (gd tNode v43 (0 + v45)).2.1, (gd tNode v43 (0 + v45)).2.2.1, (gd tNode v43 (0 + v45)).2.2.2.1, (gd tNode v43 (0 + v45)).2.2.2.2.1, (((gd tNode v43 (0 + v45)).2.2.2.2.2.1).1, ((gd tNode v43 (0 + v45)).2.2.2.2.2.1).2.1, v44.1, ()), (gd tNode v43 (0 + v45)).2.2.2.2.2.2.1, (gd tNode v43 (0 + v45)).2.2.2.2.2.2.2.1, (gd tNode v43 (0 + v45)).2.2.2.2.2.2.2.2.1, (gd tNode v43 (0 + v45)).2.2.2.2.2.2.2.2.2.1, ()))
def laws_markNodeS_b2_v41 (k2 : laws_markNodeS_K2) (x2 : Int) (v38 : Int × (List tTenant.D) × Unit) (v41 : List tNode.D) : Option (laws_markNodeS_R) :=
  (ix v41.length x2).bind fun v42 =>
  laws_markNodeS_b2_v43 k2 v38 x2 (v41.set (0 + v42) ((gd tNode v41 (0 + v42)).1, (gd tNode v41 (0 + v42)).2.1, (gd tNode v41 (0 + v42)).2.2.1, (gd tNode v41 (0 + v42)).2.2.2.1, (gd tNode v41 (0 + v42)).2.2.2.2.1, (((gd tNode v41 (0 + v42)).2.2.2.2.2.1).1, w64 (v38.1 + 1), ((gd tNode v41 (0 + v42)).2.2.2.2.2.1).2.2.1, ()), (gd tNode v41 (0 + v42)).2.2.2.2.2.2.1, (gd tNode v41 (0 + v42)).2.2.2.2.2.2.2.1, (gd tNode v41 (0 + v42)).2.2.2.2.2.2.2.2.1, (gd tNode v41 (0 + v42)).2.2.2.2.2.2.2.2.2.1, ()))
def laws_markNodeS_b2_v39 (k2 : laws_markNodeS_K2) (x2 : Int) (v38 : Int × (List tTenant.D) × Unit) (v39 : List tNode.D) : Option (laws_markNodeS_R) :=
  (ix v39.length x2).bind fun v40 =>
  laws_markNodeS_b2_v41 k2 x2 v38 (v39.set (0 + v40) ((gd tNode v39 (0 + v40)).1, (gd tNode v39 (0 + v40)).2.1, (gd tNode v39 (0 + v40)).2.2.1, (gd tNode v39 (0 + v40)).2.2.2.1, (gd tNode v39 (0 + v40)).2.2.2.2.1, (v38.1, ((gd tNode v39 (0 + v40)).2.2.2.2.2.1).2.1, ((gd tNode v39 (0 + v40)).2.2.2.2.2.1).2.2.1, ()), (gd tNode v39 (0 + v40)).2.2.2.2.2.2.1, (gd tNode v39 (0 + v40)).2.2.2.2.2.2.2.1, (gd tNode v39 (0 + v40)).2.2.2.2.2.2.2.2.1, (gd tNode v39 (0 + v40)).2.2.2.2.2.2.2.2.2.1, ()))
def laws_markNodeS_b2_v36 (k2 : laws_markNodeS_K2) (x2 : Int) (v35 : Int × (List Int) × Unit) (v36 : List tNode.D) : Option (laws_markNodeS_R) :=
  (ix v36.length x2).bind fun v37 =>
  (laws_markTenantS ((gd tNode v36 (0 + v37)).2.2.2.2.1, v35.1, ())).bind fun v38 =>
  laws_markNodeS_b2_v39 k2 x2 v38 (v36.set (0 + v37) ((gd tNode v36 (0 + v37)).1, (gd tNode v36 (0 + v37)).2.1, (gd tNode v36 (0 + v37)).2.2.1, (gd tNode v36 (0 + v37)).2.2.2.1, v38.2.1, (gd tNode v36 (0 + v37)).2.2.2.2.2.1, (gd tNode v36 (0 + v37)).2.2.2.2.2.2.1, (gd tNode v36 (0 + v37)).2.2.2.2.2.2.2.1, (gd tNode v36 (0 + v37)).2.2.2.2.2.2.2.2.1, (gd tNode v36 (0 + v37)).2.2.2.2.2.2.2.2.2.1, ()))
def laws_markNodeS_b2_v33 (k2 : laws_markNodeS_K2) (x2 : Int) (v32 : Int × (List Int) × Unit) (v33 : List tNode.D) : Option (laws_markNodeS_R) :=
  (ix v33.length x2).bind fun v34 =>
  (laws_markIntS (((gd tNode v33 (0 + v34)).2.2.2.1).2.2.2.2.2.2.2.2.2.2.2.2.1, v32.1, ())).bind fun v35 =>
  laws_markNodeS_b2_v36 k2 x2 v35 (v33.set (0 + v34) ((gd tNode v33 (0 + v34)).1, (gd tNode v33 (0 + v34)).2.1, (gd tNode v33 (0 + v34)).2.2.1, (((gd tNode v33 (0 + v34)).2.2.2.1).1, ((gd tNode v33 (0 + v34)).2.2.2.1).2.1, ((gd tNode v33 (0 + v34)).2.2.2.1).2.2.1, ((gd tNode v33 (0 + v34)).2.2.2.1).2.2.2.1, ((gd tNode v33 (0 + v34)).2.2.2.1).2.2.2.2.1, ((gd tNode v33 (0 + v34)).2.2.2.1).2.2.2.2.2.1, ((gd tNode v33 (0 + v34)).2.2.2.1).2.2.2.2.2.2.1, ((gd tNode v33 (0 + v34)).2.2.2.1).2.2.2.2.2.2.2.1, ((gd tNode v33 (0 + v34)).2.2.2.1).2.2.2.2.2.2.2.2.1, ((gd tNode v33 (0 + v34)).2.2.2.1).2.2.2.2.2.2.2.2.2.1, ((gd tNode v33 (0 + v34)).2.2.2.1).2.2.2.2.2.2.2.2.2.2.1, ((gd tNode v33 (0 + v34)).2.2.2.1).2.2.2.2.2.2.2.2.2.2.2.1, v35.2.1, ()), (gd tNode v33 (0 + v34)).2.2.2.2.1, (gd tNode v33 (0 + v34)).2.2.2.2.2.1, (gd tNode v33 (0 + v34)).2.2.2.2.2.2.1, (gd tNode v33 (0 + v34)).2.2.2.2.2.2.2.1, (gd tNode v33 (0 + v34)).2.2.2.2.2.2.2.2.1, (gd tNode v33 (0 + v34)).2.2.2.2.2.2.2.2.2.1, ()))
def laws_markNodeS_b2_v30 (k2 : laws_markNodeS_K2) (x2 : Int) (v29 : Int × (List Int) × Unit) (v30 : List tNode.D) : Option (laws_markNodeS_R) :=
  (ix v30.length x2).bind fun v31 =>
  (laws_markIntS (((gd tNode v30 (0 + v31)).2.2.2.1).2.2.2.2.2.2.2.2.2.2.2.1, v29.1, ())).bind fun v32 =>
  laws_markNodeS_b2_v33 k2 x2 v32 (v30.set (0 + v31) ((gd tNode v30 (0 + v31)).1, (gd tNode v30 (0 + v31)).2.1, (gd tNode v30 (0 + v31)).2.2.1, (((gd tNode v30 (0 + v31)).2.2.2.1).1, ((gd tNode v30 (0 + v31)).2.2.2.1).2.1, ((gd tNode v30 (0 + v31)).2.2.2.1).2.2.1, ((gd tNode v30 (0 + v31)).2.2.2.1).2.2.2.1, ((gd tNode v30 (0 + v31)).2.2.2.1).2.2.2.2.1, ((gd tNode v30 (0 + v31)).2.2.2.1).2.2.2.2.2.1, ((gd tNode v30 (0 + v31)).2.2.2.1).2.2.2.2.2.2.1, ((gd tNode v30 (0 + v31)).2.2.2.1).2.2.2.2.2.2.2.1, ((gd tNode v30 (0 + v31)).2.2.2.1).2.2.2.2.2.2.2.2.1, ((gd tNode v30 (0 + v31)).2.2.2.1).2.2.2.2.2.2.2.2.2.1, ((gd tNode v30 (0 + v31)).2.2.2.1).2.2.2.2.2.2.2.2.2.2.1, v32.2.1, ((gd tNode v30 (0 + v31)).2.2.2.1).2.2.2.2.2.2.2.2.2.2.2.2.1, ()), (gd tNode v30 (0 + v31)).2.2.2.2.1, (gd tNode v30 (0 + v31)).2.2.2.2.2.1, (gd tNode v30 (0 + v31)).2.2.2.2.2.2.1, (gd tNode v30 (0 + v31)).2.2.2.2.2.2.2.1, (gd tNode v30 (0 + v31)).2.2.2.2.2.2.2.2.1, (gd tNode v30 (0 + v31)).2.2.2.2.2.2.2.2.2.1, ()))
def laws_markNodeS_b2_v27 (k2 : laws_markNodeS_K2) (x2 : Int) (v24 : Int × (List tEntry.D) × Unit) (v27 : List tNode.D) : Option (laws_markNodeS_R) :=
  (ix v27.length x2).bind fun v28 =>
  (laws_markIntS (((gd tNode v27 (0 + v28)).2.2.2.1).2.2.2.2.2.2.2.2.2.2.1, w64 (v24.1 + 1), ())).bind fun v29 =>
  laws_markNodeS_b2_v30 k2 x2 v29 (v27.set (0 + v28) ((gd tNode v27 (0 + v28)).1, (gd tNode v27 (0 + v28)).2.1, (gd tNode v27 (0 + v28)).2.2.1, (((gd tNode v27 (0 + v28)).2.2.2.1).1, ((gd tNode v27 (0 + v28)).2.2.2.1).2.1, ((gd tNode v27 (0 + v28)).2.2.2.1).2.2.1, ((gd tNode v27 (0 + v28)).2.2.2.1).2.2.2.1, ((gd tNode v27 (0 + v28)).2.2.2.1).2.2.2.2.1, ((gd tNode v27 (0 + v28)).2.2.2.1).2.2.2.2.2.1, ((gd tNode v27 (0 + v28)).2.2.2.1).2.2.2.2.2.2.1, ((gd tNode v27 (0 + v28)).2.2.2.1).2.2.2.2.2.2.2.1, ((gd tNode v27 (0 + v28)).2.2.2.1).2.2.2.2.2.2.2.2.1, ((gd tNode v27 (0 + v28)).2.2.2.1).2.2.2.2.2.2.2.2.2.1, v29.2.1, ((gd tNode v27 (0 + v28)).2.2.2.1).2.2.2.2.2.2.2.2.2.2.2.1, ((gd tNode v27 (0 + v28)).2.2.2.1).2.2.2.2.2.2.2.2.2.2.2.2.1, ()), (gd tNode v27 (0 + v28)).2.2.2.2.1, (gd tNode v27 (0 + v28)).2.2.2.2.2.1, (gd tNode v27 (0 + v28)).2.2.2.2.2.2.1, (gd tNode v27 (0 + v28)).2.2.2.2.2.2.2.1, (gd tNode v27 (0 + v28)).2.2.2.2.2.2.2.2.1, (gd tNode v27 (0 + v28)).2.2.2.2.2.2.2.2.2.1, ()))
def laws_markNodeS_b2_v25 (k2 : laws_markNodeS_K2) (x2 : Int) (v24 : Int × (List tEntry.D) × Unit) (v25 : List tNode.D) : Option (laws_markNodeS_R) :=
  (ix v25.length x2).bind fun v26 =>
  laws_markNodeS_b2_v27 k2 x2 v24 (v25.set (0 + v26) ((gd tNode v25 (0 + v26)).1, (gd tNode v25 (0 + v26)).2.1, (gd tNode v25 (0 + v26)).2.2.1, (((gd tNode v25 (0 + v26)).2.2.2.1).1, ((gd tNode v25 (0 + v26)).2.2.2.1).2.1, ((gd tNode v25 (0 + v26)).2.2.2.1).2.2.1, ((gd tNode v25 (0 + v26)).2.2.2.1).2.2.2.1, ((gd tNode v25 (0 + v26)).2.2.2.1).2.2.2.2.1, ((gd tNode v25 (0 + v26)).2.2.2.1).2.2.2.2.2.1, ((gd tNode v25 (0 + v26)).2.2.2.1).2.2.2.2.2.2.1, ((gd tNode v25 (0 + v26)).2.2.2.1).2.2.2.2.2.2.2.1, ((gd tNode v25 (0 + v26)).2.2.2.1).2.2.2.2.2.2.2.2.1, v24.1, ((gd tNode v25 (0 + v26)).2.2.2.1).2.2.2.2.2.2.2.2.2.2.1, ((gd tNode v25 (0 + v26)).2.2.2.1).2.2.2.2.2.2.2.2.2.2.2.1, ((gd tNode v25 (0 + v26)).2.2.2.1).2.2.2.2.2.2.2.2.2.2.2.2.1, ()), (gd tNode v25 (0 + v26)).2.2.2.2.1, (gd tNode v25 (0 + v26)).2.2.2.2.2.1, (gd tNode v25 (0 + v26)).2.2.2.2.2.2.1, (gd tNode v25 (0 + v26)).2.2.2.2.2.2.2.1, (gd tNode v25 (0 + v26)).2.2.2.2.2.2.2.2.1, (gd tNode v25 (0 + v26)).2.2.2.2.2.2.2.2.2.1, ()))
def laws_markNodeS_b2_v22 (k2 : laws_markNodeS_K2) (x2 : Int) (x1 : Int) (v22 : List tNode.D) : Option (laws_markNodeS_R) :=
  (ix v22.length x2).bind fun v23 =>
  (laws_markEntryS (((gd tNode v22 (0 + v23)).2.2.2.1).2.2.2.2.2.2.2.2.1, w64 (w64 (w64 (w64 (w64 (w64 (w64 (w64 (w64 (w64 (w64 (x1 + 1) + 1) + 1) + 1) + 1) + 1) + 1) + 1) + 1) + 1) + 1), ())).bind fun v24 =>
  laws_markNodeS_b2_v25 k2 x2 v24 (v22.set (0 + v23) ((gd tNode v22 (0 + v23)).1, (gd tNode v22 (0 + v23)).2.1, (gd tNode v22 (0 + v23)).2.2.1, (((gd tNode v22 (0 + v23)).2.2.2.1).1, ((gd tNode v22 (0 + v23)).2.2.2.1).2.1, ((gd tNode v22 (0 + v23)).2.2.2.1).2.2.1, ((gd tNode v22 (0 + v23)).2.2.2.1).2.2.2.1, ((gd tNode v22 (0 + v23)).2.2.2.1).2.2.2.2.1, ((gd tNode v22 (0 + v23)).2.2.2.1).2.2.2.2.2.1, ((gd tNode v22 (0 + v23)).2.2.2.1).2.2.2.2.2.2.1, ((gd tNode v22 (0 + v23)).2.2.2.1).2.2.2.2.2.2.2.1, v24.2.1, ((gd tNode v22 (0 + v23)).2.2.2.1).2.2.2.2.2.2.2.2.2.1, ((gd tNode v22 (0 + v23)).2.2.2.1).2.2.2.2.2.2.2.2.2.2.1, ((gd tNode v22 (0 + v23)).2.2.2.1).2.2.2.2.2.2.2.2.2.2.2.1, ((gd tNode v22 (0 + v23)).2.2.2.1).2.2.2.2.2.2.2.2.2.2.2.2.1, ()), (gd tNode v22 (0 + v23)).2.2.2.2.1, (gd tNode v22 (0 + v23)).2.2.2.2.2.1, (gd tNode v22 (0 + v23)).2.2.2.2.2.2.1, (gd tNode v22 (0 + v23)).2.2.2.2.2.2.2.1, (gd tNode v22 (0 + v23)).2.2.2.2.2.2.2.2.1, (gd tNode v22 (0 + v23)).2.2.2.2.2.2.2.2.2.1, ()))
def laws_markNodeS_b2_v20 (k2 : laws_markNodeS_K2) (x2 : Int) (x1 : Int) (v20 : List tNode.D) : Option (laws_markNodeS_R) :=
  (ix v20.length x2).bind fun v21 =>
  laws_markNodeS_b2_v22 k2 x2 x1 (v20.set (0 + v21) ((gd tNode v20 (0 + v21)).1, (gd tNode v20 (0 + v21)).2.1, (gd tNode v20 (0 + v21)).2.2.1, (((gd tNode v20 (0 + v21)).2.2.2.1).1, ((gd tNode v20 (0 + v21)).2.2.2.1).2.1, ((gd tNode v20 (0 + v21)).2.2.2.1).2.2.1, ((gd tNode v20 (0 + v21)).2.2.2.1).2.2.2.1, ((gd tNode v20 (0 + v21)).2.2.2.1).2.2.2.2.1, ((gd tNode v20 (0 + v21)).2.2.2.1).2.2.2.2.2.1, ((gd tNode v20 (0 + v21)).2.2.2.1).2.2.2.2.2.2.1, w64 (w64 (w64 (w64 (w64 (w64 (w64 (w64 (w64 (w64 (x1 + 1) + 1) + 1) + 1) + 1) + 1) + 1) + 1) + 1) + 1), ((gd tNode v20 (0 + v21)).2.2.2.1).2.2.2.2.2.2.2.2.1, ((gd tNode v20 (0 + v21)).2.2.2.1).2.2.2.2.2.2.2.2.2.1, ((gd tNode v20 (0 + v21)).2.2.2.1).2.2.2.2.2.2.2.2.2.2.1, ((gd tNode v20 (0 + v21)).2.2.2.1).2.2.2.2.2.2.2.2.2.2.2.1, ((gd tNode v20 (0 + v21)).2.2.2.1).2.2.2.2.2.2.2.2.2.2.2.2.1, ()), (gd tNode v20 (0 + v21)).2.2.2.2.1, (gd tNode v20 (0 + v21)).2.2.2.2.2.1, (gd tNode v20 (0 + v21)).2.2.2.2.2.2.1, (gd tNode v20 (0 + v21)).2.2.2.2.2.2.2.1, (gd tNode v20 (0 + v21)).2.2.2.2.2.2.2.2.1, (gd tNode v20 (0 + v21)).2.2.2.2.2.2.2.2.2.1, ()))
def laws_markNodeS_b2_v18 (k2 : laws_markNodeS_K2) (x2 : Int) (x1 : Int) (v18 : List tNode.D) : Option (laws_markNodeS_R) :=
  (ix v18.length x2).bind fun v19 =>
  laws_markNodeS_b2_v20 k2 x2 x1 (v18.set (0 + v19) ((gd tNode v18 (0 + v19)).1, (gd tNode v18 (0 + v19)).2.1, (gd tNode v18 (0 + v19)).2.2.1, (((gd tNode v18 (0 + v19)).2.2.2.1).1, ((gd tNode v18 (0 + v19)).2.2.2.1).2.1, ((gd tNode v18 (0 + v19)).2.2.2.1).2.2.1, ((gd tNode v18 (0 + v19)).2.2.2.1).2.2.2.1, ((gd tNode v18 (0 + v19)).2.2.2.1).2.2.2.2.1, ((gd tNode v18 (0 + v19)).2.2.2.1).2.2.2.2.2.1, w64 (w64 (w64 (w64 (w64 (w64 (w64 (w64 (w64 (x1 + 1) + 1) + 1) + 1) + 1) + 1) + 1) + 1) + 1), ((gd tNode v18 (0 + v19)).2.2.2.1).2.2.2.2.2.2.2.1, ((gd tNode v18 (0 + v19)).2.2.2.1).2.2.2.2.2.2.2.2.1, ((gd tNode v18 (0 + v19)).2.2.2.1).2.2.2.2.2.2.2.2.2.1, ((gd tNode v18 (0 + v19)).2.2.2.1).2.2.2.2.2.2.2.2.2.2.1, ((gd tNode v18 (0 + v19)).2.2.2.1).2.2.2.2.2.2.2.2.2.2.2.1, ((gd tNode v18 (0 + v19)).2.2.2.1).2.2.2.2.2.2.2.2.2.2.2.2.1, ()), (gd tNode v18 (0 + v19)).2.2.2.2.1, (gd tNode v18 (0 + v19)).2.2.2.2.2.1, (gd tNode v18 (0 + v19)).2.2.2.2.2.2.1, (gd tNode v18 (0 + v19)).2.2.2.2.2.2.2.1, (gd tNode v18 (0 + v19)).2.2.2.2.2.2.2.2.1, (gd tNode v18 (0 + v19)).2.2.2.2.2.2.2.2.2.1, ()))
def laws_markNodeS_b2_v16 (k2 : laws_markNodeS_K2) (x2 : Int) (x1 : Int) (v16 : List tNode.D) : Option (laws_markNodeS_R) :=
  (ix v16.length x2).bind fun v17 =>
  laws_markNodeS_b2_v18 k2 x2 x1 (v16.set (0 + v17) ((gd tNode v16 (0 + v17)).1, (gd tNode v16 (0 + v17)).2.1, (gd tNode v16 (0 + v17)).2.2.1, (((gd tNode v16 (0 + v17)).2.2.2.1).1, ((gd tNode v16 (0 + v17)).2.2.2.1).2.1, ((gd tNode v16 (0 + v17)).2.2.2.1).2.2.1, ((gd tNode v16 (0 + v17)).2.2.2.1).2.2.2.1, ((gd tNode v16 (0 + v17)).2.2.2.1).2.2.2.2.1, w64 (w64 (w64 (w64 (w64 (w64 (w64 (w64 (x1 + 1) + 1) + 1) + 1) + 1) + 1) + 1) + 1), ((gd tNode v16 (0 + v17)).2.2.2.1).2.2.2.2.2.2.1, ((gd tNode v16 (0 + v17)).2.2.2.1).2.2.2.2.2.2.2.1, ((gd tNode v16 (0 + v17)).2.2.2.1).2.2.2.2.2.2.2.2.1, ((gd tNode v16 (0 + v17)).2.2.2.1).2.2.2.2.2.2.2.2.2.1, ((gd tNode v16 (0 + v17)).2.2.2.1).2.2.2.2.2.2.2.2.2.2.1, ((gd tNode v16 (0 + v17)).2.2.2.1).2.2.2.2.2.2.2.2.2.2.2.1, ((gd tNode v16 (0 + v17)).2.2.2.1).2.2.2.2.2.2.2.2.2.2.2.2.1, ()), (gd tNode v16 (0 + v17)).2.2.2.2.1, (gd tNode v16 (0 + v17)).2.2.2.2.2.1, (gd tNode v16 (0 + v17)).2.2.2.2.2.2.1, (gd tNode v16 (0 + v17)).2.2.2.2.2.2.2.1, (gd tNode v16 (0 + v17)).2.2.2.2.2.2.2.2.1, (gd tNode v16 (0 + v17)).2.2.2.2.2.2.2.2.2.1, ()))
def laws_markNodeS_b2_v14 (k2 : laws_markNodeS_K2) (x2 : Int) (x1 : Int) (v14 : List tNode.D) : Option (laws_markNodeS_R) :=
  (ix v14.length x2).bind fun v15 =>
  laws_markNodeS_b2_v16 k2 x2 x1 (v14.set (0 + v15) ((gd tNode v14 (0 + v15)).1, (gd tNode v14 (0 + v15)).2.1, (gd tNode v14 (0 + v15)).2.2.1, (((gd tNode v14 (0 + v15)).2.2.2.1).1, ((gd tNode v14 (0 + v15)).2.2.2.1).2.1, ((gd tNode v14 (0 + v15)).2.2.2.1).2.2.1, ((gd tNode v14 (0 + v15)).2.2.2.1).2.2.2.1, w64 (w64 (w64 (w64 (w64 (w64 (w64 (x1 + 1) + 1) + 1) + 1) + 1) + 1) + 1), ((gd tNode v14 (0 + v15)).2.2.2.1).2.2.2.2.2.1, ((gd tNode v14 (0 + v15)).2.2.2.1).2.2.2.2.2.2.1, ((gd tNode v14 (0 + v15)).2.2.2.1).2.2.2.2.2.2.2.1, ((gd tNode v14 (0 + v15)).2.2.2.1).2.2.2.2.2.2.2.2.1, ((gd tNode v14 (0 + v15)).2.2.2.1).2.2.2.2.2.2.2.2.2.1, ((gd tNode v14 (0 + v15)).2.2.2.1).2.2.2.2.2.2.2.2.2.2.1, ((gd tNode v14 (0 + v15)).2.2.2.1).2.2.2.2.2.2.2.2.2.2.2.1, ((gd tNode v14 (0 + v15)).2.2.2.1).2.2.2.2.2.2.2.2.2.2.2.2.1, ()), (gd tNode v14 (0 + v15)).2.2.2.2.1, (gd tNode v14 (0 + v15)).2.2.2.2.2.1, (gd tNode v14 (0 + v15)).2.2.2.2.2.2.1, (gd tNode v14 (0 + v15)).2.2.2.2.2.2.2.1, (gd tNode v14 (0 + v15)).2.2.2.2.2.2.2.2.1, (gd tNode v14 (0 + v15)).2.2.2.2.2.2.2.2.2.1, ()))
def laws_markNodeS_b2_v12 (k2 : laws_markNodeS_K2) (x2 : Int) (x1 : Int) (v12 : List tNode.D) : Option (laws_markNodeS_R) :=
  (ix v12.length x2).bind fun v13 =>
  laws_markNodeS_b2_v14 k2 x2 x1 (v12.set (0 + v13) ((gd tNode v12 (0 + v13)).1, (gd tNode v12 (0 + v13)).2.1, (gd tNode v12 (0 + v13)).2.2.1, (((gd tNode v12 (0 + v13)).2.2.2.1).1, ((gd tNode v12 (0 + v13)).2.2.2.1).2.1, ((gd tNode v12 (0 + v13)).2.2.2.1).2.2.1, w64 (w64 (w64 (w64 (w64 (w64 (x1 + 1) + 1) + 1) + 1) + 1) + 1), ((gd tNode v12 (0 + v13)).2.2.2.1).2.2.2.2.1, ((gd tNode v12 (0 + v13)).2.2.2.1).2.2.2.2.2.1, ((gd tNode v12 (0 + v13)).2.2.2.1).2.2.2.2.2.2.1, ((gd tNode v12 (0 + v13)).2.2.2.1).2.2.2.2.2.2.2.1, ((gd tNode v12 (0 + v13)).2.2.2.1).2.2.2.2.2.2.2.2.1, ((gd tNode v12 (0 + v13)).2.2.2.1).2.2.2.2.2.2.2.2.2.1, ((gd tNode v12 (0 + v13)).2.2.2.1).2.2.2.2.2.2.2.2.2.2.1, ((gd tNode v12 (0 + v13)).2.2.2.1).2.2.2.2.2.2.2.2.2.2.2.1, ((gd tNode v12 (0 + v13)).2.2.2.1).2.2.2.2.2.2.2.2.2.2.2.2.1, ()), (gd tNode v12 (0 + v13)).2.2.2.2.1, (gd tNode v12 (0 + v13)).2.2.2.2.2.1, (gd tNode v12 (0 + v13)).2.2.2.2.2.2.1, (gd tNode v12 (0 + v13)).2.2.2.2.2.2.2.1, (gd tNode v12 (0 + v13)).2.2.2.2.2.2.2.2.1, (gd tNode v12 (0 + v13)).2.2.2.2.2.2.2.2.2.1, ()))
def laws_markNodeS_b2_v10 (k2 : laws_markNodeS_K2) (x2 : Int) (x1 : Int) (v10 : List tNode.D) : Option (laws_markNodeS_R) :=
  (ix v10.length x2).bind fun v11 =>
  laws_markNodeS_b2_v12 k2 x2 x1 (v10.set (0 + v11) ((gd tNode v10 (0 + v11)).1, (gd tNode v10 (0 + v11)).2.1, (gd tNode v10 (0 + v11)).2.2.1, (((gd tNode v10 (0 + v11)).2.2.2.1).1, ((gd tNode v10 (0 + v11)).2.2.2.1).2.1, w64 (w64 (w64 (w64 (w64 (x1 + 1) + 1) + 1) + 1) + 1), ((gd tNode v10 (0 + v11)).2.2.2.1).2.2.2.1, ((gd tNode v10 (0 + v11)).2.2.2.1).2.2.2.2.1, ((gd tNode v10 (0 + v11)).2.2.2.1).2.2.2.2.2.1, ((gd tNode v10 (0 + v11)).2.2.2.1).2.2.2.2.2.2.1, ((gd tNode v10 (0 + v11)).2.2.2.1).2.2.2.2.2.2.2.1, ((gd tNode v10 (0 + v11)).2.2.2.1).2.2.2.2.2.2.2.2.1, ((gd tNode v10 (0 + v11)).2.2.2.1).2.2.2.2.2.2.2.2.2.1, ((gd tNode v10 (0 + v11)).2.2.2.1).2.2.2.2.2.2.2.2.2.2.1, ((gd tNode v10 (0 + v11)).2.2.2.1).2.2.2.2.2.2.2.2.2.2.2.1, ((gd tNode v10 (0 + v11)).2.2.2.1).2.2.2.2.2.2.2.2.2.2.2.2.1, ()), (gd tNode v10 (0 + v11)).2.2.2.2.1, (gd tNode v10 (0 + v11)).2.2.2.2.2.1, (gd tNode v10 (0 + v11)).2.2.2.2.2.2.1, (gd tNode v10 (0 + v11)).2.2.2.2.2.2.2.1, (gd tNode v10 (0 + v11)).2.2.2.2.2.2.2.2.1, (gd tNode v10 (0 + v11)).2.2.2.2.2.2.2.2.2.1, ()))
def laws_markNodeS_b2_v8 (k2 : laws_markNodeS_K2) (x2 : Int) (x1 : Int) (v8 : List tNode.D) : Option (laws_markNodeS_R) :=
  (ix v8.length x2).bind fun v9 =>
  laws_markNodeS_b2_v10 k2 x2 x1 (v8.set (0 + v9) ((gd tNode v8 (0 + v9)).1, (gd tNode v8 (0 + v9)).2.1, (gd tNode v8 (0 + v9)).2.2.1, (((gd tNode v8 (0 + v9)).2.2.2.1).1, w64 (w64 (w64 (w64 (x1 + 1) + 1) + 1) + 1), ((gd tNode v8 (0 + v9)).2.2.2.1).2.2.1, ((gd tNode v8 (0 + v9)).2.2.2.1).2.2.2.1, ((gd tNode v8 (0 + v9)).2.2.2.1).2.2.2.2.1, ((gd tNode v8 (0 + v9)).2.2.2.1).2.2.2.2.2.1, ((gd tNode v8 (0 + v9)).2.2.2.1).2.2.2.2.2.2.1, ((gd tNode v8 (0 + v9)).2.2.2.1).2.2.2.2.2.2.2.1, ((gd tNode v8 (0 + v9)).2.2.2.1).2.2.2.2.2.2.2.2.1, ((gd tNode v8 (0 + v9)).2.2.2.1).2.2.2.2.2.2.2.2.2.1, ((gd tNode v8 (0 + v9)).2.2.2.1).2.2.2.2.2.2.2.2.2.2.1, ((gd tNode v8 (0 + v9)).2.2.2.1).2.2.2.2.2.2.2.2.2.2.2.1, ((gd tNode v8 (0 + v9)).2.2.2.1).2.2.2.2.2.2.2.2.2.2.2.2.1, ()), (gd tNode v8 (0 + v9)).2.2.2.2.1, (gd tNode v8 (0 + v9)).2.2.2.2.2.1, (gd tNode v8 (0 + v9)).2.2.2.2.2.2.1, (gd tNode v8 (0 + v9)).2.2.2.2.2.2.2.1, (gd tNode v8 (0 + v9)).2.2.2.2.2.2.2.2.1, (gd tNode v8 (0 + v9)).2.2.2.2.2.2.2.2.2.1, ()))
def laws_markNodeS_b2_v6 (k2 : laws_markNodeS_K2) (x2 : Int) (x1 : Int) (v6 : List tNode.D) : Option (laws_markNodeS_R) :=
  (ix v6.length x2).bind fun v7 =>
  laws_markNodeS_b2_v8 k2 x2 x1 (v6.set (0 + v7) ((gd tNode v6 (0 + v7)).1, (gd tNode v6 (0 + v7)).2.1, (gd tNode v6 (0 + v7)).2.2.1, (w64 (w64 (w64 (x1 + 1) + 1) + 1), ((gd tNode v6 (0 + v7)).2.2.2.1).2.1, ((gd tNode v6 (0 + v7)).2.2.2.1).2.2.1, ((gd tNode v6 (0 + v7)).2.2.2.1).2.2.2.1, ((gd tNode v6 (0 + v7)).2.2.2.1).2.2.2.2.1, ((gd tNode v6 (0 + v7)).2.2.2.1).2.2.2.2.2.1, ((gd tNode v6 (0 + v7)).2.2.2.1).2.2.2.2.2.2.1, ((gd tNode v6 (0 + v7)).2.2.2.1).2.2.2.2.2.2.2.1, ((gd tNode v6 (0 + v7)).2.2.2.1).2.2.2.2.2.2.2.2.1, ((gd tNode v6 (0 + v7)).2.2.2.1).2.2.2.2.2.2.2.2.2.1, ((gd tNode v6 (0 + v7)).2.2.2.1).2.2.2.2.2.2.2.2.2.2.1, ((gd tNode v6 (0 + v7)).2.2.2.1).2.2.2.2.2.2.2.2.2.2.2.1, ((gd tNode v6 (0 + v7)).2.2.2.1).2.2.2.2.2.2.2.2.2.2.2.2.1, ()), (gd tNode v6 (0 + v7)).2.2.2.2.1, (gd tNode v6 (0 + v7)).2.2.2.2.2.1, (gd tNode v6 (0 + v7)).2.2.2.2.2.2.1, (gd tNode v6 (0 + v7)).2.2.2.2.2.2.2.1, (gd tNode v6 (0 + v7)).2.2.2.2.2.2.2.2.1, (gd tNode v6 (0 + v7)).2.2.2.2.2.2.2.2.2.1, ()))
def laws_markNodeS_b2_v4 (k2 : laws_markNodeS_K2) (x2 : Int) (x1 : Int) (v4 : List tNode.D) : Option (laws_markNodeS_R) :=
  (ix v4.length x2).bind fun v5 =>
  laws_markNodeS_b2_v6 k2 x2 x1 (v4.set (0 + v5) ((gd tNode v4 (0 + v5)).1, (gd tNode v4 (0 + v5)).2.1, Int.tmod (w64 (w64 (x1 + 1) + 1)) 3 == 0, (gd tNode v4 (0 + v5)).2.2.2.1, (gd tNode v4 (0 + v5)).2.2.2.2.1, (gd tNode v4 (0 + v5)).2.2.2.2.2.1, (gd tNode v4 (0 + v5)).2.2.2.2.2.2.1, (gd tNode v4 (0 + v5)).2.2.2.2.2.2.2.1, (gd tNode v4 (0 + v5)).2.2.2.2.2.2.2.2.1, (gd tNode v4 (0 + v5)).2.2.2.2.2.2.2.2.2.1, ()))
def laws_markNodeS_b2_v2 (k2 : laws_markNodeS_K2) (x2 : Int) (x1 : Int) (v2 : List tNode.D) : Option (laws_markNodeS_R) :=
  (ix v2.length x2).bind fun v3 =>
  laws_markNodeS_b2_v4 k2 x2 x1 (v2.set (0 + v3) ((gd tNode v2 (0 + v3)).1, w64 (x1 + 1), (gd tNode v2 (0 + v3)).2.2.1, (gd tNode v2 (0 + v3)).2.2.2.1, (gd tNode v2 (0 + v3)).2.2.2.2.1, (gd tNode v2 (0 + v3)).2.2.2.2.2.1, (gd tNode v2 (0 + v3)).2.2.2.2.2.2.1, (gd tNode v2 (0 + v3)).2.2.2.2.2.2.2.1, (gd tNode v2 (0 + v3)).2.2.2.2.2.2.2.2.1, (gd tNode v2 (0 + v3)).2.2.2.2.2.2.2.2.2.1, ()))
def laws_markNodeS_b2 (k2 : laws_markNodeS_K2) (x1 : Int) (x2 : Int) (x3 : List tNode.D) : Option (laws_markNodeS_R) :=
  cond (decide (x2 < (x3.length : Int)))
    ((ix x3.length x2).bind fun v1 =>
    laws_markNodeS_b2_v2 k2 x2 x1 (x3.set (0 + v1) (x1, (gd tNode x3 (0 + v1)).2.1, (gd tNode x3 (0 + v1)).2.2.1, (gd tNode x3 (0 + v1)).2.2.2.1, (gd tNode x3 (0 + v1)).2.2.2.2.1, (gd tNode x3 (0 + v1)).2.2.2.2.2.1, (gd tNode x3 (0 + v1)).2.2.2.2.2.2.1, (gd tNode x3 (0 + v1)).2.2.2.2.2.2.2.1, (gd tNode x3 (0 + v1)).2.2.2.2.2.2.2.2.1, (gd tNode x3 (0 + v1)).2.2.2.2.2.2.2.2.2.1, ())))
    (some (x1, x3, ()))
def laws_markNodeS_L2 : Nat → laws_markNodeS_K2
  | 0, _, _, _ => none
  | m + 1, x1, x2, x3 => laws_markNodeS_b2 (laws_markNodeS_L2 m) x1 x2 x3
def laws_markNodeS (x : (List tNode.D) × Int × Unit) : Option (laws_markNodeS_R) := laws_markNodeS_s (laws_markNodeS_L2 BIG) x.1 x.2.1

/-! laws.markMsgS -/
abbrev laws_markMsgS_R : Type := Int × (List tMsg.D) × Unit
abbrev laws_markMsgS_K2 : Type := Int → Int → (List tMsg.D) → Option (laws_markMsgS_R)
def laws_markMsgS_s (k2 : laws_markMsgS_K2) (a1 : List tMsg.D) (a2 : Int) : Option (laws_markMsgS_R) :=
  k2 a2 0 a1
def laws_markMsgS_b2_v22 (k2 : laws_markMsgS_K2) (v18 : Int × (List tEntry.D) × Unit) (x2 : Int) (v22 : List tMsg.D) : Option (laws_markMsgS_R) :=
  k2 (w64 (v18.1 + 1)) (w64 (x2 + 1)) v22
def laws_markMsgS_b2_v19 (k2 : laws_markMsgS_K2) (v18 : Int × (List tEntry.D) × Unit) (x2 : Int) (v19 : List tMsg.D) : Option (laws_markMsgS_R) :=
  (laws_markText (v18.1, ())).bind fun v20 =>
  (ix v19.length x2).bind fun v21 =>
  laws_markMsgS_b2_v22 k2 v18 x2 (v19.set (0 + v21) ((gd tMsg v19 (0 + v21)).1, (gd tMsg v19 (0 + v21)).2.1, (gd tMsg v19 (0 + v21)).2.2.1, (gd tMsg v19 (0 + v21)).2.2.2.1, (gd tMsg v19 (0 + v21)).2.2.2.2.1, (gd tMsg v19 (0 + v21)).2.2.2.2.2.1, (gd tMsg v19 (0 + v21)).2.2.2.2.2.2.1, (gd tMsg v19 (0 + v21)).2.2.2.2.2.2.2.1, (gd tMsg v19 (0 + v21)).2.2.2.2.2.2.2.2.1, v20.1, ()))
def laws_markMsgS_b2_v16 (k2 : laws_markMsgS_K2) (x2 : Int) (x1 : Int) (v16 : List tMsg.D) : Option (laws_markMsgS_R) :=
  (ix v16.length x2).bind fun v17 =>
  (laws_markEntryS ((gd tMsg v16 (0 + v17)).2.2.2.2.2.2.2.2.1, w64 (w64 (w64 (w64 (w64 (w64 (w64 (w64 (x1 + 1) + 1) + 1) + 1) + 1) + 1) + 1) + 1), ())).bind fun v18 =>
  laws_markMsgS_b2_v19 k2 v18 x2 (v16.set (0 + v17) ((gd tMsg v16 (0 + v17)).1, (gd tMsg v16 (0 + v17)).2.1, (gd tMsg v16 (0 + v17)).2.2.1, (gd tMsg v16 (0 + v17)).2.2.2.1, (gd tMsg v16 (0 + v17)).2.2.2.2.1, (gd tMsg v16 (0 + v17)).2.2.2.2.2.1, (gd tMsg v16 (0 + v17)).2.2.2.2.2.2.1, (gd tMsg v16 (0 + v17)).2.2.2.2.2.2.2.1, v18.2.1, (gd tMsg v16 (0 + v17)).2.2.2.2.2.2.2.2.2.1, ()))
def laws_markMsgS_b2_v14 (k2 : laws_markMsgS_K2) (x2 : Int) (x1 : Int) (v14 : List tMsg.D) : Option (laws_markMsgS_R) :=
  (ix v14.length x2).bind fun v15 =>
  laws_markMsgS_b2_v16 k2 x2 x1 (v14.set (0 + v15) ((gd tMsg v14 (0 + v15)).1, (gd tMsg v14 (0 + v15)).2.1, (gd tMsg v14 (0 + v15)).2.2.1, (gd tMsg v14 (0 + v15)).2.2.2.1, (gd tMsg v14 (0 + v15)).2.2.2.2.1, (gd tMsg v14 (0 + v15)).2.2.2.2.2.1, (gd tMsg v14 (0 + v15)).2.2.2.2.2.2.1, Int.tmod (w64 (w64 (w64 (w64 (w64 (w64 (w64 (x1 + 1) + 1) + 1) + 1) + 1) + 1) + 1)) 3 == 0, (gd tMsg v14 (0 + v15)).2.2.2.2.2.2.2.2.1, (gd tMsg v14 (0 + v15)).2.2.2.2.2.2.2.2.2.1, ()))
def laws_markMsgS_b2_v12 (k2 : laws_markMsgS_K2) (x2 : Int) (x1 : Int) (v12 : List tMsg.D) : Option (laws_markMsgS_R) :=
  (ix v12.length x2).bind fun v13 =>
  laws_markMsgS_b2_v14 k2 x2 x1 (v12.set (0 + v13) ((gd tMsg v12 (0 + v13)).1, (gd tMsg v12 (0 + v13)).2.1, (gd tMsg v12 (0 + v13)).2.2.1, (gd tMsg v12 (0 + v13)).2.2.2.1, (gd tMsg v12 (0 + v13)).2.2.2.2.1, (gd tMsg v12 (0 + v13)).2.2.2.2.2.1, w64 (w64 (w64 (w64 (w64 (w64 (x1 + 1) + 1) + 1) + 1) + 1) + 1), (gd tMsg v12 (0 + v13)).2.2.2.2.2.2.2.1, (gd tMsg v12 (0 + v13)).2.2.2.2.2.2.2.2.1, (gd tMsg v12 (0 + v13)).2.2.2.2.2.2.2.2.2.1, ()))
def laws_markMsgS_b2_v10 (k2 : laws_markMsgS_K2) (x2 : Int) (x1 : Int) (v10 : List tMsg.D) : Option (laws_markMsgS_R) :=
  (ix v10.length x2).bind fun v11 =>
  laws_markMsgS_b2_v12 k2 x2 x1 (v10.set (0 + v11) ((gd tMsg v10 (0 + v11)).1, (gd tMsg v10 (0 + v11)).2.1, (gd tMsg v10 (0 + v11)).2.2.1, (gd tMsg v10 (0 + v11)).2.2.2.1, (gd tMsg v10 (0 + v11)).2.2.2.2.1, w64 (w64 (w64 (w64 (w64 (x1 + 1) + 1) + 1) + 1) + 1), (gd tMsg v10 (0 + v11)).2.2.2.2.2.2.1, (gd tMsg v10 (0 + v11)).2.2.2.2.2.2.2.1, (gd tMsg v10 (0 + v11)).2.2.2.2.2.2.2.2.1, (gd tMsg v10 (0 + v11)).2.2.2.2.2.2.2.2.2.1, ()))
def laws_markMsgS_b2_v8 (k2 : laws_markMsgS_K2) (x2 : Int) (x1 : Int) (v8 : List tMsg.D) : Option (laws_markMsgS_R) :=
  (ix v8.length x2).bind fun v9 =>
  laws_markMsgS_b2_v10 k2 x2 x1 (v8.set (0 + v9) ((gd tMsg v8 (0 + v9)).1, (gd tMsg v8 (0 + v9)).2.1, (gd tMsg v8 (0 + v9)).2.2.1, (gd tMsg v8 (0 + v9)).2.2.2.1, w64 (w64 (w64 (w64 (x1 + 1) + 1) + 1) + 1), (gd tMsg v8 (0 + v9)).2.2.2.2.2.1, (gd tMsg v8 (0 + v9)).2.2.2.2.2.2.1, (gd tMsg v8 (0 + v9)).2.2.2.2.2.2.2.1, (gd tMsg v8 (0 + v9)).2.2.2.2.2.2.2.2.1, (gd tMsg v8 (0 + v9)).2.2.2.2.2.2.2.2.2.1, ()))
def laws_markMsgS_b2_v6 (k2 : laws_markMsgS_K2) (x2 : Int) (x1 : Int) (v6 : List tMsg.D) : Option (laws_markMsgS_R) :=
  (ix v6.length x2).bind fun v7 =>
  laws_markMsgS_b2_v8 k2 x2 x1 (v6.set (0 + v7) ((gd tMsg v6 (0 + v7)).1, (gd tMsg v6 (0 + v7)).2.1, (gd tMsg v6 (0 + v7)).2.2.1, w64 (w64 (w64 (x1 + 1) + 1) + 1), (gd tMsg v6 (0 + v7)).2.2.2.2.1, (gd tMsg v6 (0 + v7)).2.2.2.2.2.1, (gd tMsg v6 (0 + v7)).2.2.2.2.2.2.1, (gd tMsg v6 (0 + v7)).2.2.2.2.2.2.2.1, (gd tMsg v6 (0 + v7)).2.2.2.2.2.2.2.2.1, (gd tMsg v6 (0 + v7)).2.2.2.2.2.2.2.2.2.1, ()))
def laws_markMsgS_b2_v4 (k2 : laws_markMsgS_K2) (x2 : Int) (x1 : Int) (v4 : List tMsg.D) : Option (laws_markMsgS_R) :=
  (ix v4.length x2).bind fun v5 =>
  laws_markMsgS_b2_v6 k2 x2 x1 (v4.set (0 + v5) ((gd tMsg v4 (0 + v5)).1, (gd tMsg v4 (0 + v5)).2.1, w64 (w64 (x1 + 1) + 1), (gd tMsg v4 (0 + v5)).2.2.2.1, (gd tMsg v4 (0 + v5)).2.2.2.2.1, (gd tMsg v4 (0 + v5)).2.2.2.2.2.1, (gd tMsg v4 (0 + v5)).2.2.2.2.2.2.1, (gd tMsg v4 (0 + v5)).2.2.2.2.2.2.2.1, (gd tMsg v4 (0 + v5)).2.2.2.2.2.2.2.2.1, (gd tMsg v4 (0 + v5)).2.2.2.2.2.2.2.2.2.1, ()))
def laws_markMsgS_b2_v2 (k2 : laws_markMsgS_K2) (x2 : Int) (x1 : Int) (v2 : List tMsg.D) : Option (laws_markMsgS_R) :=
  (ix v2.length x2).bind fun v3 =>
  laws_markMsgS_b2_v4 k2 x2 x1 (v2.set (0 + v3) ((gd tMsg v2 (0 + v3)).1, w64 (x1 + 1), (gd tMsg v2 (0 + v3)).2.2.1, (gd tMsg v2 (0 + v3)).2.2.2.1, (gd tMsg v2 (0 + v3)).2.2.2.2.1, (gd tMsg v2 (0 + v3)).2.2.2.2.2.1, (gd tMsg v2 (0 + v3)).2.2.2.2.2.2.1, (gd tMsg v2 (0 + v3)).2.2.2.2.2.2.2.1, (gd tMsg v2 (0 + v3)).2.2.2.2.2.2.2.2.1, (gd tMsg v2 (0 + v3)).2.2.2.2.2.2.2.2.2.1, ()))
def laws_markMsgS_b2 (k2 : laws_markMsgS_K2) (x1 : Int) (x2 : Int) (x3 : List tMsg.D) : Option (laws_markMsgS_R) :=
  cond (decide (x2 < (x3.length : Int)))
    ((ix x3.length x2).bind fun v1 =>
    laws_markMsgS_b2_v2 k2 x2 x1 (x3.set (0 + v1) (x1, (gd tMsg x3 (0 + v1)).2.1, (gd tMsg x3 (0 + v1)).2.2.1, (gd tMsg x3 (0 + v1)).2.2.2.1, (gd tMsg x3 (0 + v1)).2.2.2.2.1, (gd tMsg x3 (0 + v1)).2.2.2.2.2.1, (gd tMsg x3 (0 + v1)).2.2.2.2.2.2.1, (gd tMsg x3 (0 + v1)).2.2.2.2.2.2.2.1, (gd tMsg x3 (0 + v1)).2.2.2.2.2.2.2.2.1, (gd tMsg x3 (0 + v1)).2.2.2.2.2.2.2.2.2.1, ())))
    (some (x1, x3, ()))
def laws_markMsgS_L2 : Nat → laws_markMsgS_K2
  | 0, _, _, _ => none
  | m + 1, x1, x2, x3 => laws_markMsgS_b2 (laws_markMsgS_L2 m) x1 x2 x3
def laws_markMsgS (x : (List tMsg.D) × Int × Unit) : Option (laws_markMsgS_R) := laws_markMsgS_s (laws_markMsgS_L2 BIG) x.1 x.2.1

/-! laws.markMailS -/
abbrev laws_markMailS_R : Type := Int × (List tMail.D) × Unit
abbrev laws_markMailS_K2 : Type := Int → Int → (List tMail.D) → Option (laws_markMailS_R)
def laws_markMailS_s (k2 : laws_markMailS_K2) (a1 : List tMail.D) (a2 : Int) : Option (laws_markMailS_R) :=
  k2 a2 0 a1
def laws_markMailS_b2_v13 (k2 : laws_markMailS_K2) (x1 : Int) (x2 : Int) (v13 : List tMail.D) : Option (laws_markMailS_R) :=
  k2 (w64 (w64 (w64 (w64 (w64 (w64 (x1 + 1) + 1) + 1) + 1) + 1) + 1)) (w64 (x2 + 1)) v13
def laws_markMailS_b2_v10 (k2 : laws_markMailS_K2) (x1 : Int) (x2 : Int) (v10 : List tMail.D) : Option (laws_markMailS_R) :=
  (laws_markText (w64 (w64 (w64 (w64 (w64 (x1 + 1) + 1) + 1) + 1) + 1), ())).bind fun v11 =>
  (ix v10.length x2).bind fun v12 =>
  laws_markMailS_b2_v13 k2 x1 x2 (v10.set (0 + v12) ((gd tMail v10 (0 + v12)).1, (gd tMail v10 (0 + v12)).2.1, (gd tMail v10 (0 + v12)).2.2.1, (gd tMail v10 (0 + v12)).2.2.2.1, (gd tMail v10 (0 + v12)).2.2.2.2.1, v11.1, ()))
def laws_markMailS_b2_v8 (k2 : laws_markMailS_K2) (x2 : Int) (x1 : Int) (v8 : List tMail.D) : Option (laws_markMailS_R) :=
  (ix v8.length x2).bind fun v9 =>
  laws_markMailS_b2_v10 k2 x1 x2 (v8.set (0 + v9) ((gd tMail v8 (0 + v9)).1, (gd tMail v8 (0 + v9)).2.1, (gd tMail v8 (0 + v9)).2.2.1, (gd tMail v8 (0 + v9)).2.2.2.1, w64 (w64 (w64 (w64 (x1 + 1) + 1) + 1) + 1), (gd tMail v8 (0 + v9)).2.2.2.2.2.1, ()))
def laws_markMailS_b2_v6 (k2 : laws_markMailS_K2) (x2 : Int) (x1 : Int) (v6 : List tMail.D) : Option (laws_markMailS_R) :=
  (ix v6.length x2).bind fun v7 =>
  laws_markMailS_b2_v8 k2 x2 x1 (v6.set (0 + v7) ((gd tMail v6 (0 + v7)).1, (gd tMail v6 (0 + v7)).2.1, (gd tMail v6 (0 + v7)).2.2.1, Int.tmod (w64 (w64 (w64 (x1 + 1) + 1) + 1)) 3 == 0, (gd tMail v6 (0 + v7)).2.2.2.2.1, (gd tMail v6 (0 + v7)).2.2.2.2.2.1, ()))
def laws_markMailS_b2_v4 (k2 : laws_markMailS_K2) (x2 : Int) (x1 : Int) (v4 : List tMail.D) : Option (laws_markMailS_R) :=
  (ix v4.length x2).bind fun v5 =>
  laws_markMailS_b2_v6 k2 x2 x1 (v4.set (0 + v5) ((gd tMail v4 (0 + v5)).1, (gd tMail v4 (0 + v5)).2.1, w64 (w64 (x1 + 1) + 1), (gd tMail v4 (0 + v5)).2.2.2.1, (gd tMail v4 (0 + v5)).2.2.2.2.1, (gd tMail v4 (0 + v5)).2.2.2.2.2.1, ()))
def laws_markMailS_b2_v2 (k2 : laws_markMailS_K2) (x2 : Int) (x1 : Int) (v2 : List tMail.D) : Option (laws_markMailS_R) :=
  (ix v2.length x2).bind fun v3 =>
  laws_markMailS_b2_v4 k2 x2 x1 (v2.set (0 + v3) ((gd tMail v2 (0 + v3)).1, w64 (x1 + 1), (gd tMail v2 (0 + v3)).2.2.1, (gd tMail v2 (0 + v3)).2.2.2.1, (gd tMail v2 (0 + v3)).2.2.2.2.1, (gd tMail v2 (0 + v3)).2.2.2.2.2.1, ()))
def laws_markMailS_b2 (k2 : laws_markMailS_K2) (x1 : Int) (x2 : Int) (x3 : List tMail.D) : Option (laws_markMailS_R) :=
  cond (decide (x2 < (x3.length : Int)))
    ((ix x3.length x2).bind fun v1 =>
    laws_markMailS_b2_v2 k2 x2 x1 (x3.set (0 + v1) (x1, (gd tMail x3 (0 + v1)).2.1, (gd tMail x3 (0 + v1)).2.2.1, (gd tMail x3 (0 + v1)).2.2.2.1, (gd tMail x3 (0 + v1)).2.2.2.2.1, (gd tMail x3 (0 + v1)).2.2.2.2.2.1, ())))
    (some (x1, x3, ()))
def laws_markMailS_L2 : Nat → laws_markMailS_K2
  | 0, _, _, _ => none
  | m + 1, x1, x2, x3 => laws_markMailS_b2 (laws_markMailS_L2 m) x1 x2 x3
def laws_markMailS (x : (List tMail.D) × Int × Unit) : Option (laws_markMailS_R) := laws_markMailS_s (laws_markMailS_L2 BIG) x.1 x.2.1

/-! laws.markCrew -/
def laws_markCrew_s (a1 : tCrew.D) (a2 : Int) : Option (Int × tCrew.D × Unit) :=
  (laws_markNodeS (a1.1, a2, ())).bind fun v1 =>
  (laws_markMsgS (a1.2.1, v1.1, ())).bind fun v2 =>
  (laws_markMailS (a1.2.2.1, v2.1, ())).bind fun v3 =>
  (laws_markEntryS (a1.2.2.2.1, v3.1, ())).bind fun v4 =>
  some (v4.1, (v1.2.1, v2.2.1, v3.2.1, v4.2.1, a1.2.2.2.2.1, ()), ())
def laws_markCrew (x : tCrew.D × Int × Unit) : Option (Int × tCrew.D × Unit) := laws_markCrew_s x.1 x.2.1

/-! laws.markClientS -/
abbrev laws_markClientS_R : Type := Int × (List tClient.D) × Unit
abbrev laws_markClientS_K2 : Type := Int → Int → (List tClient.D) → Option (laws_markClientS_R)
def laws_markClientS_s (k2 : laws_markClientS_K2) (a1 : List tClient.D) (a2 : Int) : Option (laws_markClientS_R) :=
  k2 a2 0 a1
def laws_markClientS_b2_v25 (k2 : laws_markClientS_K2) (x1 : Int) (x2 : Int) (v25 : List tClient.D) : Option (laws_markClientS_R) :=
  k2 (w64 (w64 (w64 (w64 (w64 (w64 (w64 (w64 (w64 (w64 (w64 (x1 + 1) + 1) + 1) + 1) + 1) + 1) + 1) + 1) + 1) + 1) + 1)) (w64 (x2 + 1)) v25
def laws_markClientS_b2_v23 (k2 : laws_markClientS_K2) (x2 : Int) (x1 : Int) (v23 : List tClient.D) : Option (laws_markClientS_R) :=
  (ix v23.length x2).bind fun v24 =>
  laws_markClientS_b2_v25 k2 x1 x2 (v23.set (0 + v24) ((gd tClient v23 (0 + v24)).1, (gd tClient v23 (0 + v24)).2.1, (gd tClient v23 (0 + v24)).2.2.1, (gd tClient v23 (0 + v24)).2.2.2.1, (gd tClient v23 (0 + v24)).2.2.2.2.1, w64 (w64 (w64 (w64 (w64 (w64 (w64 (w64 (w64 (w64 (x1 + 1) + 1) + 1) + 1) + 1) + 1) + 1) + 1) + 1) + 1), ()))
def laws_markClientS_b2_v20 (k2 : laws_markClientS_K2) (x1 : Int) (x2 : Int) (v20 : List tClient.D) : Option (laws_markClientS_R) :=
  (laws_markText (w64 (w64 (w64 (w64 (w64 (w64 (w64 (w64 (w64 (x1 + 1) + 1) + 1) + 1) + 1) + 1) + 1) + 1) + 1), ())).bind fun v21 =>
  (ix v20.length x2).bind fun v22 =>
  laws_markClientS_b2_v23 k2 x2 x1 (v20.set (0 + v22) ((gd tClient v20 (0 + v22)).1, (gd tClient v20 (0 + v22)).2.1, (gd tClient v20 (0 + v22)).2.2.1, (gd tClient v20 (0 + v22)).2.2.2.1, (((gd tClient v20 (0 + v22)).2.2.2.2.1).1, ((gd tClient v20 (0 + v22)).2.2.2.2.1).2.1, ((gd tClient v20 (0 + v22)).2.2.2.2.1).2.2.1, ((gd tClient v20 (0 + v22)).2.2.2.2.1).2.2.2.1, ((gd tClient v20 (0 + v22)).2.2.2.2.1).2.2.2.2.1, v21.1, ()), (gd tClient v20 (0 + v22)).2.2.2.2.2.1, ()))
def laws_markClientS_b2_v18 (k2 : laws_markClientS_K2) (x2 : Int) (x1 : Int) (v18 : List tClient.D) : Option (laws_markClientS_R) :=
  (ix v18.length x2).bind fun v19 =>
  laws_markClientS_b2_v20 k2 x1 x2 (v18.set (0 + v19) ((gd tClient v18 (0 + v19)).1, (gd tClient v18 (0 + v19)).2.1, (gd tClient v18 (0 + v19)).2.2.1, (gd tClient v18 (0 + v19)).2.2.2.1, (((gd tClient v18 (0 + v19)).2.2.2.2.1).1, ((gd tClient v18 (0 + v19)).2.2.2.2.1).2.1, ((gd tClient v18 (0 + v19)).2.2.2.2.1).2.2.1, ((gd tClient v18 (0 + v19)).2.2.2.2.1).2.2.2.1, w64 (w64 (w64 (w64 (w64 (w64 (w64 (w64 (x1 + 1) + 1) + 1) + 1) + 1) + 1) + 1) + 1), ((gd tClient v18 (0 + v19)).2.2.2.2.1).2.2.2.2.2.1, ()), (gd tClient v18 (0 + v19)).2.2.2.2.2.1, ()))
def laws_markClientS_b2_v16 (k2 : laws_markClientS_K2) (x2 : Int) (x1 : Int) (v16 : List tClient.D) : Option (laws_markClientS_R) :=
  (ix v16.length x2).bind fun v17 =>
  laws_markClientS_b2_v18 k2 x2 x1 (v16.set (0 + v17) ((gd tClient v16 (0 + v17)).1, (gd tClient v16 (0 + v17)).2.1, (gd tClient v16 (0 + v17)).2.2.1, (gd tClient v16 (0 + v17)).2.2.2.1, (((gd tClient v16 (0 + v17)).2.2.2.2.1).1, ((gd tClient v16 (0 + v17)).2.2.2.2.1).2.1, ((gd tClient v16 (0 + v17)).2.2.2.2.1).2.2.1, w64 (w64 (w64 (w64 (w64 (w64 (w64 (x1 + 1) + 1) + 1) + 1) + 1) + 1) + 1), ((gd tClient v16 (0 + v17)).2.2.2.2.1).2.2.2.2.1, ((gd tClient v16 (0 + v17)).2.2.2.2.1).2.2.2.2.2.1, ()), (gd tClient v16 (0 + v17)).2.2.2.2.2.1, ()))
def laws_markClientS_b2_v13 (k2 : laws_markClientS_K2) (x1 : Int) (x2 : Int) (v13 : List tClient.D) : Option (laws_markClientS_R) :=
  (laws_markText (w64 (w64 (w64 (w64 (w64 (w64 (x1 + 1) + 1) + 1) + 1) + 1) + 1), ())).bind fun v14 =>
  (ix v13.length x2).bind fun v15 =>
  laws_markClientS_b2_v16 k2 x2 x1 (v13.set (0 + v15) ((gd tClient v13 (0 + v15)).1, (gd tClient v13 (0 + v15)).2.1, (gd tClient v13 (0 + v15)).2.2.1, (gd tClient v13 (0 + v15)).2.2.2.1, (((gd tClient v13 (0 + v15)).2.2.2.2.1).1, ((gd tClient v13 (0 + v15)).2.2.2.2.1).2.1, v14.1, ((gd tClient v13 (0 + v15)).2.2.2.2.1).2.2.2.1, ((gd tClient v13 (0 + v15)).2.2.2.2.1).2.2.2.2.1, ((gd tClient v13 (0 + v15)).2.2.2.2.1).2.2.2.2.2.1, ()), (gd tClient v13 (0 + v15)).2.2.2.2.2.1, ()))
def laws_markClientS_b2_v10 (k2 : laws_markClientS_K2) (x1 : Int) (x2 : Int) (v10 : List tClient.D) : Option (laws_markClientS_R) :=
  (laws_markText (w64 (w64 (w64 (w64 (w64 (x1 + 1) + 1) + 1) + 1) + 1), ())).bind fun v11 =>
  (ix v10.length x2).bind fun v12 =>
  laws_markClientS_b2_v13 k2 x1 x2 (v10.set (0 + v12) ((gd tClient v10 (0 + v12)).1, (gd tClient v10 (0 + v12)).2.1, (gd tClient v10 (0 + v12)).2.2.1, (gd tClient v10 (0 + v12)).2.2.2.1, (((gd tClient v10 (0 + v12)).2.2.2.2.1).1, v11.1, ((gd tClient v10 (0 + v12)).2.2.2.2.1).2.2.1, ((gd tClient v10 (0 + v12)).2.2.2.2.1).2.2.2.1, ((gd tClient v10 (0 + v12)).2.2.2.2.1).2.2.2.2.1, ((gd tClient v10 (0 + v12)).2.2.2.2.1).2.2.2.2.2.1, ()), (gd tClient v10 (0 + v12)).2.2.2.2.2.1, ()))
def laws_markClientS_b2_v8 (k2 : laws_markClientS_K2) (x2 : Int) (x1 : Int) (v8 : List tClient.D) : Option (laws_markClientS_R) :=
  (ix v8.length x2).bind fun v9 =>
  laws_markClientS_b2_v10 k2 x1 x2 (v8.set (0 + v9) ((gd tClient v8 (0 + v9)).1, (gd tClient v8 (0 + v9)).2.1, (gd tClient v8 (0 + v9)).2.2.1, (gd tClient v8 (0 + v9)).2.2.2.1, (w64 (w64 (w64 (w64 (x1 + 1) + 1) + 1) + 1), ((gd tClient v8 (0 + v9)).2.2.2.2.1).2.1, ((gd tClient v8 (0 + v9)).2.2.2.2.1).2.2.1, ((gd tClient v8 (0 + v9)).2.2.2.2.1).2.2.2.1, ((gd tClient v8 (0 + v9)).2.2.2.2.1).2.2.2.2.1, ((gd tClient v8 (0 + v9)).2.2.2.2.1).2.2.2.2.2.1, ()), (gd tClient v8 (0 + v9)).2.2.2.2.2.1, ()))
def laws_markClientS_b2_v6 (k2 : laws_markClientS_K2) (x2 : Int) (x1 : Int) (v6 : List tClient.D) : Option (laws_markClientS_R) :=
  (ix v6.length x2).bind fun v7 =>
  laws_markClientS_b2_v8 k2 x2 x1 (v6.set (0 + v7) ((gd tClient v6 (0 + v7)).1, (gd tClient v6 (0 + v7)).2.1, (gd tClient v6 (0 + v7)).2.2.1, Int.tmod (w64 (w64 (w64 (x1 + 1) + 1) + 1)) 3 == 0, (gd tClient v6 (0 + v7)).2.2.2.2.1, (gd tClient v6 (0 + v7)).2.2.2.2.2.1, ()))
def laws_markClientS_b2_v4 (k2 : laws_markClientS_K2) (x2 : Int) (x1 : Int) (v4 : List tClient.D) : Option (laws_markClientS_R) :=
  (ix v4.length x2).bind fun v5 =>
  laws_markClientS_b2_v6 k2 x2 x1 (v4.set (0 + v5) ((gd tClient v4 (0 + v5)).1, (gd tClient v4 (0 + v5)).2.1, w64 (w64 (x1 + 1) + 1), (gd tClient v4 (0 + v5)).2.2.2.1, (gd tClient v4 (0 + v5)).2.2.2.2.1, (gd tClient v4 (0 + v5)).2.2.2.2.2.1, ()))
def laws_markClientS_b2_v2 (k2 : laws_markClientS_K2) (x2 : Int) (x1 : Int) (v2 : List tClient.D) : Option (laws_markClientS_R) :=
  (ix v2.length x2).bind fun v3 =>
  laws_markClientS_b2_v4 k2 x2 x1 (v2.set (0 + v3) ((gd tClient v2 (0 + v3)).1, w64 (x1 + 1), (gd tClient v2 (0 + v3)).2.2.1, (gd tClient v2 (0 + v3)).2.2.2.1, (gd tClient v2 (0 + v3)).2.2.2.2.1, (gd tClient v2 (0 + v3)).2.2.2.2.2.1, ()))
def laws_markClientS_b2 (k2 : laws_markClientS_K2) (x1 : Int) (x2 : Int) (x3 : List tClient.D) : Option (laws_markClientS_R) :=
  cond (decide (x2 < (x3.length : Int)))
    ((ix x3.length x2).bind fun v1 =>
    laws_markClientS_b2_v2 k2 x2 x1 (x3.set (0 + v1) (x1, (gd tClient x3 (0 + v1)).2.1, (gd tClient x3 (0 + v1)).2.2.1, (gd tClient x3 (0 + v1)).2.2.2.1, (gd tClient x3 (0 + v1)).2.2.2.2.1, (gd tClient x3 (0 + v1)).2.2.2.2.2.1, ())))
    (some (x1, x3, ()))
def laws_markClientS_L2 : Nat → laws_markClientS_K2
  | 0, _, _, _ => none
  | m + 1, x1, x2, x3 => laws_markClientS_b2 (laws_markClientS_L2 m) x1 x2 x3
def laws_markClientS (x : (List tClient.D) × Int × Unit) : Option (laws_markClientS_R) := laws_markClientS_s (laws_markClientS_L2 BIG) x.1 x.2.1

/-! laws.markDoneS -/
abbrev laws_markDoneS_R : Type := Int × (List tDone.D) × Unit
abbrev laws_markDoneS_K2 : Type := Int → Int → (List tDone.D) → Option (laws_markDoneS_R)
def laws_markDoneS_s (k2 : laws_markDoneS_K2) (a1 : List tDone.D) (a2 : Int) : Option (laws_markDoneS_R) :=
  k2 a2 0 a1
def laws_markDoneS_b2_v32 (k2 : laws_markDoneS_K2) (x1 : Int) (x2 : Int) (v32 : List tDone.D) : Option (laws_markDoneS_R) :=
  k2 (w64 (w64 (w64 (w64 (w64 (w64 (w64 (w64 (w64 (w64 (w64 (w64 (w64 (w64 (x1 + 1) + 1) + 1) + 1) + 1) + 1) + 1) + 1) + 1) + 1) + 1) + 1) + 1) + 1)) (w64 (x2 + 1)) v32
def laws_markDoneS_b2_v30 (k2 : laws_markDoneS_K2) (x2 : Int) (x1 : Int) (v30 : List tDone.D) : Option (laws_markDoneS_R) :=
  (ix v30.length x2).bind fun v31 =>
  laws_markDoneS_b2_v32 k2 x1 x2 (v30.set (0 + v31) ((gd tDone v30 (0 + v31)).1, (gd tDone v30 (0 + v31)).2.1, (gd tDone v30 (0 + v31)).2.2.1, (gd tDone v30 (0 + v31)).2.2.2.1, (gd tDone v30 (0 + v31)).2.2.2.2.1, (gd tDone v30 (0 + v31)).2.2.2.2.2.1, (gd tDone v30 (0 + v31)).2.2.2.2.2.2.1, w64 (w64 (w64 (w64 (w64 (w64 (w64 (w64 (w64 (w64 (w64 (w64 (w64 (x1 + 1) + 1) + 1) + 1) + 1) + 1) + 1) + 1) + 1) + 1) + 1) + 1) + 1), ()))
def laws_markDoneS_b2_v28 (k2 : laws_markDoneS_K2) (x2 : Int) (x1 : Int) (v28 : List tDone.D) : Option (laws_markDoneS_R) :=
  (ix v28.length x2).bind fun v29 =>
  laws_markDoneS_b2_v30 k2 x2 x1 (v28.set (0 + v29) ((gd tDone v28 (0 + v29)).1, (gd tDone v28 (0 + v29)).2.1, (gd tDone v28 (0 + v29)).2.2.1, (gd tDone v28 (0 + v29)).2.2.2.1, (gd tDone v28 (0 + v29)).2.2.2.2.1, (gd tDone v28 (0 + v29)).2.2.2.2.2.1, w64 (w64 (w64 (w64 (w64 (w64 (w64 (w64 (w64 (w64 (w64 (w64 (x1 + 1) + 1) + 1) + 1) + 1) + 1) + 1) + 1) + 1) + 1) + 1) + 1), (gd tDone v28 (0 + v29)).2.2.2.2.2.2.2.1, ()))
def laws_markDoneS_b2_v25 (k2 : laws_markDoneS_K2) (x1 : Int) (x2 : Int) (v25 : List tDone.D) : Option (laws_markDoneS_R) :=
  (laws_markText (w64 (w64 (w64 (w64 (w64 (w64 (w64 (w64 (w64 (w64 (w64 (x1 + 1) + 1) + 1) + 1) + 1) + 1) + 1) + 1) + 1) + 1) + 1), ())).bind fun v26 =>
  (ix v25.length x2).bind fun v27 =>
  laws_markDoneS_b2_v28 k2 x2 x1 (v25.set (0 + v27) ((gd tDone v25 (0 + v27)).1, (gd tDone v25 (0 + v27)).2.1, (gd tDone v25 (0 + v27)).2.2.1, (gd tDone v25 (0 + v27)).2.2.2.1, (gd tDone v25 (0 + v27)).2.2.2.2.1, (((gd tDone v25 (0 + v27)).2.2.2.2.2.1).1, v26.1, ()), (gd tDone v25 (0 + v27)).2.2.2.2.2.2.1, (gd tDone v25 (0 + v27)).2.2.2.2.2.2.2.1, ()))
def laws_markDoneS_b2_v23 (k2 : laws_markDoneS_K2) (x2 : Int) (x1 : Int) (v23 : List tDone.D) : Option (laws_markDoneS_R) :=
  (ix v23.length x2).bind fun v24 =>
  laws_markDoneS_b2_v25 k2 x1 x2 (v23.set (0 + v24) ((gd tDone v23 (0 + v24)).1, (gd tDone v23 (0 + v24)).2.1, (gd tDone v23 (0 + v24)).2.2.1, (gd tDone v23 (0 + v24)).2.2.2.1, (gd tDone v23 (0 + v24)).2.2.2.2.1, (w64 (w64 (w64 (w64 (w64 (w64 (w64 (w64 (w64 (w64 (x1 + 1) + 1) + 1) + 1) + 1) + 1) + 1) + 1) + 1) + 1), ((gd tDone v23 (0 + v24)).2.2.2.2.2.1).2.1, ()), (gd tDone v23 (0 + v24)).2.2.2.2.2.2.1, (gd tDone v23 (0 + v24)).2.2.2.2.2.2.2.1, ()))
def laws_markDoneS_b2_v21 (k2 : laws_markDoneS_K2) (x2 : Int) (x1 : Int) (v21 : List tDone.D) : Option (laws_markDoneS_R) :=
  (ix v21.length x2).bind fun v22 =>
  laws_markDoneS_b2_v23 k2 x2 x1 (v21.set (0 + v22) ((gd tDone v21 (0 + v22)).1, (gd tDone v21 (0 + v22)).2.1, (gd tDone v21 (0 + v22)).2.2.1, (gd tDone v21 (0 + v22)).2.2.2.1, w64 (w64 (w64 (w64 (w64 (w64 (w64 (w64 (w64 (x1 + 1) + 1) + 1) + 1) + 1) + 1) + 1) + 1) + 1), (gd tDone v21 (0 + v22)).2.2.2.2.2.1, (gd tDone v21 (0 + v22)).2.2.2.2.2.2.1, (gd tDone v21 (0 + v22)).2.2.2.2.2.2.2.1, ()))
def laws_markDoneS_b2_v18 (k2 : laws_markDoneS_K2) (x1 : Int) (x2 : Int) (v18 : List tDone.D) : Option (laws_markDoneS_R) :=
  (laws_markText (w64 (w64 (w64 (w64 (w64 (w64 (w64 (w64 (x1 + 1) + 1) + 1) + 1) + 1) + 1) + 1) + 1), ())).bind fun v19 =>
  (ix v18.length x2).bind fun v20 =>
  laws_markDoneS_b2_v21 k2 x2 x1 (v18.set (0 + v20) ((gd tDone v18 (0 + v20)).1, (gd tDone v18 (0 + v20)).2.1, (gd tDone v18 (0 + v20)).2.2.1, (((gd tDone v18 (0 + v20)).2.2.2.1).1, ((gd tDone v18 (0 + v20)).2.2.2.1).2.1, ((gd tDone v18 (0 + v20)).2.2.2.1).2.2.1, ((gd tDone v18 (0 + v20)).2.2.2.1).2.2.2.1, ((gd tDone v18 (0 + v20)).2.2.2.1).2.2.2.2.1, v19.1, ()), (gd tDone v18 (0 + v20)).2.2.2.2.1, (gd tDone v18 (0 + v20)).2.2.2.2.2.1, (gd tDone v18 (0 + v20)).2.2.2.2.2.2.1, (gd tDone v18 (0 + v20)).2.2.2.2.2.2.2.1, ()))
def laws_markDoneS_b2_v16 (k2 : laws_markDoneS_K2) (x2 : Int) (x1 : Int) (v16 : List tDone.D) : Option (laws_markDoneS_R) :=
  (ix v16.length x2).bind fun v17 =>
  laws_markDoneS_b2_v18 k2 x1 x2 (v16.set (0 + v17) ((gd tDone v16 (0 + v17)).1, (gd tDone v16 (0 + v17)).2.1, (gd tDone v16 (0 + v17)).2.2.1, (((gd tDone v16 (0 + v17)).2.2.2.1).1, ((gd tDone v16 (0 + v17)).2.2.2.1).2.1, ((gd tDone v16 (0 + v17)).2.2.2.1).2.2.1, ((gd tDone v16 (0 + v17)).2.2.2.1).2.2.2.1, w64 (w64 (w64 (w64 (w64 (w64 (w64 (x1 + 1) + 1) + 1) + 1) + 1) + 1) + 1), ((gd tDone v16 (0 + v17)).2.2.2.1).2.2.2.2.2.1, ()), (gd tDone v16 (0 + v17)).2.2.2.2.1, (gd tDone v16 (0 + v17)).2.2.2.2.2.1, (gd tDone v16 (0 + v17)).2.2.2.2.2.2.1, (gd tDone v16 (0 + v17)).2.2.2.2.2.2.2.1, ()))
def laws_markDoneS_b2_v14 (k2 : laws_markDoneS_K2) (x2 : Int) (x1 : Int) (v14 : List tDone.D) : Option (laws_markDoneS_R) :=
  (ix v14.length x2).bind fun v15 =>
  laws_markDoneS_b2_v16 k2 x2 x1 (v14.set (0 + v15) ((gd tDone v14 (0 + v15)).1, (gd tDone v14 (0 + v15)).2.1, (gd tDone v14 (0 + v15)).2.2.1, (((gd tDone v14 (0 + v15)).2.2.2.1).1, ((gd tDone v14 (0 + v15)).2.2.2.1).2.1, ((gd tDone v14 (0 + v15)).2.2.2.1).2.2.1, w64 (w64 (w64 (w64 (w64 (w64 (x1 + 1) + 1) + 1) + 1) + 1) + 1), ((gd tDone v14 (0 + v15)).2.2.2.1).2.2.2.2.1, ((gd tDone v14 (0 + v15)).2.2.2.1).2.2.2.2.2.1, ()), (gd tDone v14 (0 + v15)).2.2.2.2.1, (gd tDone v14 (0 + v15)).2.2.2.2.2.1, (gd tDone v14 (0 + v15)).2.2.2.2.2.2.1, (gd tDone v14 (0 + v15)).2.2.2.2.2.2.2.1, ()))
def laws_markDoneS_b2_v11 (k2 : laws_markDoneS_K2) (x1 : Int) (x2 : Int) (v11 : List tDone.D) : Option (laws_markDoneS_R) :=
  (laws_markText (w64 (w64 (w64 (w64 (w64 (x1 + 1) + 1) + 1) + 1) + 1), ())).bind fun v12 =>
  (ix v11.length x2).bind fun v13 =>
  laws_markDoneS_b2_v14 k2 x2 x1 (v11.set (0 + v13) ((gd tDone v11 (0 + v13)).1, (gd tDone v11 (0 + v13)).2.1, (gd tDone v11 (0 + v13)).2.2.1, (((gd tDone v11 (0 + v13)).2.2.2.1).1, ((gd tDone v11 (0 + v13)).2.2.2.1).2.1, v12.1, ((gd tDone v11 (0 + v13)).2.2.2.1).2.2.2.1, ((gd tDone v11 (0 + v13)).2.2.2.1).2.2.2.2.1, ((gd tDone v11 (0 + v13)).2.2.2.1).2.2.2.2.2.1, ()), (gd tDone v11 (0 + v13)).2.2.2.2.1, (gd tDone v11 (0 + v13)).2.2.2.2.2.1, (gd tDone v11 (0 + v13)).2.2.2.2.2.2.1, (gd tDone v11 (0 + v13)).2.2.2.2.2.2.2.1, ()))
def laws_markDoneS_b2_v8 (k2 : laws_markDoneS_K2) (x1 : Int) (x2 : Int) (v8 : List tDone.D) : Option (laws_markDoneS_R) :=
  (laws_markText (w64 (w64 (w64 (w64 (x1 + 1) + 1) + 1) + 1), ())).bind fun v9 =>
  (ix v8.length x2).bind fun v10 =>
  laws_markDoneS_b2_v11 k2 x1 x2 (v8.set (0 + v10) ((gd tDone v8 (0 + v10)).1, (gd tDone v8 (0 + v10)).2.1, (gd tDone v8 (0 + v10)).2.2.1, (((gd tDone v8 (0 + v10)).2.2.2.1).1, v9.1, ((gd tDone v8 (0 + v10)).2.2.2.1).2.2.1, ((gd tDone v8 (0 + v10)).2.2.2.1).2.2.2.1, ((gd tDone v8 (0 + v10)).2.2.2.1).2.2.2.2.1, ((gd tDone v8 (0 + v10)).2.2.2.1).2.2.2.2.2.1, ()), (gd tDone v8 (0 + v10)).2.2.2.2.1, (gd tDone v8 (0 + v10)).2.2.2.2.2.1, (gd tDone v8 (0 + v10)).2.2.2.2.2.2.1, (gd tDone v8 (0 + v10)).2.2.2.2.2.2.2.1, ()))
def laws_markDoneS_b2_v6 (k2 : laws_markDoneS_K2) (x2 : Int) (x1 : Int) (v6 : List tDone.D) : Option (laws_markDoneS_R) :=
  (ix v6.length x2).bind fun v7 =>
  laws_markDoneS_b2_v8 k2 x1 x2 (v6.set (0 + v7) ((gd tDone v6 (0 + v7)).1, (gd tDone v6 (0 + v7)).2.1, (gd tDone v6 (0 + v7)).2.2.1, (w64 (w64 (w64 (x1 + 1) + 1) + 1), ((gd tDone v6 (0 + v7)).2.2.2.1).2.1, ((gd tDone v6 (0 + v7)).2.2.2.1).2.2.1, ((gd tDone v6 (0 + v7)).2.2.2.1).2.2.2.1, ((gd tDone v6 (0 + v7)).2.2.2.1).2.2.2.2.1, ((gd tDone v6 (0 + v7)).2.2.2.1).2.2.2.2.2.1, ()), (gd tDone v6 (0 + v7)).2.2.2.2.1, (gd tDone v6 (0 + v7)).2.2.2.2.2.1, (gd tDone v6 (0 + v7)).2.2.2.2.2.2.1, (gd tDone v6 (0 + v7)).2.2.2.2.2.2.2.1, ()))
def laws_markDoneS_b2_v4 (k2 : laws_markDoneS_K2) (x2 : Int) (x1 : Int) (v4 : List tDone.D) : Option (laws_markDoneS_R) :=
  (ix v4.length x2).bind fun v5 =>
  laws_markDoneS_b2_v6 k2 x2 x1 (v4.set (0 + v5) ((gd tDone v4 (0 + v5)).1, (gd tDone v4 (0 + v5)).2.1, w64 (w64 (x1 + 1) + 1), (gd tDone v4 (0 + v5)).2.2.2.1, (gd tDone v4 (0 + v5)).2.2.2.2.1, (gd tDone v4 (0 + v5)).2.2.2.2.2.1, (gd tDone v4 (0 + v5)).2.2.2.2.2.2.1, (gd tDone v4 (0 + v5)).2.2.2.2.2.2.2.1, ()))
def laws_markDoneS_b2_v2 (k2 : laws_markDoneS_K2) (x2 : Int) (x1 : Int) (v2 : List tDone.D) : Option (laws_markDoneS_R) :=
  (ix v2.length x2).bind fun v3 =>
  laws_markDoneS_b2_v4 k2 x2 x1 (v2.set (0 + v3) ((gd tDone v2 (0 + v3)).1, w64 (x1 + 1), (gd tDone v2 (0 + v3)).2.2.1, (gd tDone v2 (0 + v3)).2.2.2.1, (gd tDone v2 (0 + v3)).2.2.2.2.1, (gd tDone v2 (0 + v3)).2.2.2.2.2.1, (gd tDone v2 (0 + v3)).2.2.2.2.2.2.1, (gd tDone v2 (0 + v3)).2.2.2.2.2.2.2.1, ()))
def laws_markDoneS_b2 (k2 : laws_markDoneS_K2) (x1 : Int) (x2 : Int) (x3 : List tDone.D) : Option (laws_markDoneS_R) :=
  cond (decide (x2 < (x3.length : Int)))
    ((ix x3.length x2).bind fun v1 =>
    laws_markDoneS_b2_v2 k2 x2 x1 (x3.set (0 + v1) (x1, (gd tDone x3 (0 + v1)).2.1, (gd tDone x3 (0 + v1)).2.2.1, (gd tDone x3 (0 + v1)).2.2.2.1, (gd tDone x3 (0 + v1)).2.2.2.2.1, (gd tDone x3 (0 + v1)).2.2.2.2.2.1, (gd tDone x3 (0 + v1)).2.2.2.2.2.2.1, (gd tDone x3 (0 + v1)).2.2.2.2.2.2.2.1, ())))
    (some (x1, x3, ()))
def laws_markDoneS_L2 : Nat → laws_markDoneS_K2
  | 0, _, _, _ => none
  | m + 1, x1, x2, x3 => laws_markDoneS_b2 (laws_markDoneS_L2 m) x1 x2 x3
def laws_markDoneS (x : (List tDone.D) × Int × Unit) : Option (laws_markDoneS_R) := laws_markDoneS_s (laws_markDoneS_L2 BIG) x.1 x.2.1

/-! laws.markWorld -/
abbrev laws_markWorld_R : Type := Int × tWorld.D × Unit
def laws_markWorld_s (a1 : tWorld.D) (a2 : Int) : Option (laws_markWorld_R) :=
  (laws_markCrew (a1.1, a2, ())).bind fun v1 =>
  (laws_markClientS (a1.2.1, v1.1, ())).bind fun v2 =>
  (laws_markDoneS (a1.2.2.1, v2.1, ())).bind fun v3 =>
  (laws_markIntS (a1.2.2.2.1, v3.1, ())).bind fun v4 =>
  some (v4.1, ((v1.2.1.1, v1.2.1.2.1, v1.2.1.2.2.1, v1.2.1.2.2.2.1, a1.1.2.2.2.2.1, ()), v2.2.1, v3.2.1, v4.2.1, ()), ())
def laws_markWorld (x : tWorld.D × Int × Unit) : Option (laws_markWorld_R) := laws_markWorld_s x.1 x.2.1

/-! laws.heldIntS -/
abbrev laws_heldIntS_K2 : Type := (List Int) → Int → Int → Option (Int × Unit)
def laws_heldIntS_s (k2 : laws_heldIntS_K2) (a1 : List Int) (a2 : Int) : Option (Int × Unit) :=
  k2 a1 a2 0
def laws_heldIntS_b2 (k2 : laws_heldIntS_K2) (x1 : List Int) (x2 : Int) (x3 : Int) : Option (Int × Unit) :=
  cond (decide (x3 < (x1.length : Int)))
    ((ix x1.length x3).bind fun v1 =>
    cond (gd (Ty.int .i64) x1 v1 != x2)
      (some ((-1), ()))
      (k2 x1 (w64 (x2 + 1)) (w64 (x3 + 1))))
    (some (x2, ()))
def laws_heldIntS_L2 : Nat → laws_heldIntS_K2
  | 0, _, _, _ => none
  | m + 1, x1, x2, x3 => laws_heldIntS_b2 (laws_heldIntS_L2 m) x1 x2 x3
def laws_heldIntS (x : (List Int) × Int × Unit) : Option (Int × Unit) := laws_heldIntS_s (laws_heldIntS_L2 BIG) x.1 x.2.1

/-! laws.heldEntryS -/
abbrev laws_heldEntryS_K2 : Type := (List tEntry.D) → Int → Int → Option (Int × Unit)
def laws_heldEntryS_s (k2 : laws_heldEntryS_K2) (a1 : List tEntry.D) (a2 : Int) : Option (Int × Unit) :=
  k2 a1 a2 0
def laws_heldEntryS_b2 (k2 : laws_heldEntryS_K2) (x1 : List tEntry.D) (x2 : Int) (x3 : Int) : Option (Int × Unit) :=
  cond (decide (x3 < (x1.length : Int)))
    ((ix x1.length x3).bind fun v1 =>
    cond ((gd tEntry x1 v1).1 != x2)
      (some ((-1), ()))
      ((ix x1.length x3).bind fun v2 =>
      (laws_markText (w64 (x2 + 1), ())).bind fun v3 =>
      cond (!(eqS ((gd tEntry x1 v2).2.1) v3.1))
        (some ((-1), ()))
        (k2 x1 (w64 (w64 (x2 + 1) + 1)) (w64 (x3 + 1)))))
    (some (x2, ()))
def laws_heldEntryS_L2 : Nat → laws_heldEntryS_K2
  | 0, _, _, _ => none
  | m + 1, x1, x2, x3 => laws_heldEntryS_b2 (laws_heldEntryS_L2 m) x1 x2 x3
def laws_heldEntryS (x : (List tEntry.D) × Int × Unit) : Option (Int × Unit) := laws_heldEntryS_s (laws_heldEntryS_L2 BIG) x.1 x.2.1

/-! laws.heldDirentS -/
abbrev laws_heldDirentS_K2 : Type := (List tDirent.D) → Int → Int → Option (Int × Unit)
def laws_heldDirentS_s (k2 : laws_heldDirentS_K2) (a1 : List tDirent.D) (a2 : Int) : Option (Int × Unit) :=
  k2 a1 a2 0
def laws_heldDirentS_b2 (k2 : laws_heldDirentS_K2) (x1 : List tDirent.D) (x2 : Int) (x3 : Int) : Option (Int × Unit) :=
  cond (decide (x3 < (x1.length : Int)))
    ((ix x1.length x3).bind fun v1 =>
    (laws_markText (x2, ())).bind fun v2 =>
    cond (!(eqS ((gd tDirent x1 v1).1) v2.1))
      (some ((-1), ()))
      ((ix x1.length x3).bind fun v3 =>
      cond ((gd tDirent x1 v3).2.1 != w64 (x2 + 1))
        (some ((-1), ()))
        (k2 x1 (w64 (w64 (x2 + 1) + 1)) (w64 (x3 + 1)))))
    (some (x2, ()))
def laws_heldDirentS_L2 : Nat → laws_heldDirentS_K2
  | 0, _, _, _ => none
  | m + 1, x1, x2, x3 => laws_heldDirentS_b2 (laws_heldDirentS_L2 m) x1 x2 x3
def laws_heldDirentS (x : (List tDirent.D) × Int × Unit) : Option (Int × Unit) := laws_heldDirentS_s (laws_heldDirentS_L2 BIG) x.1 x.2.1

/-! laws.heldInodeS -/
abbrev laws_heldInodeS_K2 : Type := (List tInode.D) → Int → Int → Option (Int × Unit)
def laws_heldInodeS_s (k2 : laws_heldInodeS_K2) (a1 : List tInode.D) (a2 : Int) : Option (Int × Unit) :=
  k2 a1 a2 0
def laws_heldInodeS_b2 (k2 : laws_heldInodeS_K2) (x1 : List tInode.D) (x2 : Int) (x3 : Int) : Option (Int × Unit) :=
  cond (decide (x3 < (x1.length : Int)))
    ((ix x1.length x3).bind fun v1 =>
    cond ((gd tInode x1 v1).1 != x2)
      (some ((-1), ()))
      ((ix x1.length x3).bind fun v2 =>
      cond ((gd tInode x1 v2).2.1 != w64 (x2 + 1))
        (some ((-1), ()))
        ((ix x1.length x3).bind fun v3 =>
        cond ((gd tInode x1 v3).2.2.1 != w64 (w64 (x2 + 1) + 1))
          (some ((-1), ()))
          ((ix x1.length x3).bind fun v4 =>
          cond ((gd tInode x1 v4).2.2.2.1 != w64 (w64 (w64 (x2 + 1) + 1) + 1))
            (some ((-1), ()))
            ((ix x1.length x3).bind fun v5 =>
            cond ((gd tInode x1 v5).2.2.2.2.1 != w64 (w64 (w64 (w64 (x2 + 1) + 1) + 1) + 1))
              (some ((-1), ()))
              ((ix x1.length x3).bind fun v6 =>
              (laws_markText (w64 (w64 (w64 (w64 (w64 (x2 + 1) + 1) + 1) + 1) + 1), ())).bind fun v7 =>
              cond (!(eqS ((gd tInode x1 v6).2.2.2.2.2.1) v7.1))
                (some ((-1), ()))
                ((ix x1.length x3).bind fun v8 =>
                (laws_heldDirentS ((gd tInode x1 v8).2.2.2.2.2.2.1, w64 (w64 (w64 (w64 (w64 (w64 (x2 + 1) + 1) + 1) + 1) + 1) + 1), ())).bind fun v9 =>
                cond (decide (v9.1 < 0))
                  (some ((-1), ()))
                  ((ix x1.length x3).bind fun v10 =>
                  cond ((gd tInode x1 v10).2.2.2.2.2.2.2.1 != v9.1)
                    (some ((-1), ()))
                    ((ix x1.length x3).bind fun v11 =>
                    cond ((gd tInode x1 v11).2.2.2.2.2.2.2.2.1 != w64 (v9.1 + 1))
                      (some ((-1), ()))
                      (k2 x1 (w64 (w64 (v9.1 + 1) + 1)) (w64 (x3 + 1))))))))))))
    (some (x2, ()))
def laws_heldInodeS_L2 : Nat → laws_heldInodeS_K2
  | 0, _, _, _ => none
  | m + 1, x1, x2, x3 => laws_heldInodeS_b2 (laws_heldInodeS_L2 m) x1 x2 x3
def laws_heldInodeS (x : (List tInode.D) × Int × Unit) : Option (Int × Unit) := laws_heldInodeS_s (laws_heldInodeS_L2 BIG) x.1 x.2.1

/-! laws.heldNoteS -/
abbrev laws_heldNoteS_K2 : Type := (List tNote.D) → Int → Int → Option (Int × Unit)
def laws_heldNoteS_s (k2 : laws_heldNoteS_K2) (a1 : List tNote.D) (a2 : Int) : Option (Int × Unit) :=
  k2 a1 a2 0
def laws_heldNoteS_b2 (k2 : laws_heldNoteS_K2) (x1 : List tNote.D) (x2 : Int) (x3 : Int) : Option (Int × Unit) :=
  cond (decide (x3 < (x1.length : Int)))
    ((ix x1.length x3).bind fun v1 =>
    cond ((gd tNote x1 v1).1 != x2)
      (some ((-1), ()))
      ((ix x1.length x3).bind fun v2 =>
      cond ((gd tNote x1 v2).2.1 != w64 (x2 + 1))
        (some ((-1), ()))
        ((ix x1.length x3).bind fun v3 =>
        cond ((gd tNote x1 v3).2.2.1 != w64 (w64 (x2 + 1) + 1))
          (some ((-1), ()))
          ((ix x1.length x3).bind fun v4 =>
          cond ((gd tNote x1 v4).2.2.2.1 != w64 (w64 (w64 (x2 + 1) + 1) + 1))
            (some ((-1), ()))
            ((ix x1.length x3).bind fun v5 =>
            cond ((gd tNote x1 v5).2.2.2.2.1 != w64 (w64 (w64 (w64 (x2 + 1) + 1) + 1) + 1))
              (some ((-1), ()))
              (k2 x1 (w64 (w64 (w64 (w64 (w64 (x2 + 1) + 1) + 1) + 1) + 1)) (w64 (x3 + 1))))))))
    (some (x2, ()))
def laws_heldNoteS_L2 : Nat → laws_heldNoteS_K2
  | 0, _, _, _ => none
  | m + 1, x1, x2, x3 => laws_heldNoteS_b2 (laws_heldNoteS_L2 m) x1 x2 x3
def laws_heldNoteS (x : (List tNote.D) × Int × Unit) : Option (Int × Unit) := laws_heldNoteS_s (laws_heldNoteS_L2 BIG) x.1 x.2.1

/-! laws.heldSessionS -/
abbrev laws_heldSessionS_K2 : Type := (List tSession.D) → Int → Int → Option (Int × Unit)
def laws_heldSessionS_s (k2 : laws_heldSessionS_K2) (a1 : List tSession.D) (a2 : Int) : Option (Int × Unit) :=
  k2 a1 a2 0
def laws_heldSessionS_b2 (k2 : laws_heldSessionS_K2) (x1 : List tSession.D) (x2 : Int) (x3 : Int) : Option (Int × Unit) :=
  cond (decide (x3 < (x1.length : Int)))
    ((ix x1.length x3).bind fun v1 =>
    cond ((gd tSession x1 v1).1 != x2)
      (some ((-1), ()))
      ((ix x1.length x3).bind fun v2 =>
      cond ((gd tSession x1 v2).2.1 != w64 (x2 + 1))
        (some ((-1), ()))
        ((ix x1.length x3).bind fun v3 =>
        cond ((gd tSession x1 v3).2.2.1 != w64 (w64 (x2 + 1) + 1))
          (some ((-1), ()))
          ((ix x1.length x3).bind fun v4 =>
          cond (((gd tSession x1 v4).2.2.2.1).1 != w64 (w64 (w64 (x2 + 1) + 1) + 1))
            (some ((-1), ()))
            ((ix x1.length x3).bind fun v5 =>
            (laws_markText (w64 (w64 (w64 (w64 (x2 + 1) + 1) + 1) + 1), ())).bind fun v6 =>
            cond (!(eqS (((gd tSession x1 v5).2.2.2.1).2.1) v6.1))
              (some ((-1), ()))
              (k2 x1 (w64 (w64 (w64 (w64 (w64 (x2 + 1) + 1) + 1) + 1) + 1)) (w64 (x3 + 1))))))))
    (some (x2, ()))
def laws_heldSessionS_L2 : Nat → laws_heldSessionS_K2
  | 0, _, _, _ => none
  | m + 1, x1, x2, x3 => laws_heldSessionS_b2 (laws_heldSessionS_L2 m) x1 x2 x3
def laws_heldSessionS (x : (List tSession.D) × Int × Unit) : Option (Int × Unit) := laws_heldSessionS_s (laws_heldSessionS_L2 BIG) x.1 x.2.1

/-! laws.heldTenantS -/
abbrev laws_heldTenantS_K2 : Type := (List tTenant.D) → Int → Int → Option (Int × Unit)
def laws_heldTenantS_s (k2 : laws_heldTenantS_K2) (a1 : List tTenant.D) (a2 : Int) : Option (Int × Unit) :=
  k2 a1 a2 0
def laws_heldTenantS_b2 (k2 : laws_heldTenantS_K2) (x1 : List tTenant.D) (x2 : Int) (x3 : Int) : Option (Int × Unit) :=
  cond (decide (x3 < (x1.length : Int)))
    ((ix x1.length x3).bind fun v1 =>
    cond (((gd tTenant x1 v1).1).1 != x2)
      (some ((-1), ()))
      ((ix x1.length x3).bind fun v2 =>
      (laws_heldInodeS (((gd tTenant x1 v2).1).2.1, w64 (x2 + 1), ())).bind fun v3 =>
      cond (decide (v3.1 < 0))
        (some ((-1), ()))
        ((ix x1.length x3).bind fun v4 =>
        cond ((gd tTenant x1 v4).2.1 != v3.1)
          (some ((-1), ()))
          ((ix x1.length x3).bind fun v5 =>
          (laws_heldNoteS ((gd tTenant x1 v5).2.2.1, w64 (v3.1 + 1), ())).bind fun v6 =>
          cond (decide (v6.1 < 0))
            (some ((-1), ()))
            ((ix x1.length x3).bind fun v7 =>
            (laws_heldSessionS ((gd tTenant x1 v7).2.2.2.1, v6.1, ())).bind fun v8 =>
            cond (decide (v8.1 < 0))
              (some ((-1), ()))
              (k2 x1 v8.1 (w64 (x3 + 1))))))))
    (some (x2, ()))
def laws_heldTenantS_L2 : Nat → laws_heldTenantS_K2
  | 0, _, _, _ => none
  | m + 1, x1, x2, x3 => laws_heldTenantS_b2 (laws_heldTenantS_L2 m) x1 x2 x3
def laws_heldTenantS (x : (List tTenant.D) × Int × Unit) : Option (Int × Unit) := laws_heldTenantS_s (laws_heldTenantS_L2 BIG) x.1 x.2.1

/-! laws.heldRecS -/
abbrev laws_heldRecS_K2 : Type := (List tRec.D) → Int → Int → Option (Int × Unit)
def laws_heldRecS_s (k2 : laws_heldRecS_K2) (a1 : List tRec.D) (a2 : Int) : Option (Int × Unit) :=
  k2 a1 a2 0
def laws_heldRecS_b2 (k2 : laws_heldRecS_K2) (x1 : List tRec.D) (x2 : Int) (x3 : Int) : Option (Int × Unit) :=
  cond (decide (x3 < (x1.length : Int)))
    ((ix x1.length x3).bind fun v1 =>
    cond ((gd tRec x1 v1).1 != x2)
      (some ((-1), ()))
      ((ix x1.length x3).bind fun v2 =>
      cond ((gd tRec x1 v2).2.1 != w64 (x2 + 1))
        (some ((-1), ()))
        ((ix x1.length x3).bind fun v3 =>
        cond ((gd tRec x1 v3).2.2.1 != w64 (w64 (x2 + 1) + 1))
          (some ((-1), ()))
          ((ix x1.length x3).bind fun v4 =>
          cond ((gd tRec x1 v4).2.2.2.1 != w64 (w64 (w64 (x2 + 1) + 1) + 1))
            (some ((-1), ()))
            ((ix x1.length x3).bind fun v5 =>
            (laws_markText (w64 (w64 (w64 (w64 (x2 + 1) + 1) + 1) + 1), ())).bind fun v6 =>
            cond (!(eqS ((gd tRec x1 v5).2.2.2.2.1) v6.1))
              (some ((-1), ()))
              (k2 x1 (w64 (w64 (w64 (w64 (w64 (x2 + 1) + 1) + 1) + 1) + 1)) (w64 (x3 + 1))))))))
    (some (x2, ()))
def laws_heldRecS_L2 : Nat → laws_heldRecS_K2
  | 0, _, _, _ => none
  | m + 1, x1, x2, x3 => laws_heldRecS_b2 (laws_heldRecS_L2 m) x1 x2 x3
def laws_heldRecS (x : (List tRec.D) × Int × Unit) : Option (Int × Unit) := laws_heldRecS_s (laws_heldRecS_L2 BIG) x.1 x.2.1

/-! laws.heldSlotS -/
abbrev laws_heldSlotS_K2 : Type := (List tSlot.D) → Int → Int → Option (Int × Unit)
def laws_heldSlotS_s (k2 : laws_heldSlotS_K2) (a1 : List tSlot.D) (a2 : Int) : Option (Int × Unit) :=
  k2 a1 a2 0
def laws_heldSlotS_b2 (k2 : laws_heldSlotS_K2) (x1 : List tSlot.D) (x2 : Int) (x3 : Int) : Option (Int × Unit) :=
  cond (decide (x3 < (x1.length : Int)))
    ((ix x1.length x3).bind fun v1 =>
    cond ((gd tSlot x1 v1).1 != x2)
      (some ((-1), ()))
      ((ix x1.length x3).bind fun v2 =>
      cond ((gd tSlot x1 v2).2.1 != w64 (x2 + 1))
        (some ((-1), ()))
        ((ix x1.length x3).bind fun v3 =>
        cond ((gd tSlot x1 v3).2.2.1 != w64 (w64 (x2 + 1) + 1))
          (some ((-1), ()))
          ((ix x1.length x3).bind fun v4 =>
          cond (((gd tSlot x1 v4).2.2.2.1).1 != w64 (w64 (w64 (x2 + 1) + 1) + 1))
            (some ((-1), ()))
            ((ix x1.length x3).bind fun v5 =>
            (laws_markText (w64 (w64 (w64 (w64 (x2 + 1) + 1) + 1) + 1), ())).bind fun v6 =>
            cond (!(eqS (((gd tSlot x1 v5).2.2.2.1).2.1) v6.1))
              (some ((-1), ()))
              ((ix x1.length x3).bind fun v7 =>
              (laws_markText (w64 (w64 (w64 (w64 (w64 (x2 + 1) + 1) + 1) + 1) + 1), ())).bind fun v8 =>
              cond (!(eqS (((gd tSlot x1 v7).2.2.2.1).2.2.1) v8.1))
                (some ((-1), ()))
                ((ix x1.length x3).bind fun v9 =>
                cond (((gd tSlot x1 v9).2.2.2.1).2.2.2.1 != w64 (w64 (w64 (w64 (w64 (w64 (x2 + 1) + 1) + 1) + 1) + 1) + 1))
                  (some ((-1), ()))
                  ((ix x1.length x3).bind fun v10 =>
                  cond (((gd tSlot x1 v10).2.2.2.1).2.2.2.2.1 != w64 (w64 (w64 (w64 (w64 (w64 (w64 (x2 + 1) + 1) + 1) + 1) + 1) + 1) + 1))
                    (some ((-1), ()))
                    ((ix x1.length x3).bind fun v11 =>
                    (laws_markText (w64 (w64 (w64 (w64 (w64 (w64 (w64 (w64 (x2 + 1) + 1) + 1) + 1) + 1) + 1) + 1) + 1), ())).bind fun v12 =>
                    cond (!(eqS (((gd tSlot x1 v11).2.2.2.1).2.2.2.2.2.1) v12.1))
                      (some ((-1), ()))
                      (k2 x1 (w64 (w64 (w64 (w64 (w64 (w64 (w64 (w64 (w64 (x2 + 1) + 1) + 1) + 1) + 1) + 1) + 1) + 1) + 1)) (w64 (x3 + 1))))))))))))
    (some (x2, ()))
def laws_heldSlotS_L2 : Nat → laws_heldSlotS_K2
  | 0, _, _, _ => none
  | m + 1, x1, x2, x3 => laws_heldSlotS_b2 (laws_heldSlotS_L2 m) x1 x2 x3
def laws_heldSlotS (x : (List tSlot.D) × Int × Unit) : Option (Int × Unit) := laws_heldSlotS_s (laws_heldSlotS_L2 BIG) x.1 x.2.1

/-! laws.heldNodeS -/
abbrev laws_heldNodeS_K2 : Type := (List tNode.D) → Int → Int → Option (Int × Unit)
def laws_heldNodeS_s (k2 : laws_heldNodeS_K2) (a1 : List tNode.D) (a2 : Int) : Option (Int × Unit) :=
  k2 a1 a2 0
def laws_heldNodeS_b2 (k2 : laws_heldNodeS_K2) (x1 : List tNode.D) (x2 : Int) (x3 : Int) : Option (Int × Unit) :=
  cond (decide (x3 < (x1.length : Int)))
    ((ix x1.length x3).bind fun v1 =>
    cond ((gd tNode x1 v1).1 != x2)
      (some ((-1), ()))
      ((ix x1.length x3).bind fun v2 =>
      cond ((gd tNode x1 v2).2.1 != w64 (x2 + 1))
        (some ((-1), ()))
        ((ix x1.length x3).bind fun v3 =>
        cond (!(((gd tNode x1 v3).2.2.1) == (Int.tmod (w64 (w64 (x2 + 1) + 1)) 3 == 0)))
          (some ((-1), ()))
          ((ix x1.length x3).bind fun v4 =>
          cond (((gd tNode x1 v4).2.2.2.1).1 != w64 (w64 (w64 (x2 + 1) + 1) + 1))
            (some ((-1), ()))
            ((ix x1.length x3).bind fun v5 =>
            cond (((gd tNode x1 v5).2.2.2.1).2.1 != w64 (w64 (w64 (w64 (x2 + 1) + 1) + 1) + 1))
              (some ((-1), ()))
              ((ix x1.length x3).bind fun v6 =>
              cond (((gd tNode x1 v6).2.2.2.1).2.2.1 != w64 (w64 (w64 (w64 (w64 (x2 + 1) + 1) + 1) + 1) + 1))
                (some ((-1), ()))
                ((ix x1.length x3).bind fun v7 =>
                cond (((gd tNode x1 v7).2.2.2.1).2.2.2.1 != w64 (w64 (w64 (w64 (w64 (w64 (x2 + 1) + 1) + 1) + 1) + 1) + 1))
                  (some ((-1), ()))
                  ((ix x1.length x3).bind fun v8 =>
                  cond (((gd tNode x1 v8).2.2.2.1).2.2.2.2.1 != w64 (w64 (w64 (w64 (w64 (w64 (w64 (x2 + 1) + 1) + 1) + 1) + 1) + 1) + 1))
                    (some ((-1), ()))
                    ((ix x1.length x3).bind fun v9 =>
                    cond (((gd tNode x1 v9).2.2.2.1).2.2.2.2.2.1 != w64 (w64 (w64 (w64 (w64 (w64 (w64 (w64 (x2 + 1) + 1) + 1) + 1) + 1) + 1) + 1) + 1))
                      (some ((-1), ()))
                      ((ix x1.length x3).bind fun v10 =>
                      cond (((gd tNode x1 v10).2.2.2.1).2.2.2.2.2.2.1 != w64 (w64 (w64 (w64 (w64 (w64 (w64 (w64 (w64 (x2 + 1) + 1) + 1) + 1) + 1) + 1) + 1) + 1) + 1))
                        (some ((-1), ()))
                        ((ix x1.length x3).bind fun v11 =>
                        cond (((gd tNode x1 v11).2.2.2.1).2.2.2.2.2.2.2.1 != w64 (w64 (w64 (w64 (w64 (w64 (w64 (w64 (w64 (w64 (x2 + 1) + 1) + 1) + 1) + 1) + 1) + 1) + 1) + 1) + 1))
                          (some ((-1), ()))
                          ((ix x1.length x3).bind fun v12 =>
                          (laws_heldEntryS (((gd tNode x1 v12).2.2.2.1).2.2.2.2.2.2.2.2.1, w64 (w64 (w64 (w64 (w64 (w64 (w64 (w64 (w64 (w64 (w64 (x2 + 1) + 1) + 1) + 1) + 1) + 1) + 1) + 1) + 1) + 1) + 1), ())).bind fun v13 =>
                          cond (decide (v13.1 < 0))
                            (some ((-1), ()))
                            ((ix x1.length x3).bind fun v14 =>
                            cond (((gd tNode x1 v14).2.2.2.1).2.2.2.2.2.2.2.2.2.1 != v13.1)
                              (some ((-1), ()))
                              ((ix x1.length x3).bind fun v15 =>
                              (laws_heldIntS (((gd tNode x1 v15).2.2.2.1).2.2.2.2.2.2.2.2.2.2.1, w64 (v13.1 + 1), ())).bind fun v16 =>
                              cond (decide (v16.1 < 0))
                                (some ((-1), ()))
                                ((ix x1.length x3).bind fun v17 =>
                                (laws_heldIntS (((gd tNode x1 v17).2.2.2.1).2.2.2.2.2.2.2.2.2.2.2.1, v16.1, ())).bind fun v18 =>
                                cond (decide (v18.1 < 0))
                                  (some ((-1), ()))
                                  ((ix x1.length x3).bind fun v19 =>
                                  (laws_heldIntS (((gd tNode x1 v19).2.2.2.1).2.2.2.2.2.2.2.2.2.2.2.2.1, v18.1, ())).bind fun v20 =>
                                  cond (decide (v20.1 < 0))
                                    (some ((-1), ()))
                                    ((ix x1.length x3).bind fun v21 =>
                                    (laws_heldTenantS ((gd tNode x1 v21).2.2.2.2.1, v20.1, ())).bind fun v22 =>
                                    cond (decide (v22.1 < 0))
                                      (some ((-1), ()))
                                      ((ix x1.length x3).bind fun v23 =>
                                      cond (((gd tNode x1 v23).2.2.2.2.2.1).1 != v22.1)
                                        (some ((-1), ()))
                                        ((ix x1.length x3).bind fun v24 =>
                                        cond (((gd tNode x1 v24).2.2.2.2.2.1).2.1 != w64 (v22.1 + 1))
                                          (some ((-1), ()))
                                          ((ix x1.length x3).bind fun v25 =>
                                          (laws_markText (w64 (w64 (v22.1 + 1) + 1), ())).bind fun v26 =>
                                          cond (!(eqS (((gd tNode x1 v25).2.2.2.2.2.1).2.2.1) v26.1))
                                            (some ((-1), ()))
                                            ((ix x1.length x3).bind fun v27 =>
                                            cond ((((gd tNode x1 v27).2.2.2.2.2.2.1).1).1 != w64 (w64 (w64 (v22.1 + 1) + 1) + 1))
                                              (some ((-1), ()))
                                              ((ix x1.length x3).bind fun v28 =>
                                              cond ((((gd tNode x1 v28).2.2.2.2.2.2.1).1).2.1 != w64 (w64 (w64 (w64 (v22.1 + 1) + 1) + 1) + 1))
                                                (some ((-1), ()))
                                                ((ix x1.length x3).bind fun v29 =>
                                                cond (((((gd tNode x1 v29).2.2.2.2.2.2.1).1).2.2.1).1 != w64 (w64 (w64 (w64 (w64 (v22.1 + 1) + 1) + 1) + 1) + 1))
                                                  (some ((-1), ()))
                                                  ((ix x1.length x3).bind fun v30 =>
                                                  cond (((((gd tNode x1 v30).2.2.2.2.2.2.1).1).2.2.1).2.1 != w64 (w64 (w64 (w64 (w64 (w64 (v22.1 + 1) + 1) + 1) + 1) + 1) + 1))
                                                    (some ((-1), ()))
                                                    ((ix x1.length x3).bind fun v31 =>
                                                    (laws_markText (w64 (w64 (w64 (w64 (w64 (w64 (w64 (v22.1 + 1) + 1) + 1) + 1) + 1) + 1) + 1), ())).bind fun v32 =>
                                                    cond (!(eqS (((((gd tNode x1 v31).2.2.2.2.2.2.1).1).2.2.1).2.2.1) v32.1))
                                                      (some ((-1), ()))
                                                      ((ix x1.length x3).bind fun v33 =>
                                                      (laws_heldEntryS ((((gd tNode x1 v33).2.2.2.2.2.2.1).1).2.2.2.1, w64 (w64 (w64 (w64 (w64 (w64 (w64 (w64 (v22.1 + 1) + 1) + 1) + 1) + 1) + 1) + 1) + 1), ())).bind fun v34 =>
                                                      cond (decide (v34.1 < 0))
                                                        (some ((-1), ()))
                                                        ((ix x1.length x3).bind fun v35 =>
                                                        (laws_heldRecS (((gd tNode x1 v35).2.2.2.2.2.2.1).2.1, v34.1, ())).bind fun v36 =>
                                                        cond (decide (v36.1 < 0))
                                                          (some ((-1), ()))
                                                          ((ix x1.length x3).bind fun v37 =>
                                                          (laws_heldSlotS ((gd tNode x1 v37).2.2.2.2.2.2.2.1, v36.1, ())).bind fun v38 =>
                                                          cond (decide (v38.1 < 0))
                                                            (some ((-1), ()))
                                                            ((ix x1.length x3).bind fun v39 =>
                                                            cond ((gd tNode x1 v39).2.2.2.2.2.2.2.2.1 != v38.1)
                                                              (some ((-1), ()))
                                                              ((ix x1.length x3).bind fun v40 =>
                                                              cond ((gd tNode x1 v40).2.2.2.2.2.2.2.2.2.1 != w64 (v38.1 + 1))
                                                                (some ((-1), ()))
                                                                (k2 x1 (w64 (w64 (v38.1 + 1) + 1)) (w64 (x3 + 1)))))))))))))))))))))))))))))))))
    (some (x2, ()))
def laws_heldNodeS_L2 : Nat → laws_heldNodeS_K2
  | 0, _, _, _ => none
  | m + 1, x1, x2, x3 => laws_heldNodeS_b2 (laws_heldNodeS_L2 m) x1 x2 x3
def laws_heldNodeS (x : (List tNode.D) × Int × Unit) : Option (Int × Unit) := laws_heldNodeS_s (laws_heldNodeS_L2 BIG) x.1 x.2.1

/-! laws.heldMsgS -/
abbrev laws_heldMsgS_K2 : Type := (List tMsg.D) → Int → Int → Option (Int × Unit)
def laws_heldMsgS_s (k2 : laws_heldMsgS_K2) (a1 : List tMsg.D) (a2 : Int) : Option (Int × Unit) :=
  k2 a1 a2 0
def laws_heldMsgS_b2 (k2 : laws_heldMsgS_K2) (x1 : List tMsg.D) (x2 : Int) (x3 : Int) : Option (Int × Unit) :=
  cond (decide (x3 < (x1.length : Int)))
    ((ix x1.length x3).bind fun v1 =>
    cond ((gd tMsg x1 v1).1 != x2)
      (some ((-1), ()))
      ((ix x1.length x3).bind fun v2 =>
      cond ((gd tMsg x1 v2).2.1 != w64 (x2 + 1))
        (some ((-1), ()))
        ((ix x1.length x3).bind fun v3 =>
        cond ((gd tMsg x1 v3).2.2.1 != w64 (w64 (x2 + 1) + 1))
          (some ((-1), ()))
          ((ix x1.length x3).bind fun v4 =>
          cond ((gd tMsg x1 v4).2.2.2.1 != w64 (w64 (w64 (x2 + 1) + 1) + 1))
            (some ((-1), ()))
            ((ix x1.length x3).bind fun v5 =>
            cond ((gd tMsg x1 v5).2.2.2.2.1 != w64 (w64 (w64 (w64 (x2 + 1) + 1) + 1) + 1))
              (some ((-1), ()))
              ((ix x1.length x3).bind fun v6 =>
              cond ((gd tMsg x1 v6).2.2.2.2.2.1 != w64 (w64 (w64 (w64 (w64 (x2 + 1) + 1) + 1) + 1) + 1))
                (some ((-1), ()))
                ((ix x1.length x3).bind fun v7 =>
                cond ((gd tMsg x1 v7).2.2.2.2.2.2.1 != w64 (w64 (w64 (w64 (w64 (w64 (x2 + 1) + 1) + 1) + 1) + 1) + 1))
                  (some ((-1), ()))
                  ((ix x1.length x3).bind fun v8 =>
                  cond (!(((gd tMsg x1 v8).2.2.2.2.2.2.2.1) == (Int.tmod (w64 (w64 (w64 (w64 (w64 (w64 (w64 (x2 + 1) + 1) + 1) + 1) + 1) + 1) + 1)) 3 == 0)))
                    (some ((-1), ()))
                    ((ix x1.length x3).bind fun v9 =>
                    (laws_heldEntryS ((gd tMsg x1 v9).2.2.2.2.2.2.2.2.1, w64 (w64 (w64 (w64 (w64 (w64 (w64 (w64 (x2 + 1) + 1) + 1) + 1) + 1) + 1) + 1) + 1), ())).bind fun v10 =>
                    cond (decide (v10.1 < 0))
                      (some ((-1), ()))
                      ((ix x1.length x3).bind fun v11 =>
                      (laws_markText (v10.1, ())).bind fun v12 =>
                      cond (!(eqS ((gd tMsg x1 v11).2.2.2.2.2.2.2.2.2.1) v12.1))
                        (some ((-1), ()))
                        (k2 x1 (w64 (v10.1 + 1)) (w64 (x3 + 1)))))))))))))
    (some (x2, ()))
def laws_heldMsgS_L2 : Nat → laws_heldMsgS_K2
  | 0, _, _, _ => none
  | m + 1, x1, x2, x3 => laws_heldMsgS_b2 (laws_heldMsgS_L2 m) x1 x2 x3
def laws_heldMsgS (x : (List tMsg.D) × Int × Unit) : Option (Int × Unit) := laws_heldMsgS_s (laws_heldMsgS_L2 BIG) x.1 x.2.1

/-! laws.heldMailS -/
abbrev laws_heldMailS_K2 : Type := (List tMail.D) → Int → Int → Option (Int × Unit)
def laws_heldMailS_s (k2 : laws_heldMailS_K2) (a1 : List tMail.D) (a2 : Int) : Option (Int × Unit) :=
  k2 a1 a2 0
def laws_heldMailS_b2 (k2 : laws_heldMailS_K2) (x1 : List tMail.D) (x2 : Int) (x3 : Int) : Option (Int × Unit) :=
  cond (decide (x3 < (x1.length : Int)))
    ((ix x1.length x3).bind fun v1 =>
    cond ((gd tMail x1 v1).1 != x2)
      (some ((-1), ()))
      ((ix x1.length x3).bind fun v2 =>
      cond ((gd tMail x1 v2).2.1 != w64 (x2 + 1))
        (some ((-1), ()))
        ((ix x1.length x3).bind fun v3 =>
        cond ((gd tMail x1 v3).2.2.1 != w64 (w64 (x2 + 1) + 1))
          (some ((-1), ()))
          ((ix x1.length x3).bind fun v4 =>
          cond (!(((gd tMail x1 v4).2.2.2.1) == (Int.tmod (w64 (w64 (w64 (x2 + 1) + 1) + 1)) 3 == 0)))
            (some ((-1), ()))
            ((ix x1.length x3).bind fun v5 =>
            cond ((gd tMail x1 v5).2.2.2.2.1 != w64 (w64 (w64 (w64 (x2 + 1) + 1) + 1) + 1))
              (some ((-1), ()))
              ((ix x1.length x3).bind fun v6 =>
              (laws_markText (w64 (w64 (w64 (w64 (w64 (x2 + 1) + 1) + 1) + 1) + 1), ())).bind fun v7 =>
              cond (!(eqS ((gd tMail x1 v6).2.2.2.2.2.1) v7.1))
                (some ((-1), ()))
                (k2 x1 (w64 (w64 (w64 (w64 (w64 (w64 (x2 + 1) + 1) + 1) + 1) + 1) + 1)) (w64 (x3 + 1)))))))))
    (some (x2, ()))
def laws_heldMailS_L2 : Nat → laws_heldMailS_K2
  | 0, _, _, _ => none
  | m + 1, x1, x2, x3 => laws_heldMailS_b2 (laws_heldMailS_L2 m) x1 x2 x3
def laws_heldMailS (x : (List tMail.D) × Int × Unit) : Option (Int × Unit) := laws_heldMailS_s (laws_heldMailS_L2 BIG) x.1 x.2.1

/-! laws.heldCrew -/
def laws_heldCrew_s (a1 : tCrew.D) (a2 : Int) : Option (Int × Unit) :=
  (laws_heldNodeS (a1.1, a2, ())).bind fun v1 =>
  cond (decide (v1.1 < 0))
    (some ((-1), ()))
    ((laws_heldMsgS (a1.2.1, v1.1, ())).bind fun v2 =>
    cond (decide (v2.1 < 0))
      (some ((-1), ()))
      ((laws_heldMailS (a1.2.2.1, v2.1, ())).bind fun v3 =>
      cond (decide (v3.1 < 0))
        (some ((-1), ()))
        ((laws_heldEntryS (a1.2.2.2.1, v3.1, ())).bind fun v4 =>
        cond (decide (v4.1 < 0))
          (some ((-1), ()))
          (some (v4.1, ())))))
def laws_heldCrew (x : tCrew.D × Int × Unit) : Option (Int × Unit) := laws_heldCrew_s x.1 x.2.1

/-! laws.heldClientS -/
abbrev laws_heldClientS_K2 : Type := (List tClient.D) → Int → Int → Option (Int × Unit)
def laws_heldClientS_s (k2 : laws_heldClientS_K2) (a1 : List tClient.D) (a2 : Int) : Option (Int × Unit) :=
  k2 a1 a2 0
def laws_heldClientS_b2 (k2 : laws_heldClientS_K2) (x1 : List tClient.D) (x2 : Int) (x3 : Int) : Option (Int × Unit) :=
  cond (decide (x3 < (x1.length : Int)))
    ((ix x1.length x3).bind fun v1 =>
    cond ((gd tClient x1 v1).1 != x2)
      (some ((-1), ()))
      ((ix x1.length x3).bind fun v2 =>
      cond ((gd tClient x1 v2).2.1 != w64 (x2 + 1))
        (some ((-1), ()))
        ((ix x1.length x3).bind fun v3 =>
        cond ((gd tClient x1 v3).2.2.1 != w64 (w64 (x2 + 1) + 1))
          (some ((-1), ()))
          ((ix x1.length x3).bind fun v4 =>
          cond (!(((gd tClient x1 v4).2.2.2.1) == (Int.tmod (w64 (w64 (w64 (x2 + 1) + 1) + 1)) 3 == 0)))
            (some ((-1), ()))
            ((ix x1.length x3).bind fun v5 =>
            cond (((gd tClient x1 v5).2.2.2.2.1).1 != w64 (w64 (w64 (w64 (x2 + 1) + 1) + 1) + 1))
              (some ((-1), ()))
              ((ix x1.length x3).bind fun v6 =>
              (laws_markText (w64 (w64 (w64 (w64 (w64 (x2 + 1) + 1) + 1) + 1) + 1), ())).bind fun v7 =>
              cond (!(eqS (((gd tClient x1 v6).2.2.2.2.1).2.1) v7.1))
                (some ((-1), ()))
                ((ix x1.length x3).bind fun v8 =>
                (laws_markText (w64 (w64 (w64 (w64 (w64 (w64 (x2 + 1) + 1) + 1) + 1) + 1) + 1), ())).bind fun v9 =>
                cond (!(eqS (((gd tClient x1 v8).2.2.2.2.1).2.2.1) v9.1))
                  (some ((-1), ()))
                  ((ix x1.length x3).bind fun v10 =>
                  cond (((gd tClient x1 v10).2.2.2.2.1).2.2.2.1 != w64 (w64 (w64 (w64 (w64 (w64 (w64 (x2 + 1) + 1) + 1) + 1) + 1) + 1) + 1))
                    (some ((-1), ()))
                    ((ix x1.length x3).bind fun v11 =>
                    cond (((gd tClient x1 v11).2.2.2.2.1).2.2.2.2.1 != w64 (w64 (w64 (w64 (w64 (w64 (w64 (w64 (x2 + 1) + 1) + 1) + 1) + 1) + 1) + 1) + 1))
                      (some ((-1), ()))
                      ((ix x1.length x3).bind fun v12 =>
                      (laws_markText (w64 (w64 (w64 (w64 (w64 (w64 (w64 (w64 (w64 (x2 + 1) + 1) + 1) + 1) + 1) + 1) + 1) + 1) + 1), ())).bind fun v13 =>
                      cond (!(eqS (((gd tClient x1 v12).2.2.2.2.1).2.2.2.2.2.1) v13.1))
                        (some ((-1), ()))
                        ((ix x1.length x3).bind fun v14 =>
                        cond ((gd tClient x1 v14).2.2.2.2.2.1 != w64 (w64 (w64 (w64 (w64 (w64 (w64 (w64 (w64 (w64 (x2 + 1) + 1) + 1) + 1) + 1) + 1) + 1) + 1) + 1) + 1))
                          (some ((-1), ()))
                          (k2 x1 (w64 (w64 (w64 (w64 (w64 (w64 (w64 (w64 (w64 (w64 (w64 (x2 + 1) + 1) + 1) + 1) + 1) + 1) + 1) + 1) + 1) + 1) + 1)) (w64 (x3 + 1))))))))))))))
    (some (x2, ()))
def laws_heldClientS_L2 : Nat → laws_heldClientS_K2
  | 0, _, _, _ => none
  | m + 1, x1, x2, x3 => laws_heldClientS_b2 (laws_heldClientS_L2 m) x1 x2 x3
def laws_heldClientS (x : (List tClient.D) × Int × Unit) : Option (Int × Unit) := laws_heldClientS_s (laws_heldClientS_L2 BIG) x.1 x.2.1

/-! laws.heldDoneS -/
abbrev laws_heldDoneS_K2 : Type := (List tDone.D) → Int → Int → Option (Int × Unit)
def laws_heldDoneS_s (k2 : laws_heldDoneS_K2) (a1 : List tDone.D) (a2 : Int) : Option (Int × Unit) :=
  k2 a1 a2 0
def laws_heldDoneS_b2 (k2 : laws_heldDoneS_K2) (x1 : List tDone.D) (x2 : Int) (x3 : Int) : Option (Int × Unit) :=
  cond (decide (x3 < (x1.length : Int)))
    ((ix x1.length x3).bind fun v1 =>
    cond ((gd tDone x1 v1).1 != x2)
      (some ((-1), ()))
      ((ix x1.length x3).bind fun v2 =>
      cond ((gd tDone x1 v2).2.1 != w64 (x2 + 1))
        (some ((-1), ()))
        ((ix x1.length x3).bind fun v3 =>
        cond ((gd tDone x1 v3).2.2.1 != w64 (w64 (x2 + 1) + 1))
          (some ((-1), ()))
          ((ix x1.length x3).bind fun v4 =>
          cond (((gd tDone x1 v4).2.2.2.1).1 != w64 (w64 (w64 (x2 + 1) + 1) + 1))
            (some ((-1), ()))
            ((ix x1.length x3).bind fun v5 =>
            (laws_markText (w64 (w64 (w64 (w64 (x2 + 1) + 1) + 1) + 1), ())).bind fun v6 =>
            cond (!(eqS (((gd tDone x1 v5).2.2.2.1).2.1) v6.1))
              (some ((-1), ()))
              ((ix x1.length x3).bind fun v7 =>
              (laws_markText (w64 (w64 (w64 (w64 (w64 (x2 + 1) + 1) + 1) + 1) + 1), ())).bind fun v8 =>
              cond (!(eqS (((gd tDone x1 v7).2.2.2.1).2.2.1) v8.1))
                (some ((-1), ()))
                ((ix x1.length x3).bind fun v9 =>
                cond (((gd tDone x1 v9).2.2.2.1).2.2.2.1 != w64 (w64 (w64 (w64 (w64 (w64 (x2 + 1) + 1) + 1) + 1) + 1) + 1))
                  (some ((-1), ()))
                  ((ix x1.length x3).bind fun v10 =>
                  cond (((gd tDone x1 v10).2.2.2.1).2.2.2.2.1 != w64 (w64 (w64 (w64 (w64 (w64 (w64 (x2 + 1) + 1) + 1) + 1) + 1) + 1) + 1))
                    (some ((-1), ()))
                    ((ix x1.length x3).bind fun v11 =>
                    (laws_markText (w64 (w64 (w64 (w64 (w64 (w64 (w64 (w64 (x2 + 1) + 1) + 1) + 1) + 1) + 1) + 1) + 1), ())).bind fun v12 =>
                    cond (!(eqS (((gd tDone x1 v11).2.2.2.1).2.2.2.2.2.1) v12.1))
                      (some ((-1), ()))
                      ((ix x1.length x3).bind fun v13 =>
                      cond ((gd tDone x1 v13).2.2.2.2.1 != w64 (w64 (w64 (w64 (w64 (w64 (w64 (w64 (w64 (x2 + 1) + 1) + 1) + 1) + 1) + 1) + 1) + 1) + 1))
                        (some ((-1), ()))
                        ((ix x1.length x3).bind fun v14 =>
                        cond (((gd tDone x1 v14).2.2.2.2.2.1).1 != w64 (w64 (w64 (w64 (w64 (w64 (w64 (w64 (w64 (w64 (x2 + 1) + 1) + 1) + 1) + 1) + 1) + 1) + 1) + 1) + 1))
                          (some ((-1), ()))
                          ((ix x1.length x3).bind fun v15 =>
                          (laws_markText (w64 (w64 (w64 (w64 (w64 (w64 (w64 (w64 (w64 (w64 (w64 (x2 + 1) + 1) + 1) + 1) + 1) + 1) + 1) + 1) + 1) + 1) + 1), ())).bind fun v16 =>
                          cond (!(eqS (((gd tDone x1 v15).2.2.2.2.2.1).2.1) v16.1))
                            (some ((-1), ()))
                            ((ix x1.length x3).bind fun v17 =>
                            cond ((gd tDone x1 v17).2.2.2.2.2.2.1 != w64 (w64 (w64 (w64 (w64 (w64 (w64 (w64 (w64 (w64 (w64 (w64 (x2 + 1) + 1) + 1) + 1) + 1) + 1) + 1) + 1) + 1) + 1) + 1) + 1))
                              (some ((-1), ()))
                              ((ix x1.length x3).bind fun v18 =>
                              cond ((gd tDone x1 v18).2.2.2.2.2.2.2.1 != w64 (w64 (w64 (w64 (w64 (w64 (w64 (w64 (w64 (w64 (w64 (w64 (w64 (x2 + 1) + 1) + 1) + 1) + 1) + 1) + 1) + 1) + 1) + 1) + 1) + 1) + 1))
                                (some ((-1), ()))
                                (k2 x1 (w64 (w64 (w64 (w64 (w64 (w64 (w64 (w64 (w64 (w64 (w64 (w64 (w64 (w64 (x2 + 1) + 1) + 1) + 1) + 1) + 1) + 1) + 1) + 1) + 1) + 1) + 1) + 1) + 1)) (w64 (x3 + 1)))))))))))))))))
    (some (x2, ()))
def laws_heldDoneS_L2 : Nat → laws_heldDoneS_K2
  | 0, _, _, _ => none
  | m + 1, x1, x2, x3 => laws_heldDoneS_b2 (laws_heldDoneS_L2 m) x1 x2 x3
def laws_heldDoneS (x : (List tDone.D) × Int × Unit) : Option (Int × Unit) := laws_heldDoneS_s (laws_heldDoneS_L2 BIG) x.1 x.2.1

/-! laws.heldWorld -/
def laws_heldWorld_s (a1 : tWorld.D) (a2 : Int) : Option (Int × Unit) :=
  (laws_heldCrew (a1.1, a2, ())).bind fun v1 =>
  cond (decide (v1.1 < 0))
    (some ((-1), ()))
    ((laws_heldClientS (a1.2.1, v1.1, ())).bind fun v2 =>
    cond (decide (v2.1 < 0))
      (some ((-1), ()))
      ((laws_heldDoneS (a1.2.2.1, v2.1, ())).bind fun v3 =>
      cond (decide (v3.1 < 0))
        (some ((-1), ()))
        ((laws_heldIntS (a1.2.2.2.1, v3.1, ())).bind fun v4 =>
        cond (decide (v4.1 < 0))
          (some ((-1), ()))
          (some (v4.1, ())))))
def laws_heldWorld (x : tWorld.D × Int × Unit) : Option (Int × Unit) := laws_heldWorld_s x.1 x.2.1

/-! laws.FnExactNewWorld -/
def laws_FnExactNewWorld_s (a1 : tSetup.D) : Option (Bool × Unit) :=
  (laws_toSetup (a1, ())).bind fun v1 =>
  (spec_NewWorld (v1.1, ())).bind fun v2 =>
  (laws_toSetup (a1, ())).bind fun v3 =>
  (impl_NewWorld (v3.1, ())).bind fun v4 =>
  (laws_eqWorld (v4.1, v2.1, ())).bind fun v5 =>
  cond (!v5.1)
    (some (false, ()))
    (cond (!(v4.2.1 == v2.2.1))
      (some (false, ()))
      ((laws_markWorld (v4.1, 1, ())).bind fun v6 =>
      (laws_heldWorld (((v6.2.1.1.1, v6.2.1.1.2.1, v6.2.1.1.2.2.1, v6.2.1.1.2.2.2.1, v4.1.1.2.2.2.2.1, ()), v6.2.1.2.1, v6.2.1.2.2.1, v6.2.1.2.2.2.1, ()), 1, ())).bind fun v7 =>
      cond (decide (v7.1 < 0))
        (some (false, ()))
        (cond (v7.1 != v6.1)
          (some (false, ()))
          ((laws_toSetup (a1, ())).bind fun v8 =>
          (impl_NewWorld (v8.1, ())).bind fun v9 =>
          (laws_eqWorld (v9.1, v2.1, ())).bind fun v10 =>
          cond (!v10.1)
            (some (false, ()))
            (cond (!(v9.2.1 == v2.2.1))
              (some (false, ()))
              ((laws_heldWorld (((v6.2.1.1.1, v6.2.1.1.2.1, v6.2.1.1.2.2.1, v6.2.1.1.2.2.2.1, v4.1.1.2.2.2.2.1, ()), v6.2.1.2.1, v6.2.1.2.2.1, v6.2.1.2.2.2.1, ()), 1, ())).bind fun v11 =>
              cond (decide (v11.1 < 0))
                (some (false, ()))
                (cond (v11.1 != v6.1)
                  (some (false, ()))
                  (some (true, ())))))))))
def laws_FnExactNewWorld (x : tSetup.D × Unit) : Option (Bool × Unit) := laws_FnExactNewWorld_s x.1

end

end Go.LM.Nw
