/- Each function of the program keeps its contract. Printed by a program. Conditions: none. -/
import Derived.Test.YtabinjbhgdjfnaaGreatNNwA
import Derived.Test.YtabinjbhgdjfnaaGreatNLmd
import Derived.Test.YtabinjbhgdjfnaaGreatChecked
set_option linter.unusedVariables false
namespace Go.LM.Nw
open Go.Proofs
def tab : List (Nat × Ty) := [(3, .int .i64), (4, .bool), (5, .int .u8), (9, .str), (30, .sl (.int .i64)), (35, .sl tNode), (36, .sl tMsg), (37, .sl tMail), (38, .sl tEntry), (40, tCrew), (41, .sl tClient), (42, .sl tDone), (44, tWorld), (49, tSetup), (52, tSetup), (65, tCall), (67, tClient), (71, tEntry), (73, tDone), (89, tCore), (90, .sl tTenant), (92, tSnap), (94, tKept), (95, .sl tRec), (97, tStore), (98, .sl tSlot), (100, tNode), (112, tEntry), (120, tSlot), (136, tMsg), (139, tMail), (177, .sl tInode), (179, tVol), (180, .sl tNote), (181, .sl tSession), (183, tTenant), (235, .sl (.int .u8)), (244, tNote), (246, tSession), (291, tRec), (292, .sl tDirent), (294, tInode), (296, tDirent)]
def ptrs : List Nat := [15, 16, 17, 103, 118, 147, 160, 247, 276, 324, 350, 381, 382, 403]
def eqs : List Nat := [49, 52, 65, 67, 71, 73, 92, 112, 120, 139, 244, 246, 291, 296]
theorem tab_ok : tabOk Tryz.prog tab = true := by kernel_rfl
theorem ptrs_ok : ptrsOk Tryz.prog ptrs = true := by kernel_rfl
theorem eqs_ok : cmpOk Tryz.prog tab eqs = true := by kernel_rfl
theorem mix : Tryz.prog.follows .mixedOrders = true := by kernel_rfl
noncomputable def bk : Bk Tryz.prog := ⟨tab, ptrs, eqs, tab_ok, ptrs_ok, eqs_ok, mix⟩
set_option maxRecDepth 100000

/-! laws.eqIntS -/
noncomputable def e_laws_eqIntS : Entry := ⟨[vr (.sl (.int .i64)), vr (.sl (.int .i64))], [rr .bool], laws_eqIntS⟩
def laws_eqIntS_T : List (Nat × Tpl) := [(4, ⟨[(0, .cell (.lst (.int .i64) [])), (1, .cell (.lst (.int .i64) [])), (5, tk)], [], [.drop, .drop]⟩)]
def laws_eqIntS_O (k : Nat → St → Option (Bool × Unit)) : laws_eqIntS_K4 := fun x1 x2 x3 => k 4 (mkS [(0, sL (.int .i64) x1), (1, sL (.int .i64) x2), (5, sI x3)] [] [.und, .und])
theorem s_laws_eqIntS : Sound Tryz.prog 46 0 e_laws_eqIntS := fn1 bk (fn := Tryz.f46) (fns := []) trivial (by kernel_rfl) (by kernel_rfl) laws_eqIntS_T laws_eqIntS_O laws_eqIntS_b4 laws_eqIntS_L4 (fun k x => laws_eqIntS_s k x.1 x.2.1) (by kernel_rfl) (fun _ => by kernel_rfl) (fun _ => rfl) (fun _ _ => by kernel_rfl) (fun _ => by kernel_rfl)

/-! laws.eqEntry -/
noncomputable def e_laws_eqEntry : Entry := ⟨[vr tEntry, vr tEntry], [rr .bool], laws_eqEntry⟩
theorem s_laws_eqEntry : Sound Tryz.prog 161 0 e_laws_eqEntry := fn0 bk (fn := Tryz.f161) (fns := []) trivial (by kernel_rfl) (by kernel_rfl) fun _ => by kernel_rfl

/-! laws.eqEntryS -/
noncomputable def e_laws_eqEntryS : Entry := ⟨[vr (.sl tEntry), vr (.sl tEntry)], [rr .bool], laws_eqEntryS⟩
def laws_eqEntryS_T : List (Nat × Tpl) := [(4, ⟨[(0, .cell (.lst tEntry [])), (1, .cell (.lst tEntry [])), (5, tk)], [], [.drop, .drop]⟩)]
def laws_eqEntryS_O (k : Nat → St → Option (Bool × Unit)) : laws_eqEntryS_K4 := fun x1 x2 x3 => k 4 (mkS [(0, sL tEntry x1), (1, sL tEntry x2), (5, sI x3)] [] [.und, .und])
theorem s_laws_eqEntryS : Sound Tryz.prog 104 0 e_laws_eqEntryS := fn1 bk (fn := Tryz.f104) (fns := [(161, e_laws_eqEntry)]) ⟨s_laws_eqEntry, trivial⟩ (by kernel_rfl) (by kernel_rfl) laws_eqEntryS_T laws_eqEntryS_O laws_eqEntryS_b4 laws_eqEntryS_L4 (fun k x => laws_eqEntryS_s k x.1 x.2.1) (by kernel_rfl) (fun _ => by kernel_rfl) (fun _ => rfl) (fun _ _ => by kernel_rfl) (fun _ => by kernel_rfl)

/-! laws.eqCore -/
noncomputable def e_laws_eqCore : Entry := ⟨[vr tCore, vr tCore], [rr .bool], laws_eqCore⟩
theorem s_laws_eqCore : Sound Tryz.prog 218 0 e_laws_eqCore := fn0 bk (fn := Tryz.f218) (fns := [(46, e_laws_eqIntS), (104, e_laws_eqEntryS)]) ⟨s_laws_eqIntS, s_laws_eqEntryS, trivial⟩ (by kernel_rfl) (by kernel_rfl) fun _ => by kernel_rfl

/-! laws.eqDirent -/
noncomputable def e_laws_eqDirent : Entry := ⟨[vr tDirent, vr tDirent], [rr .bool], laws_eqDirent⟩
theorem s_laws_eqDirent : Sound Tryz.prog 351 0 e_laws_eqDirent := fn0 bk (fn := Tryz.f351) (fns := []) trivial (by kernel_rfl) (by kernel_rfl) fun _ => by kernel_rfl

/-! laws.eqDirentS -/
noncomputable def e_laws_eqDirentS : Entry := ⟨[vr (.sl tDirent), vr (.sl tDirent)], [rr .bool], laws_eqDirentS⟩
def laws_eqDirentS_T : List (Nat × Tpl) := [(4, ⟨[(0, .cell (.lst tDirent [])), (1, .cell (.lst tDirent [])), (5, tk)], [], [.drop, .drop]⟩)]
def laws_eqDirentS_O (k : Nat → St → Option (Bool × Unit)) : laws_eqDirentS_K4 := fun x1 x2 x3 => k 4 (mkS [(0, sL tDirent x1), (1, sL tDirent x2), (5, sI x3)] [] [.und, .und])
theorem s_laws_eqDirentS : Sound Tryz.prog 348 0 e_laws_eqDirentS := fn1 bk (fn := Tryz.f348) (fns := [(351, e_laws_eqDirent)]) ⟨s_laws_eqDirent, trivial⟩ (by kernel_rfl) (by kernel_rfl) laws_eqDirentS_T laws_eqDirentS_O laws_eqDirentS_b4 laws_eqDirentS_L4 (fun k x => laws_eqDirentS_s k x.1 x.2.1) (by kernel_rfl) (fun _ => by kernel_rfl) (fun _ => rfl) (fun _ _ => by kernel_rfl) (fun _ => by kernel_rfl)

/-! laws.eqInode -/
noncomputable def e_laws_eqInode : Entry := ⟨[vr tInode, vr tInode], [rr .bool], laws_eqInode⟩
theorem s_laws_eqInode : Sound Tryz.prog 343 0 e_laws_eqInode := fn0 bk (fn := Tryz.f343) (fns := [(348, e_laws_eqDirentS)]) ⟨s_laws_eqDirentS, trivial⟩ (by kernel_rfl) (by kernel_rfl) fun _ => by kernel_rfl

/-! laws.eqInodeS -/
noncomputable def e_laws_eqInodeS : Entry := ⟨[vr (.sl tInode), vr (.sl tInode)], [rr .bool], laws_eqInodeS⟩
def laws_eqInodeS_T : List (Nat × Tpl) := [(4, ⟨[(0, .cell (.lst tInode [])), (1, .cell (.lst tInode [])), (5, tk)], [], [.drop, .drop]⟩)]
def laws_eqInodeS_O (k : Nat → St → Option (Bool × Unit)) : laws_eqInodeS_K4 := fun x1 x2 x3 => k 4 (mkS [(0, sL tInode x1), (1, sL tInode x2), (5, sI x3)] [] [.und, .und])
theorem s_laws_eqInodeS : Sound Tryz.prog 330 0 e_laws_eqInodeS := fn1 bk (fn := Tryz.f330) (fns := [(343, e_laws_eqInode)]) ⟨s_laws_eqInode, trivial⟩ (by kernel_rfl) (by kernel_rfl) laws_eqInodeS_T laws_eqInodeS_O laws_eqInodeS_b4 laws_eqInodeS_L4 (fun k x => laws_eqInodeS_s k x.1 x.2.1) (by kernel_rfl) (fun _ => by kernel_rfl) (fun _ => rfl) (fun _ _ => by kernel_rfl) (fun _ => by kernel_rfl)

/-! laws.eqVol -/
noncomputable def e_laws_eqVol : Entry := ⟨[vr tVol, vr tVol], [rr .bool], laws_eqVol⟩
theorem s_laws_eqVol : Sound Tryz.prog 301 0 e_laws_eqVol := fn0 bk (fn := Tryz.f301) (fns := [(330, e_laws_eqInodeS)]) ⟨s_laws_eqInodeS, trivial⟩ (by kernel_rfl) (by kernel_rfl) fun _ => by kernel_rfl

/-! laws.eqNote -/
noncomputable def e_laws_eqNote : Entry := ⟨[vr tNote, vr tNote], [rr .bool], laws_eqNote⟩
theorem s_laws_eqNote : Sound Tryz.prog 331 0 e_laws_eqNote := fn0 bk (fn := Tryz.f331) (fns := []) trivial (by kernel_rfl) (by kernel_rfl) fun _ => by kernel_rfl

/-! laws.eqNoteS -/
noncomputable def e_laws_eqNoteS : Entry := ⟨[vr (.sl tNote), vr (.sl tNote)], [rr .bool], laws_eqNoteS⟩
def laws_eqNoteS_T : List (Nat × Tpl) := [(4, ⟨[(0, .cell (.lst tNote [])), (1, .cell (.lst tNote [])), (5, tk)], [], [.drop, .drop]⟩)]
def laws_eqNoteS_O (k : Nat → St → Option (Bool × Unit)) : laws_eqNoteS_K4 := fun x1 x2 x3 => k 4 (mkS [(0, sL tNote x1), (1, sL tNote x2), (5, sI x3)] [] [.und, .und])
theorem s_laws_eqNoteS : Sound Tryz.prog 302 0 e_laws_eqNoteS := fn1 bk (fn := Tryz.f302) (fns := [(331, e_laws_eqNote)]) ⟨s_laws_eqNote, trivial⟩ (by kernel_rfl) (by kernel_rfl) laws_eqNoteS_T laws_eqNoteS_O laws_eqNoteS_b4 laws_eqNoteS_L4 (fun k x => laws_eqNoteS_s k x.1 x.2.1) (by kernel_rfl) (fun _ => by kernel_rfl) (fun _ => rfl) (fun _ _ => by kernel_rfl) (fun _ => by kernel_rfl)

/-! laws.eqResult -/
noncomputable def e_laws_eqResult : Entry := ⟨[vr tEntry, vr tEntry], [rr .bool], laws_eqResult⟩
theorem s_laws_eqResult : Sound Tryz.prog 163 0 e_laws_eqResult := fn0 bk (fn := Tryz.f163) (fns := []) trivial (by kernel_rfl) (by kernel_rfl) fun _ => by kernel_rfl

/-! laws.eqSession -/
noncomputable def e_laws_eqSession : Entry := ⟨[vr tSession, vr tSession], [rr .bool], laws_eqSession⟩
theorem s_laws_eqSession : Sound Tryz.prog 332 0 e_laws_eqSession := fn0 bk (fn := Tryz.f332) (fns := [(163, e_laws_eqResult)]) ⟨s_laws_eqResult, trivial⟩ (by kernel_rfl) (by kernel_rfl) fun _ => by kernel_rfl

/-! laws.eqSessionS -/
noncomputable def e_laws_eqSessionS : Entry := ⟨[vr (.sl tSession), vr (.sl tSession)], [rr .bool], laws_eqSessionS⟩
def laws_eqSessionS_T : List (Nat × Tpl) := [(4, ⟨[(0, .cell (.lst tSession [])), (1, .cell (.lst tSession [])), (5, tk)], [], [.drop, .drop]⟩)]
def laws_eqSessionS_O (k : Nat → St → Option (Bool × Unit)) : laws_eqSessionS_K4 := fun x1 x2 x3 => k 4 (mkS [(0, sL tSession x1), (1, sL tSession x2), (5, sI x3)] [] [.und, .und])
theorem s_laws_eqSessionS : Sound Tryz.prog 303 0 e_laws_eqSessionS := fn1 bk (fn := Tryz.f303) (fns := [(332, e_laws_eqSession)]) ⟨s_laws_eqSession, trivial⟩ (by kernel_rfl) (by kernel_rfl) laws_eqSessionS_T laws_eqSessionS_O laws_eqSessionS_b4 laws_eqSessionS_L4 (fun k x => laws_eqSessionS_s k x.1 x.2.1) (by kernel_rfl) (fun _ => by kernel_rfl) (fun _ => rfl) (fun _ _ => by kernel_rfl) (fun _ => by kernel_rfl)

/-! laws.eqTenant -/
noncomputable def e_laws_eqTenant : Entry := ⟨[vr tTenant, vr tTenant], [rr .bool], laws_eqTenant⟩
theorem s_laws_eqTenant : Sound Tryz.prog 263 0 e_laws_eqTenant := fn0 bk (fn := Tryz.f263) (fns := [(301, e_laws_eqVol), (302, e_laws_eqNoteS), (303, e_laws_eqSessionS)]) ⟨s_laws_eqVol, s_laws_eqNoteS, s_laws_eqSessionS, trivial⟩ (by kernel_rfl) (by kernel_rfl) fun _ => by kernel_rfl

/-! laws.eqTenantS -/
noncomputable def e_laws_eqTenantS : Entry := ⟨[vr (.sl tTenant), vr (.sl tTenant)], [rr .bool], laws_eqTenantS⟩
def laws_eqTenantS_T : List (Nat × Tpl) := [(4, ⟨[(0, .cell (.lst tTenant [])), (1, .cell (.lst tTenant [])), (5, tk)], [], [.drop, .drop]⟩)]
def laws_eqTenantS_O (k : Nat → St → Option (Bool × Unit)) : laws_eqTenantS_K4 := fun x1 x2 x3 => k 4 (mkS [(0, sL tTenant x1), (1, sL tTenant x2), (5, sI x3)] [] [.und, .und])
theorem s_laws_eqTenantS : Sound Tryz.prog 219 0 e_laws_eqTenantS := fn1 bk (fn := Tryz.f219) (fns := [(263, e_laws_eqTenant)]) ⟨s_laws_eqTenant, trivial⟩ (by kernel_rfl) (by kernel_rfl) laws_eqTenantS_T laws_eqTenantS_O laws_eqTenantS_b4 laws_eqTenantS_L4 (fun k x => laws_eqTenantS_s k x.1 x.2.1) (by kernel_rfl) (fun _ => by kernel_rfl) (fun _ => rfl) (fun _ _ => by kernel_rfl) (fun _ => by kernel_rfl)

/-! laws.eqSnap -/
noncomputable def e_laws_eqSnap : Entry := ⟨[vr tSnap, vr tSnap], [rr .bool], laws_eqSnap⟩
theorem s_laws_eqSnap : Sound Tryz.prog 220 0 e_laws_eqSnap := fn0 bk (fn := Tryz.f220) (fns := []) trivial (by kernel_rfl) (by kernel_rfl) fun _ => by kernel_rfl

/-! laws.eqKept -/
noncomputable def e_laws_eqKept : Entry := ⟨[vr tKept, vr tKept], [rr .bool], laws_eqKept⟩
theorem s_laws_eqKept : Sound Tryz.prog 264 0 e_laws_eqKept := fn0 bk (fn := Tryz.f264) (fns := [(104, e_laws_eqEntryS), (220, e_laws_eqSnap)]) ⟨s_laws_eqEntryS, s_laws_eqSnap, trivial⟩ (by kernel_rfl) (by kernel_rfl) fun _ => by kernel_rfl

/-! laws.eqRec -/
noncomputable def e_laws_eqRec : Entry := ⟨[vr tRec, vr tRec], [rr .bool], laws_eqRec⟩
theorem s_laws_eqRec : Sound Tryz.prog 304 0 e_laws_eqRec := fn0 bk (fn := Tryz.f304) (fns := []) trivial (by kernel_rfl) (by kernel_rfl) fun _ => by kernel_rfl

/-! laws.eqRecS -/
noncomputable def e_laws_eqRecS : Entry := ⟨[vr (.sl tRec), vr (.sl tRec)], [rr .bool], laws_eqRecS⟩
def laws_eqRecS_T : List (Nat × Tpl) := [(4, ⟨[(0, .cell (.lst tRec [])), (1, .cell (.lst tRec [])), (5, tk)], [], [.drop, .drop]⟩)]
def laws_eqRecS_O (k : Nat → St → Option (Bool × Unit)) : laws_eqRecS_K4 := fun x1 x2 x3 => k 4 (mkS [(0, sL tRec x1), (1, sL tRec x2), (5, sI x3)] [] [.und, .und])
theorem s_laws_eqRecS : Sound Tryz.prog 265 0 e_laws_eqRecS := fn1 bk (fn := Tryz.f265) (fns := [(304, e_laws_eqRec)]) ⟨s_laws_eqRec, trivial⟩ (by kernel_rfl) (by kernel_rfl) laws_eqRecS_T laws_eqRecS_O laws_eqRecS_b4 laws_eqRecS_L4 (fun k x => laws_eqRecS_s k x.1 x.2.1) (by kernel_rfl) (fun _ => by kernel_rfl) (fun _ => rfl) (fun _ _ => by kernel_rfl) (fun _ => by kernel_rfl)

/-! laws.eqStore -/
noncomputable def e_laws_eqStore : Entry := ⟨[vr tStore, vr tStore], [rr .bool], laws_eqStore⟩
theorem s_laws_eqStore : Sound Tryz.prog 221 0 e_laws_eqStore := fn0 bk (fn := Tryz.f221) (fns := [(264, e_laws_eqKept), (265, e_laws_eqRecS)]) ⟨s_laws_eqKept, s_laws_eqRecS, trivial⟩ (by kernel_rfl) (by kernel_rfl) fun _ => by kernel_rfl

/-! laws.eqCall -/
noncomputable def e_laws_eqCall : Entry := ⟨[vr tCall, vr tCall], [rr .bool], laws_eqCall⟩
theorem s_laws_eqCall : Sound Tryz.prog 162 0 e_laws_eqCall := fn0 bk (fn := Tryz.f162) (fns := []) trivial (by kernel_rfl) (by kernel_rfl) fun _ => by kernel_rfl

/-! laws.eqSlot -/
noncomputable def e_laws_eqSlot : Entry := ⟨[vr tSlot, vr tSlot], [rr .bool], laws_eqSlot⟩
theorem s_laws_eqSlot : Sound Tryz.prog 266 0 e_laws_eqSlot := fn0 bk (fn := Tryz.f266) (fns := [(162, e_laws_eqCall)]) ⟨s_laws_eqCall, trivial⟩ (by kernel_rfl) (by kernel_rfl) fun _ => by kernel_rfl

/-! laws.eqSlotS -/
noncomputable def e_laws_eqSlotS : Entry := ⟨[vr (.sl tSlot), vr (.sl tSlot)], [rr .bool], laws_eqSlotS⟩
def laws_eqSlotS_T : List (Nat × Tpl) := [(4, ⟨[(0, .cell (.lst tSlot [])), (1, .cell (.lst tSlot [])), (5, tk)], [], [.drop, .drop]⟩)]
def laws_eqSlotS_O (k : Nat → St → Option (Bool × Unit)) : laws_eqSlotS_K4 := fun x1 x2 x3 => k 4 (mkS [(0, sL tSlot x1), (1, sL tSlot x2), (5, sI x3)] [] [.und, .und])
theorem s_laws_eqSlotS : Sound Tryz.prog 222 0 e_laws_eqSlotS := fn1 bk (fn := Tryz.f222) (fns := [(266, e_laws_eqSlot)]) ⟨s_laws_eqSlot, trivial⟩ (by kernel_rfl) (by kernel_rfl) laws_eqSlotS_T laws_eqSlotS_O laws_eqSlotS_b4 laws_eqSlotS_L4 (fun k x => laws_eqSlotS_s k x.1 x.2.1) (by kernel_rfl) (fun _ => by kernel_rfl) (fun _ => rfl) (fun _ _ => by kernel_rfl) (fun _ => by kernel_rfl)

/-! laws.eqNode -/
noncomputable def e_laws_eqNode : Entry := ⟨[vr tNode, vr tNode], [rr .bool], laws_eqNode⟩
theorem s_laws_eqNode : Sound Tryz.prog 158 0 e_laws_eqNode := fn0 bk (fn := Tryz.f158) (fns := [(218, e_laws_eqCore), (219, e_laws_eqTenantS), (220, e_laws_eqSnap), (221, e_laws_eqStore), (222, e_laws_eqSlotS)]) ⟨s_laws_eqCore, s_laws_eqTenantS, s_laws_eqSnap, s_laws_eqStore, s_laws_eqSlotS, trivial⟩ (by kernel_rfl) (by kernel_rfl) fun _ => by kernel_rfl

/-! laws.eqNodeS -/
noncomputable def e_laws_eqNodeS : Entry := ⟨[vr (.sl tNode), vr (.sl tNode)], [rr .bool], laws_eqNodeS⟩
def laws_eqNodeS_T : List (Nat × Tpl) := [(4, ⟨[(0, .cell (.lst tNode [])), (1, .cell (.lst tNode [])), (5, tk)], [], [.drop, .drop]⟩)]
def laws_eqNodeS_O (k : Nat → St → Option (Bool × Unit)) : laws_eqNodeS_K4 := fun x1 x2 x3 => k 4 (mkS [(0, sL tNode x1), (1, sL tNode x2), (5, sI x3)] [] [.und, .und])
theorem s_laws_eqNodeS : Sound Tryz.prog 101 0 e_laws_eqNodeS := fn1 bk (fn := Tryz.f101) (fns := [(158, e_laws_eqNode)]) ⟨s_laws_eqNode, trivial⟩ (by kernel_rfl) (by kernel_rfl) laws_eqNodeS_T laws_eqNodeS_O laws_eqNodeS_b4 laws_eqNodeS_L4 (fun k x => laws_eqNodeS_s k x.1 x.2.1) (by kernel_rfl) (fun _ => by kernel_rfl) (fun _ => rfl) (fun _ _ => by kernel_rfl) (fun _ => by kernel_rfl)

/-! laws.eqMsg -/
noncomputable def e_laws_eqMsg : Entry := ⟨[vr tMsg, vr tMsg], [rr .bool], laws_eqMsg⟩
theorem s_laws_eqMsg : Sound Tryz.prog 159 0 e_laws_eqMsg := fn0 bk (fn := Tryz.f159) (fns := [(104, e_laws_eqEntryS)]) ⟨s_laws_eqEntryS, trivial⟩ (by kernel_rfl) (by kernel_rfl) fun _ => by kernel_rfl

/-! laws.eqMsgS -/
noncomputable def e_laws_eqMsgS : Entry := ⟨[vr (.sl tMsg), vr (.sl tMsg)], [rr .bool], laws_eqMsgS⟩
def laws_eqMsgS_T : List (Nat × Tpl) := [(4, ⟨[(0, .cell (.lst tMsg [])), (1, .cell (.lst tMsg [])), (5, tk)], [], [.drop, .drop]⟩)]
def laws_eqMsgS_O (k : Nat → St → Option (Bool × Unit)) : laws_eqMsgS_K4 := fun x1 x2 x3 => k 4 (mkS [(0, sL tMsg x1), (1, sL tMsg x2), (5, sI x3)] [] [.und, .und])
theorem s_laws_eqMsgS : Sound Tryz.prog 102 0 e_laws_eqMsgS := fn1 bk (fn := Tryz.f102) (fns := [(159, e_laws_eqMsg)]) ⟨s_laws_eqMsg, trivial⟩ (by kernel_rfl) (by kernel_rfl) laws_eqMsgS_T laws_eqMsgS_O laws_eqMsgS_b4 laws_eqMsgS_L4 (fun k x => laws_eqMsgS_s k x.1 x.2.1) (by kernel_rfl) (fun _ => by kernel_rfl) (fun _ => rfl) (fun _ _ => by kernel_rfl) (fun _ => by kernel_rfl)

/-! laws.eqMail -/
noncomputable def e_laws_eqMail : Entry := ⟨[vr tMail, vr tMail], [rr .bool], laws_eqMail⟩
theorem s_laws_eqMail : Sound Tryz.prog 160 0 e_laws_eqMail := fn0 bk (fn := Tryz.f160) (fns := []) trivial (by kernel_rfl) (by kernel_rfl) fun _ => by kernel_rfl

/-! laws.eqMailS -/
noncomputable def e_laws_eqMailS : Entry := ⟨[vr (.sl tMail), vr (.sl tMail)], [rr .bool], laws_eqMailS⟩
def laws_eqMailS_T : List (Nat × Tpl) := [(4, ⟨[(0, .cell (.lst tMail [])), (1, .cell (.lst tMail [])), (5, tk)], [], [.drop, .drop]⟩)]
def laws_eqMailS_O (k : Nat → St → Option (Bool × Unit)) : laws_eqMailS_K4 := fun x1 x2 x3 => k 4 (mkS [(0, sL tMail x1), (1, sL tMail x2), (5, sI x3)] [] [.und, .und])
theorem s_laws_eqMailS : Sound Tryz.prog 103 0 e_laws_eqMailS := fn1 bk (fn := Tryz.f103) (fns := [(160, e_laws_eqMail)]) ⟨s_laws_eqMail, trivial⟩ (by kernel_rfl) (by kernel_rfl) laws_eqMailS_T laws_eqMailS_O laws_eqMailS_b4 laws_eqMailS_L4 (fun k x => laws_eqMailS_s k x.1 x.2.1) (by kernel_rfl) (fun _ => by kernel_rfl) (fun _ => rfl) (fun _ _ => by kernel_rfl) (fun _ => by kernel_rfl)

/-! laws.eqCrew -/
noncomputable def e_laws_eqCrew : Entry := ⟨[vr tCrew, vr tCrew], [rr .bool], laws_eqCrew⟩
theorem s_laws_eqCrew : Sound Tryz.prog 43 0 e_laws_eqCrew := fn0 bk (fn := Tryz.f43) (fns := [(101, e_laws_eqNodeS), (102, e_laws_eqMsgS), (103, e_laws_eqMailS), (104, e_laws_eqEntryS)]) ⟨s_laws_eqNodeS, s_laws_eqMsgS, s_laws_eqMailS, s_laws_eqEntryS, trivial⟩ (by kernel_rfl) (by kernel_rfl) fun _ => by kernel_rfl

/-! laws.eqClient -/
noncomputable def e_laws_eqClient : Entry := ⟨[vr tClient, vr tClient], [rr .bool], laws_eqClient⟩
theorem s_laws_eqClient : Sound Tryz.prog 105 0 e_laws_eqClient := fn0 bk (fn := Tryz.f105) (fns := [(162, e_laws_eqCall)]) ⟨s_laws_eqCall, trivial⟩ (by kernel_rfl) (by kernel_rfl) fun _ => by kernel_rfl

/-! laws.eqClientS -/
noncomputable def e_laws_eqClientS : Entry := ⟨[vr (.sl tClient), vr (.sl tClient)], [rr .bool], laws_eqClientS⟩
def laws_eqClientS_T : List (Nat × Tpl) := [(4, ⟨[(0, .cell (.lst tClient [])), (1, .cell (.lst tClient [])), (5, tk)], [], [.drop, .drop]⟩)]
def laws_eqClientS_O (k : Nat → St → Option (Bool × Unit)) : laws_eqClientS_K4 := fun x1 x2 x3 => k 4 (mkS [(0, sL tClient x1), (1, sL tClient x2), (5, sI x3)] [] [.und, .und])
theorem s_laws_eqClientS : Sound Tryz.prog 44 0 e_laws_eqClientS := fn1 bk (fn := Tryz.f44) (fns := [(105, e_laws_eqClient)]) ⟨s_laws_eqClient, trivial⟩ (by kernel_rfl) (by kernel_rfl) laws_eqClientS_T laws_eqClientS_O laws_eqClientS_b4 laws_eqClientS_L4 (fun k x => laws_eqClientS_s k x.1 x.2.1) (by kernel_rfl) (fun _ => by kernel_rfl) (fun _ => rfl) (fun _ _ => by kernel_rfl) (fun _ => by kernel_rfl)

/-! laws.eqDone -/
noncomputable def e_laws_eqDone : Entry := ⟨[vr tDone, vr tDone], [rr .bool], laws_eqDone⟩
theorem s_laws_eqDone : Sound Tryz.prog 106 0 e_laws_eqDone := fn0 bk (fn := Tryz.f106) (fns := [(162, e_laws_eqCall), (163, e_laws_eqResult)]) ⟨s_laws_eqCall, s_laws_eqResult, trivial⟩ (by kernel_rfl) (by kernel_rfl) fun _ => by kernel_rfl

/-! laws.eqDoneS -/
noncomputable def e_laws_eqDoneS : Entry := ⟨[vr (.sl tDone), vr (.sl tDone)], [rr .bool], laws_eqDoneS⟩
def laws_eqDoneS_T : List (Nat × Tpl) := [(4, ⟨[(0, .cell (.lst tDone [])), (1, .cell (.lst tDone [])), (5, tk)], [], [.drop, .drop]⟩)]
def laws_eqDoneS_O (k : Nat → St → Option (Bool × Unit)) : laws_eqDoneS_K4 := fun x1 x2 x3 => k 4 (mkS [(0, sL tDone x1), (1, sL tDone x2), (5, sI x3)] [] [.und, .und])
theorem s_laws_eqDoneS : Sound Tryz.prog 45 0 e_laws_eqDoneS := fn1 bk (fn := Tryz.f45) (fns := [(106, e_laws_eqDone)]) ⟨s_laws_eqDone, trivial⟩ (by kernel_rfl) (by kernel_rfl) laws_eqDoneS_T laws_eqDoneS_O laws_eqDoneS_b4 laws_eqDoneS_L4 (fun k x => laws_eqDoneS_s k x.1 x.2.1) (by kernel_rfl) (fun _ => by kernel_rfl) (fun _ => rfl) (fun _ _ => by kernel_rfl) (fun _ => by kernel_rfl)

/-! laws.eqWorld -/
noncomputable def e_laws_eqWorld : Entry := ⟨[vr tWorld, vr tWorld], [rr .bool], laws_eqWorld⟩
theorem s_laws_eqWorld : Sound Tryz.prog 11 0 e_laws_eqWorld := fn0 bk (fn := Tryz.f11) (fns := [(43, e_laws_eqCrew), (44, e_laws_eqClientS), (45, e_laws_eqDoneS), (46, e_laws_eqIntS)]) ⟨s_laws_eqCrew, s_laws_eqClientS, s_laws_eqDoneS, s_laws_eqIntS, trivial⟩ (by kernel_rfl) (by kernel_rfl) fun _ => by kernel_rfl

/-! spec.l1In -/
noncomputable def e_spec_l1In : Entry := ⟨[vr (.int .i64), vr (.int .i64), vr (.int .i64)], [rr .bool], spec_l1In⟩
theorem s_spec_l1In : Sound Tryz.prog 28 0 e_spec_l1In := fn0 bk (fn := Tryz.f28) (fns := []) trivial (by kernel_rfl) (by kernel_rfl) fun _ => by kernel_rfl

/-! spec.l3Place -/
noncomputable def e_spec_l3Place : Entry := ⟨[vr (.int .i64), vr (.int .i64)], [rr .bool], spec_l3Place⟩
theorem s_spec_l3Place : Sound Tryz.prog 142 0 e_spec_l3Place := fn0 bk (fn := Tryz.f142) (fns := [(28, e_spec_l1In)]) ⟨s_spec_l1In, trivial⟩ (by kernel_rfl) (by kernel_rfl) fun _ => by kernel_rfl

/-! spec.KeptOk -/
noncomputable def e_spec_KeptOk : Entry := ⟨[vr tKept], [rr .bool], spec_KeptOk⟩
def spec_KeptOk_T : List (Nat × Tpl) := [(5, ⟨[(1, .ptr 1), (3, tk), (4, tk)], tv 1 tKept .R [], [.drop]⟩)]
def spec_KeptOk_O (k : Nat → St → Option (Bool × Unit)) : spec_KeptOk_K5 := fun x1 x2 x3 => k 5 (mkS [(1, sP 1), (3, sI x1), (4, sI x2)] (sv 1 tKept .R [] x3) [.und])
theorem s_spec_KeptOk : Sound Tryz.prog 197 0 e_spec_KeptOk := fn1 bk (fn := Tryz.f197) (fns := [(28, e_spec_l1In), (142, e_spec_l3Place)]) ⟨s_spec_l1In, s_spec_l3Place, trivial⟩ (by kernel_rfl) (by kernel_rfl) spec_KeptOk_T spec_KeptOk_O spec_KeptOk_b5 spec_KeptOk_L5 (fun k x => spec_KeptOk_s k x.1) (by kernel_rfl) (fun _ => by kernel_rfl) (fun _ => rfl) (fun _ _ => by kernel_rfl) (fun _ => by kernel_rfl)

/-! spec.l3Copy -/
noncomputable def e_spec_l3Copy : Entry := ⟨[vr tKept], [ro tKept], spec_l3Copy⟩
theorem s_spec_l3Copy : Sound Tryz.prog 244 0 e_spec_l3Copy := fn0 bk (fn := Tryz.f244) (fns := []) trivial (by kernel_rfl) (by kernel_rfl) fun _ => by kernel_rfl

/-! spec.RecOk -/
noncomputable def e_spec_RecOk : Entry := ⟨[vr tRec], [rr .bool], spec_RecOk⟩
theorem s_spec_RecOk : Sound Tryz.prog 279 0 e_spec_RecOk := fn0 bk (fn := Tryz.f279) (fns := [(28, e_spec_l1In)]) ⟨s_spec_l1In, trivial⟩ (by kernel_rfl) (by kernel_rfl) fun _ => by kernel_rfl

/-! spec.l3LastTerm -/
noncomputable def e_spec_l3LastTerm : Entry := ⟨[vr tKept], [rr (.int .i64)], spec_l3LastTerm⟩
theorem s_spec_l3LastTerm : Sound Tryz.prog 311 0 e_spec_l3LastTerm := fn0 bk (fn := Tryz.f311) (fns := []) trivial (by kernel_rfl) (by kernel_rfl) fun _ => by kernel_rfl

/-! spec.l3Fits -/
noncomputable def e_spec_l3Fits : Entry := ⟨[vr tKept, vr tRec], [rr .bool], spec_l3Fits⟩
theorem s_spec_l3Fits : Sound Tryz.prog 280 0 e_spec_l3Fits := fn0 bk (fn := Tryz.f280) (fns := [(311, e_spec_l3LastTerm)]) ⟨s_spec_l3LastTerm, trivial⟩ (by kernel_rfl) (by kernel_rfl) fun _ => by kernel_rfl

/-! spec.l3Behind -/
noncomputable def e_spec_l3Behind : Entry := ⟨[vr tKept, vr (.int .i64), vr (.int .i64)], [ro (.sl tEntry)], spec_l3Behind⟩
theorem s_spec_l3Behind : Sound Tryz.prog 281 0 e_spec_l3Behind := fn0 bk (fn := Tryz.f281) (fns := []) trivial (by kernel_rfl) (by kernel_rfl) fun _ => by kernel_rfl

/-! spec.l3Step -/
noncomputable def e_spec_l3Step : Entry := ⟨[vo tKept, vr tRec], [ro tKept, rr .bool], spec_l3Step⟩
theorem s_spec_l3Step : Sound Tryz.prog 245 0 e_spec_l3Step := fn0 bk (fn := Tryz.f245) (fns := [(279, e_spec_RecOk), (280, e_spec_l3Fits), (281, e_spec_l3Behind)]) ⟨s_spec_RecOk, s_spec_l3Fits, s_spec_l3Behind, trivial⟩ (by kernel_rfl) (by kernel_rfl) fun _ => by kernel_rfl

/-! spec.l3Fold -/
noncomputable def e_spec_l3Fold : Entry := ⟨[vr tStore, vr (.int .i64)], [ro tKept, rr .bool], spec_l3Fold⟩
def spec_l3Fold_T : List (Nat × Tpl) := [(3, ⟨[(1, tk), (2, .ptr 1), (4, .ptr 2), (6, .ptr 4), (7, tk)], tv 1 tStore .R [] ++ tv 2 tKept tKept.own [] ++ tv 4 tKept tKept.own [], [.drop, .drop]⟩)]
def spec_l3Fold_O (k : Nat → St → Option (spec_l3Fold_R)) : spec_l3Fold_K3 := fun x1 x2 x3 x4 x5 => k 3 (mkS [(1, sI x1), (2, sP 1), (4, sP 2), (6, sP 4), (7, sI x2)] (sv 1 tStore .R [] x3 ++ sv 2 tKept tKept.own [] x4 ++ sv 4 tKept tKept.own [] x5) [.und, .und])
theorem s_spec_l3Fold : Sound Tryz.prog 198 0 e_spec_l3Fold := fn1 bk (fn := Tryz.f198) (fns := [(244, e_spec_l3Copy), (245, e_spec_l3Step)]) ⟨s_spec_l3Copy, s_spec_l3Step, trivial⟩ (by kernel_rfl) (by kernel_rfl) spec_l3Fold_T spec_l3Fold_O spec_l3Fold_b3 spec_l3Fold_L3 (fun k x => spec_l3Fold_s k x.1 x.2.1) (by kernel_rfl) (fun _ => by kernel_rfl) (fun _ => rfl) (fun _ _ => by kernel_rfl) (fun _ => by kernel_rfl)

/-! spec.StoreOk -/
noncomputable def e_spec_StoreOk : Entry := ⟨[vr tStore], [rr .bool], spec_StoreOk⟩
theorem s_spec_StoreOk : Sound Tryz.prog 133 0 e_spec_StoreOk := fn0 bk (fn := Tryz.f133) (fns := [(197, e_spec_KeptOk), (198, e_spec_l3Fold)]) ⟨s_spec_KeptOk, s_spec_l3Fold, trivial⟩ (by kernel_rfl) (by kernel_rfl) fun _ => by kernel_rfl

/-! spec.l14ZeroCore -/
noncomputable def e_spec_l14ZeroCore : Entry := ⟨[vr tCore], [rr .bool], spec_l14ZeroCore⟩
theorem s_spec_l14ZeroCore : Sound Tryz.prog 134 0 e_spec_l14ZeroCore := fn0 bk (fn := Tryz.f134) (fns := []) trivial (by kernel_rfl) (by kernel_rfl) fun _ => by kernel_rfl

/-! spec.l13Last -/
noncomputable def e_spec_l13Last : Entry := ⟨[vr tCore], [rr (.int .i64)], spec_l13Last⟩
theorem s_spec_l13Last : Sound Tryz.prog 48 0 e_spec_l13Last := fn0 bk (fn := Tryz.f48) (fns := []) trivial (by kernel_rfl) (by kernel_rfl) fun _ => by kernel_rfl

/-! spec.l13Kept -/
noncomputable def e_spec_l13Kept : Entry := ⟨[vr tCore, vr .str], [rr tKept], spec_l13Kept⟩
theorem s_spec_l13Kept : Sound Tryz.prog 140 0 e_spec_l13Kept := fn0 bk (fn := Tryz.f140) (fns := []) trivial (by kernel_rfl) (by kernel_rfl) fun _ => by kernel_rfl

/-! spec.l13In -/
noncomputable def e_spec_l13In : Entry := ⟨[vr (.sl (.int .i64)), vr (.int .i64)], [rr .bool], spec_l13In⟩
def spec_l13In_T : List (Nat × Tpl) := [(2, ⟨[(0, .cell (.lst (.int .i64) [])), (1, tk), (5, tk)], [], [.drop, .drop]⟩)]
def spec_l13In_O (k : Nat → St → Option (Bool × Unit)) : spec_l13In_K2 := fun x1 x2 x3 => k 2 (mkS [(0, sL (.int .i64) x1), (1, sI x2), (5, sI x3)] [] [.und, .und])
theorem s_spec_l13In : Sound Tryz.prog 199 0 e_spec_l13In := fn1 bk (fn := Tryz.f199) (fns := []) trivial (by kernel_rfl) (by kernel_rfl) spec_l13In_T spec_l13In_O spec_l13In_b2 spec_l13In_L2 (fun k x => spec_l13In_s k x.1 x.2.1) (by kernel_rfl) (fun _ => by kernel_rfl) (fun _ => rfl) (fun _ _ => by kernel_rfl) (fun _ => by kernel_rfl)

/-! spec.CoreOk -/
noncomputable def e_spec_CoreOk : Entry := ⟨[vr tCore], [rr .bool], spec_CoreOk⟩
def spec_CoreOk_T : List (Nat × Tpl) := [(3, ⟨[(1, .ptr 1)], tv 1 tCore .R [], [.drop]⟩), (8, ⟨[(1, .ptr 1), (3, tk)], tv 1 tCore .R [], [.drop]⟩), (17, ⟨[(1, .ptr 1), (4, tk)], tv 1 tCore .R [], [.drop]⟩)]
def spec_CoreOk_O (k : Nat → St → Option (Bool × Unit)) : spec_CoreOk_K := ⟨fun x1 => k 3 (mkS [(1, sP 1)] (sv 1 tCore .R [] x1) [.und]), fun x1 x2 => k 8 (mkS [(1, sP 1), (3, sI x1)] (sv 1 tCore .R [] x2) [.und]), fun x1 x2 => k 17 (mkS [(1, sP 1), (4, sI x1)] (sv 1 tCore .R [] x2) [.und])⟩
theorem s_spec_CoreOk : Sound Tryz.prog 135 0 e_spec_CoreOk := fn1 bk (fn := Tryz.f135) (fns := [(28, e_spec_l1In), (48, e_spec_l13Last), (140, e_spec_l13Kept), (197, e_spec_KeptOk), (199, e_spec_l13In)]) ⟨s_spec_l1In, s_spec_l13Last, s_spec_l13Kept, s_spec_KeptOk, s_spec_l13In, trivial⟩ (by kernel_rfl) (by kernel_rfl) spec_CoreOk_T spec_CoreOk_O spec_CoreOk_N spec_CoreOk_L (fun k x => spec_CoreOk_s k x.1) (by kernel_rfl) (fun _ => by kernel_rfl) (fun _ => rfl) (fun _ _ => by kernel_rfl) (fun _ => by kernel_rfl)

/-! spec.StateOk -/
noncomputable def e_spec_StateOk : Entry := ⟨[vr (.sl tTenant)], [rr .bool], spec_StateOk⟩
theorem s_spec_StateOk : SoundX Tryz.prog 136 0 e_spec_StateOk := stub_soundX fun _ => rfl

/-! spec.ReadState -/
noncomputable def e_spec_ReadState : Entry := ⟨[vr .str], [ro (.sl tTenant), rr .bool], spec_ReadState⟩
theorem s_spec_ReadState : SoundX Tryz.prog 137 0 e_spec_ReadState := stub_soundX fun _ => rfl

/-! spec.l11Grouped -/
noncomputable def e_spec_l11Grouped : Entry := ⟨[vr (.sl tSlot), vr (.int .i64)], [rr .bool], spec_l11Grouped⟩
theorem s_spec_l11Grouped : SoundX Tryz.prog 138 0 e_spec_l11Grouped := stub_soundX fun _ => rfl

/-! spec.l12SameEntries -/
noncomputable def e_spec_l12SameEntries : Entry := ⟨[vr (.sl tEntry), vr (.sl tEntry)], [rr .bool], spec_l12SameEntries⟩
def spec_l12SameEntries_T : List (Nat × Tpl) := [(4, ⟨[(0, .cell (.lst tEntry [])), (1, .cell (.lst tEntry [])), (5, tk)], [], [.drop, .drop]⟩)]
def spec_l12SameEntries_O (k : Nat → St → Option (Bool × Unit)) : spec_l12SameEntries_K4 := fun x1 x2 x3 => k 4 (mkS [(0, sL tEntry x1), (1, sL tEntry x2), (5, sI x3)] [] [.und, .und])
theorem s_spec_l12SameEntries : Sound Tryz.prog 204 0 e_spec_l12SameEntries := fn1 bk (fn := Tryz.f204) (fns := []) trivial (by kernel_rfl) (by kernel_rfl) spec_l12SameEntries_T spec_l12SameEntries_O spec_l12SameEntries_b4 spec_l12SameEntries_L4 (fun k x => spec_l12SameEntries_s k x.1 x.2.1) (by kernel_rfl) (fun _ => by kernel_rfl) (fun _ => rfl) (fun _ _ => by kernel_rfl) (fun _ => by kernel_rfl)

/-! spec.l14SameKept -/
noncomputable def e_spec_l14SameKept : Entry := ⟨[vr tKept, vr tKept], [rr .bool], spec_l14SameKept⟩
theorem s_spec_l14SameKept : Sound Tryz.prog 139 0 e_spec_l14SameKept := fn0 bk (fn := Tryz.f139) (fns := [(204, e_spec_l12SameEntries)]) ⟨s_spec_l12SameEntries, trivial⟩ (by kernel_rfl) (by kernel_rfl) fun _ => by kernel_rfl

/-! spec.NodeOk -/
noncomputable def e_spec_NodeOk : Entry := ⟨[vr tNode], [rr .bool], spec_NodeOk⟩
def spec_NodeOk_T : List (Nat × Tpl) := [(3, ⟨[(1, .ptr 1)], tv 1 tNode .R [], [.drop]⟩), (8, ⟨[(1, .ptr 1), (3, .ptr 2)], tv 1 tNode .R [] ++ tv 2 tCore .R [], [.drop]⟩), (12, ⟨[(1, .ptr 1), (3, .ptr 2)], tv 1 tNode .R [] ++ tv 2 tCore .R [], [.drop]⟩), (14, ⟨[(1, .ptr 1), (3, .ptr 2)], tv 1 tNode .R [] ++ tv 2 tCore .R [], [.drop]⟩)]
def spec_NodeOk_O (k : Nat → St → Option (Bool × Unit)) : spec_NodeOk_K := ⟨fun x1 => k 3 (mkS [(1, sP 1)] (sv 1 tNode .R [] x1) [.und]), fun x1 x2 => k 8 (mkS [(1, sP 1), (3, sP 2)] (sv 1 tNode .R [] x1 ++ sv 2 tCore .R [] x2) [.und]), fun x1 x2 => k 12 (mkS [(1, sP 1), (3, sP 2)] (sv 1 tNode .R [] x1 ++ sv 2 tCore .R [] x2) [.und]), fun x1 x2 => k 14 (mkS [(1, sP 1), (3, sP 2)] (sv 1 tNode .R [] x1 ++ sv 2 tCore .R [] x2) [.und])⟩
theorem s_spec_NodeOk : Sound Tryz.prog 80 0 e_spec_NodeOk := fn1 bk (fn := Tryz.f80) (fns := [(28, e_spec_l1In), (133, e_spec_StoreOk), (134, e_spec_l14ZeroCore), (135, e_spec_CoreOk), (136, e_spec_StateOk), (137, e_spec_ReadState), (138, e_spec_l11Grouped), (139, e_spec_l14SameKept), (140, e_spec_l13Kept)]) ⟨s_spec_l1In, s_spec_StoreOk, s_spec_l14ZeroCore, s_spec_CoreOk, s_spec_StateOk, s_spec_ReadState, s_spec_l11Grouped, s_spec_l14SameKept, s_spec_l13Kept, trivial⟩ (by kernel_rfl) (by kernel_rfl) spec_NodeOk_T spec_NodeOk_O spec_NodeOk_N spec_NodeOk_L (fun k x => spec_NodeOk_s k x.1) (by kernel_rfl) (fun _ => by kernel_rfl) (fun _ => rfl) (fun _ _ => by kernel_rfl) (fun _ => by kernel_rfl)

/-! spec.NewStore -/
noncomputable def e_spec_NewStore : Entry := ⟨[], [rr tStore], spec_NewStore⟩
theorem s_spec_NewStore : Sound Tryz.prog 164 0 e_spec_NewStore := fn0 bk (fn := Tryz.f164) (fns := []) trivial (by kernel_rfl) (by kernel_rfl) fun _ => by kernel_rfl

/-! spec.CoreOf -/
noncomputable def e_spec_CoreOf : Entry := ⟨[vr (.int .i64), vr (.int .i64), vr tKept], [rr tCore, rr .bool], spec_CoreOf⟩
def spec_CoreOf_T : List (Nat × Tpl) := [(2, ⟨[(5, .ptr 1), (6, .ptr 2), (8, .ptr 7)], tv 1 tKept .R [] ++ tv 2 tCore tCore.own [] ++ tv 7 tCore tCore.own [], [.drop, .drop, .drop]⟩)]
def spec_CoreOf_O (k : Nat → St → Option (spec_CoreOf_R)) : spec_CoreOf_K2 := fun x1 x2 x3 => k 2 (mkS [(5, sP 1), (6, sP 2), (8, sP 7)] (sv 1 tKept .R [] x1 ++ sv 2 tCore tCore.own [] x2 ++ sv 7 tCore tCore.own [] x3) [.und, .und, .und])
theorem s_spec_CoreOf : Sound Tryz.prog 223 0 e_spec_CoreOf := fn1 bk (fn := Tryz.f223) (fns := [(135, e_spec_CoreOk), (197, e_spec_KeptOk)]) ⟨s_spec_CoreOk, s_spec_KeptOk, trivial⟩ (by kernel_rfl) (by kernel_rfl) spec_CoreOf_T spec_CoreOf_O spec_CoreOf_b2 spec_CoreOf_L2 (fun k x => spec_CoreOf_s k x.1 x.2.1 x.2.2.1) (by kernel_rfl) (fun _ => by kernel_rfl) (fun _ => rfl) (fun _ _ => by kernel_rfl) (fun _ => by kernel_rfl)

/-! spec.NewVol -/
noncomputable def e_spec_NewVol : Entry := ⟨[], [ro tVol], spec_NewVol⟩
theorem s_spec_NewVol : Sound Tryz.prog 305 0 e_spec_NewVol := fn0 bk (fn := Tryz.f305) (fns := []) trivial (by kernel_rfl) (by kernel_rfl) fun _ => by kernel_rfl

/-! spec.NewTenant -/
noncomputable def e_spec_NewTenant : Entry := ⟨[], [rr tTenant], spec_NewTenant⟩
theorem s_spec_NewTenant : Sound Tryz.prog 267 0 e_spec_NewTenant := fn0 bk (fn := Tryz.f267) (fns := [(305, e_spec_NewVol)]) ⟨s_spec_NewVol, trivial⟩ (by kernel_rfl) (by kernel_rfl) fun _ => by kernel_rfl

/-! spec.NewState -/
noncomputable def e_spec_NewState : Entry := ⟨[], [rr (.sl tTenant)], spec_NewState⟩
def spec_NewState_T : List (Nat × Tpl) := [(3, ⟨[(1, .cell (.hd 1)), (2, tk)], [(1, .row tTenant .R)], []⟩)]
def spec_NewState_O (k : Nat → St → Option (spec_NewState_R)) : spec_NewState_K3 := fun x1 x2 => k 3 (mkS [(1, .sc (.hd 1 none)), (2, sI x1)] [(1, .row tTenant .R 0 x2)] [])
theorem s_spec_NewState : Sound Tryz.prog 224 0 e_spec_NewState := fn1 bk (fn := Tryz.f224) (fns := [(267, e_spec_NewTenant)]) ⟨s_spec_NewTenant, trivial⟩ (by kernel_rfl) (by kernel_rfl) spec_NewState_T spec_NewState_O spec_NewState_b3 spec_NewState_L3 (fun k x => spec_NewState_s k ) (by kernel_rfl) (fun _ => by kernel_rfl) (fun _ => rfl) (fun _ _ => by kernel_rfl) (fun _ => by kernel_rfl)

/-! spec.l14Rise -/
noncomputable def e_spec_l14Rise : Entry := ⟨[vr tNode], [rr tNode, rr .bool], spec_l14Rise⟩
theorem s_spec_l14Rise : Sound Tryz.prog 165 0 e_spec_l14Rise := fn0 bk (fn := Tryz.f165) (fns := [(137, e_spec_ReadState), (223, e_spec_CoreOf), (224, e_spec_NewState)]) ⟨s_spec_ReadState, s_spec_CoreOf, s_spec_NewState, trivial⟩ (by kernel_rfl) (by kernel_rfl) fun _ => by kernel_rfl

/-! spec.NodeNew -/
noncomputable def e_spec_NodeNew : Entry := ⟨[vr (.int .i64), vr (.int .i64)], [rr tNode, rr .bool], spec_NodeNew⟩
theorem s_spec_NodeNew : Sound Tryz.prog 107 0 e_spec_NodeNew := fn0 bk (fn := Tryz.f107) (fns := [(80, e_spec_NodeOk), (164, e_spec_NewStore), (165, e_spec_l14Rise)]) ⟨s_spec_NodeOk, s_spec_NewStore, s_spec_l14Rise, trivial⟩ (by kernel_rfl) (by kernel_rfl) fun _ => by kernel_rfl

/-! spec.NewCrew -/
noncomputable def e_spec_NewCrew : Entry := ⟨[vr (.int .i64)], [rr tCrew, rr .bool], spec_NewCrew⟩
def spec_NewCrew_T : List (Nat × Tpl) := [(5, ⟨[(0, tk), (2, .ptr 1), (4, .ptr 6), (5, tk)], tv 1 tCrew tCrew.own [] ++ tv 6 tCrew (.S (.cons (.O .R) (.cons (.O (.S (.cons .R (.cons .R (.cons .R (.cons .R (.cons .R (.cons .R (.cons .R (.cons .R (.cons (.O .R) (.cons .R .nil)))))))))))) (.cons (.O .R) (.cons (.O .R) (.cons .R .nil)))))) [], [.drop]⟩)]
def spec_NewCrew_O (k : Nat → St → Option (spec_NewCrew_R)) : spec_NewCrew_K5 := fun x1 x2 x3 x4 => k 5 (mkS [(0, sI x1), (2, sP 1), (4, sP 6), (5, sI x2)] (sv 1 tCrew tCrew.own [] x3 ++ sv 6 tCrew (.S (.cons (.O .R) (.cons (.O (.S (.cons .R (.cons .R (.cons .R (.cons .R (.cons .R (.cons .R (.cons .R (.cons .R (.cons (.O .R) (.cons .R .nil)))))))))))) (.cons (.O .R) (.cons (.O .R) (.cons .R .nil)))))) [] x4) [.und])
theorem s_spec_NewCrew : Sound Tryz.prog 51 0 e_spec_NewCrew := fn1 bk (fn := Tryz.f51) (fns := [(28, e_spec_l1In), (107, e_spec_NodeNew)]) ⟨s_spec_l1In, s_spec_NodeNew, trivial⟩ (by kernel_rfl) (by kernel_rfl) spec_NewCrew_T spec_NewCrew_O spec_NewCrew_b5 spec_NewCrew_L5 (fun k x => spec_NewCrew_s k x.1) (by kernel_rfl) (fun _ => by kernel_rfl) (fun _ => rfl) (fun _ _ => by kernel_rfl) (fun _ => by kernel_rfl)

/-! spec.NewWorld -/
noncomputable def e_spec_NewWorld : Entry := ⟨[vr tSetup], [rr tWorld, rr .bool], spec_NewWorld⟩
def spec_NewWorld_T : List (Nat × Tpl) := [(6, ⟨[(1, .ptr 1), (2, .ptr 2), (6, .ptr 10), (7, tk)], tv 1 tSetup .R [] ++ tv 2 tWorld tWorld.own [] ++ tv 10 tWorld (.S (.cons .R (.cons (.O .R) (.cons (.O .R) (.cons (.O .R) .nil))))) [], [.drop]⟩), (9, ⟨[(1, .ptr 1), (2, .ptr 2), (6, .ptr 10), (7, tk), (8, tk)], tv 1 tSetup .R [] ++ tv 2 tWorld tWorld.own [] ++ tv 10 tWorld (.S (.cons .R (.cons (.O .R) (.cons (.O .R) (.cons (.O .R) .nil))))) [], [.drop]⟩)]
def spec_NewWorld_O (k : Nat → St → Option (spec_NewWorld_R)) : spec_NewWorld_K := ⟨fun x1 x2 x3 x4 => k 6 (mkS [(1, sP 1), (2, sP 2), (6, sP 10), (7, sI x1)] (sv 1 tSetup .R [] x2 ++ sv 2 tWorld tWorld.own [] x3 ++ sv 10 tWorld (.S (.cons .R (.cons (.O .R) (.cons (.O .R) (.cons (.O .R) .nil))))) [] x4) [.und]), fun x1 x2 x3 x4 x5 => k 9 (mkS [(1, sP 1), (2, sP 2), (6, sP 10), (7, sI x1), (8, sI x2)] (sv 1 tSetup .R [] x3 ++ sv 2 tWorld tWorld.own [] x4 ++ sv 10 tWorld (.S (.cons .R (.cons (.O .R) (.cons (.O .R) (.cons (.O .R) .nil))))) [] x5) [.und])⟩
theorem s_spec_NewWorld : Sound Tryz.prog 14 0 e_spec_NewWorld := fn1 bk (fn := Tryz.f14) (fns := [(28, e_spec_l1In), (51, e_spec_NewCrew)]) ⟨s_spec_l1In, s_spec_NewCrew, trivial⟩ (by kernel_rfl) (by kernel_rfl) spec_NewWorld_T spec_NewWorld_O spec_NewWorld_N spec_NewWorld_L (fun k x => spec_NewWorld_s k x.1) (by kernel_rfl) (fun _ => by kernel_rfl) (fun _ => rfl) (fun _ _ => by kernel_rfl) (fun _ => by kernel_rfl)

/-! laws.toSetup -/
noncomputable def e_laws_toSetup : Entry := ⟨[vr tSetup], [rr tSetup], laws_toSetup⟩
theorem s_laws_toSetup : Sound Tryz.prog 15 0 e_laws_toSetup := fn0 bk (fn := Tryz.f15) (fns := []) trivial (by kernel_rfl) (by kernel_rfl) fun _ => by kernel_rfl

/-! impl.within -/
noncomputable def e_impl_within : Entry := ⟨[vr (.int .i64), vr (.int .i64), vr (.int .i64)], [rr .bool], impl_within⟩
theorem s_impl_within : Sound Tryz.prog 39 0 e_impl_within := fn0 bk (fn := Tryz.f39) (fns := []) trivial (by kernel_rfl) (by kernel_rfl) fun _ => by kernel_rfl

/-! impl.KeptOk -/
noncomputable def e_impl_KeptOk : Entry := ⟨[vr tKept], [rr .bool], impl_KeptOk⟩
def impl_KeptOk_T : List (Nat × Tpl) := [(7, ⟨[(1, .ptr 1), (3, tk), (54, .cell (.lst tEntry [])), (55, tk), (56, tk)], tv 1 tKept .R [], [.drop]⟩)]
def impl_KeptOk_O (k : Nat → St → Option (Bool × Unit)) : impl_KeptOk_K7 := fun x1 x2 x3 x4 x5 => k 7 (mkS [(1, sP 1), (3, sI x1), (54, sL tEntry x2), (55, sI x3), (56, sI x4)] (sv 1 tKept .R [] x5) [.und])
theorem s_impl_KeptOk : Sound Tryz.prog 255 0 e_impl_KeptOk := fn1 bk (fn := Tryz.f255) (fns := [(39, e_impl_within)]) ⟨s_impl_within, trivial⟩ (by kernel_rfl) (by kernel_rfl) impl_KeptOk_T impl_KeptOk_O impl_KeptOk_b7 impl_KeptOk_L7 (fun k x => impl_KeptOk_s k x.1) (by kernel_rfl) (fun _ => by kernel_rfl) (fun _ => rfl) (fun _ _ => by kernel_rfl) (fun _ => by kernel_rfl)

/-! impl.copyKept -/
noncomputable def e_impl_copyKept : Entry := ⟨[vr tKept], [ro tKept], impl_copyKept⟩
theorem s_impl_copyKept : Sound Tryz.prog 256 0 e_impl_copyKept := fn0 bk (fn := Tryz.f256) (fns := []) trivial (by kernel_rfl) (by kernel_rfl) fun _ => by kernel_rfl

/-! impl.RecOk -/
noncomputable def e_impl_RecOk : Entry := ⟨[vr tRec], [rr .bool], impl_RecOk⟩
theorem s_impl_RecOk : Sound Tryz.prog 294 0 e_impl_RecOk := fn0 bk (fn := Tryz.f294) (fns := [(39, e_impl_within)]) ⟨s_impl_within, trivial⟩ (by kernel_rfl) (by kernel_rfl) fun _ => by kernel_rfl

/-! impl.Kept).last -/
noncomputable def e_impl_Kept_last : Entry := ⟨[vp tKept], [rr (.int .i64), rr (.int .i64)], impl_Kept_last⟩
theorem s_impl_Kept_last : Sound Tryz.prog 319 0 e_impl_Kept_last := fn0 bk (fn := Tryz.f319) (fns := []) trivial (by kernel_rfl) (by kernel_rfl) fun _ => by kernel_rfl

/-! impl.Kept).fits -/
noncomputable def e_impl_Kept_fits : Entry := ⟨[vp tKept, vr tRec], [rr .bool], impl_Kept_fits⟩
theorem s_impl_Kept_fits : Sound Tryz.prog 295 0 e_impl_Kept_fits := fn0 bk (fn := Tryz.f295) (fns := [(39, e_impl_within), (319, e_impl_Kept_last)]) ⟨s_impl_within, s_impl_Kept_last, trivial⟩ (by kernel_rfl) (by kernel_rfl) fun _ => by kernel_rfl

/-! impl.Kept).step -/
noncomputable def e_impl_Kept_step : Entry := ⟨[vq tKept, vr tRec], [rr .bool], impl_Kept_step⟩
theorem s_impl_Kept_step : Sound Tryz.prog 257 0 e_impl_Kept_step := fn0 bk (fn := Tryz.f257) (fns := [(294, e_impl_RecOk), (295, e_impl_Kept_fits)]) ⟨s_impl_RecOk, s_impl_Kept_fits, trivial⟩ (by kernel_rfl) (by kernel_rfl) fun _ => by kernel_rfl

/-! impl.Store).held -/
noncomputable def e_impl_Store_held : Entry := ⟨[vp tStore], [ro tKept, rr .bool], impl_Store_held⟩
def impl_Store_held_T : List (Nat × Tpl) := [(5, ⟨[(2, .ptr 1), (4, .ptr 3), (30, .cell (.lst tRec [])), (31, tk), (32, tk)], tv 1 tKept tKept.own [] ++ tv 3 tKept tKept.own [], [.drop]⟩)]
def impl_Store_held_O (k : Nat → St → Option (impl_Store_held_R)) : impl_Store_held_K5 := fun x1 x2 x3 x4 x5 => k 5 (mkS [(2, sP 1), (4, sP 3), (30, sL tRec x1), (31, sI x2), (32, sI x3)] (sv 1 tKept tKept.own [] x4 ++ sv 3 tKept tKept.own [] x5) [.und])
theorem s_impl_Store_held : Sound Tryz.prog 211 0 e_impl_Store_held := fn1 bk (fn := Tryz.f211) (fns := [(255, e_impl_KeptOk), (256, e_impl_copyKept), (257, e_impl_Kept_step)]) ⟨s_impl_KeptOk, s_impl_copyKept, s_impl_Kept_step, trivial⟩ (by kernel_rfl) (by kernel_rfl) impl_Store_held_T impl_Store_held_O impl_Store_held_b5 impl_Store_held_L5 (fun k x => impl_Store_held_s k x.1) (by kernel_rfl) (fun _ => by kernel_rfl) (fun _ => rfl) (fun _ _ => by kernel_rfl) (fun _ => by kernel_rfl)

/-! impl.StoreOk -/
noncomputable def e_impl_StoreOk : Entry := ⟨[vr tStore], [rr .bool], impl_StoreOk⟩
theorem s_impl_StoreOk : Sound Tryz.prog 155 0 e_impl_StoreOk := fn0 bk (fn := Tryz.f155) (fns := [(211, e_impl_Store_held)]) ⟨s_impl_Store_held, trivial⟩ (by kernel_rfl) (by kernel_rfl) fun _ => by kernel_rfl

/-! impl.Node).upOk -/
noncomputable def e_impl_Node_upOk : Entry := ⟨[vp tNode], [rr .bool], impl_Node_upOk⟩
theorem s_impl_Node_upOk : SoundX Tryz.prog 156 0 e_impl_Node_upOk := stub_soundX fun _ => rfl

/-! impl.isNoCore -/
noncomputable def e_impl_isNoCore : Entry := ⟨[vr tCore], [rr .bool], impl_isNoCore⟩
theorem s_impl_isNoCore : Sound Tryz.prog 157 0 e_impl_isNoCore := fn0 bk (fn := Tryz.f157) (fns := []) trivial (by kernel_rfl) (by kernel_rfl) fun _ => by kernel_rfl

/-! impl.NodeOk -/
noncomputable def e_impl_NodeOk : Entry := ⟨[vr tNode], [rr .bool], impl_NodeOk⟩
def impl_NodeOk_T : List (Nat × Tpl) := [(3, ⟨[(1, .ptr 1)], tv 1 tNode .R [], [.drop]⟩)]
def impl_NodeOk_O (k : Nat → St → Option (Bool × Unit)) : impl_NodeOk_K3 := fun x1 => k 3 (mkS [(1, sP 1)] (sv 1 tNode .R [] x1) [.und])
theorem s_impl_NodeOk : Sound Tryz.prog 100 0 e_impl_NodeOk := fn1 bk (fn := Tryz.f100) (fns := [(39, e_impl_within), (155, e_impl_StoreOk), (156, e_impl_Node_upOk), (157, e_impl_isNoCore)]) ⟨s_impl_within, s_impl_StoreOk, s_impl_Node_upOk, s_impl_isNoCore, trivial⟩ (by kernel_rfl) (by kernel_rfl) impl_NodeOk_T impl_NodeOk_O impl_NodeOk_b3 impl_NodeOk_L3 (fun k x => impl_NodeOk_s k x.1) (by kernel_rfl) (fun _ => by kernel_rfl) (fun _ => rfl) (fun _ _ => by kernel_rfl) (fun _ => by kernel_rfl)

/-! impl.copyInts -/
noncomputable def e_impl_copyInts : Entry := ⟨[vr (.sl (.int .i64))], [ro (.sl (.int .i64))], impl_copyInts⟩
theorem s_impl_copyInts : Sound Tryz.prog 306 0 e_impl_copyInts := fn0 bk (fn := Tryz.f306) (fns := []) trivial (by kernel_rfl) (by kernel_rfl) fun _ => by kernel_rfl

/-! impl.copyCore -/
noncomputable def e_impl_copyCore : Entry := ⟨[vr tCore], [ro tCore], impl_copyCore⟩
theorem s_impl_copyCore : Sound Tryz.prog 268 0 e_impl_copyCore := fn0 bk (fn := Tryz.f268) (fns := [(306, e_impl_copyInts)]) ⟨s_impl_copyInts, trivial⟩ (by kernel_rfl) (by kernel_rfl) fun _ => by kernel_rfl

/-! impl.copyVol -/
noncomputable def e_impl_copyVol : Entry := ⟨[vr tVol], [ro tVol], impl_copyVol⟩
def impl_copyVol_T : List (Nat × Tpl) := [(3, ⟨[(2, .ptr 1), (3, .ptr 3), (10, .cell (.lst tInode [])), (11, tk), (12, tk)], tv 1 tVol tVol.own [] ++ tv 3 tVol tVol.own [], [.drop]⟩)]
def impl_copyVol_O (k : Nat → St → Option (tVol.D × Unit)) : impl_copyVol_K3 := fun x1 x2 x3 x4 x5 => k 3 (mkS [(2, sP 1), (3, sP 3), (10, sL tInode x1), (11, sI x2), (12, sI x3)] (sv 1 tVol tVol.own [] x4 ++ sv 3 tVol tVol.own [] x5) [.und])
theorem s_impl_copyVol : Sound Tryz.prog 333 0 e_impl_copyVol := fn1 bk (fn := Tryz.f333) (fns := []) trivial (by kernel_rfl) (by kernel_rfl) impl_copyVol_T impl_copyVol_O impl_copyVol_b3 impl_copyVol_L3 (fun k x => impl_copyVol_s k x.1) (by kernel_rfl) (fun _ => by kernel_rfl) (fun _ => rfl) (fun _ _ => by kernel_rfl) (fun _ => by kernel_rfl)

/-! impl.copyTenant -/
noncomputable def e_impl_copyTenant : Entry := ⟨[vr tTenant], [ro tTenant], impl_copyTenant⟩
theorem s_impl_copyTenant : Sound Tryz.prog 307 0 e_impl_copyTenant := fn0 bk (fn := Tryz.f307) (fns := [(333, e_impl_copyVol)]) ⟨s_impl_copyVol, trivial⟩ (by kernel_rfl) (by kernel_rfl) fun _ => by kernel_rfl

/-! impl.copyTenants -/
noncomputable def e_impl_copyTenants : Entry := ⟨[vr (.sl tTenant)], [ro (.sl tTenant)], impl_copyTenants⟩
def impl_copyTenants_T : List (Nat × Tpl) := [(3, ⟨[(3, .cell (.hd 1)), (6, .cell (.lst tTenant [])), (7, tk), (8, tk)], [(1, .row tTenant (.S (.cons (.S (.cons .R (.cons (.O (.S (.cons .R (.cons .R (.cons .R (.cons .R (.cons .R (.cons .R (.cons (.O .R) (.cons .R (.cons .R .nil))))))))))) .nil))) (.cons .R (.cons (.O .R) (.cons (.O .R) .nil))))))], [.drop]⟩)]
def impl_copyTenants_O (k : Nat → St → Option (impl_copyTenants_R)) : impl_copyTenants_K3 := fun x1 x2 x3 x4 => k 3 (mkS [(3, .sc (.hd 1 none)), (6, sL tTenant x1), (7, sI x2), (8, sI x3)] [(1, .row tTenant (.S (.cons (.S (.cons .R (.cons (.O (.S (.cons .R (.cons .R (.cons .R (.cons .R (.cons .R (.cons .R (.cons (.O .R) (.cons .R (.cons .R .nil))))))))))) .nil))) (.cons .R (.cons (.O .R) (.cons (.O .R) .nil))))) 0 x4)] [.und])
theorem s_impl_copyTenants : Sound Tryz.prog 269 0 e_impl_copyTenants := fn1 bk (fn := Tryz.f269) (fns := [(307, e_impl_copyTenant)]) ⟨s_impl_copyTenant, trivial⟩ (by kernel_rfl) (by kernel_rfl) impl_copyTenants_T impl_copyTenants_O impl_copyTenants_b3 impl_copyTenants_L3 (fun k x => impl_copyTenants_s k x.1) (by kernel_rfl) (fun _ => by kernel_rfl) (fun _ => rfl) (fun _ _ => by kernel_rfl) (fun _ => by kernel_rfl)

/-! impl.copyStore -/
noncomputable def e_impl_copyStore : Entry := ⟨[vr tStore], [ro tStore], impl_copyStore⟩
theorem s_impl_copyStore : Sound Tryz.prog 270 0 e_impl_copyStore := fn0 bk (fn := Tryz.f270) (fns := [(256, e_impl_copyKept)]) ⟨s_impl_copyKept, trivial⟩ (by kernel_rfl) (by kernel_rfl) fun _ => by kernel_rfl

/-! impl.copyNode -/
noncomputable def e_impl_copyNode : Entry := ⟨[vr tNode], [ro tNode], impl_copyNode⟩
theorem s_impl_copyNode : Sound Tryz.prog 225 0 e_impl_copyNode := fn0 bk (fn := Tryz.f225) (fns := [(268, e_impl_copyCore), (269, e_impl_copyTenants), (270, e_impl_copyStore)]) ⟨s_impl_copyCore, s_impl_copyTenants, s_impl_copyStore, trivial⟩ (by kernel_rfl) (by kernel_rfl) fun _ => by kernel_rfl

/-! impl.ReadState -/
noncomputable def e_impl_ReadState : Entry := ⟨[vr .str], [ro (.sl tTenant), rr .bool], impl_ReadState⟩
theorem s_impl_ReadState : SoundX Tryz.prog 214 0 e_impl_ReadState := stub_soundX fun _ => rfl

/-! impl.Core).last -/
noncomputable def e_impl_Core_last : Entry := ⟨[vp tCore], [rr (.int .i64)], impl_Core_last⟩
theorem s_impl_Core_last : Sound Tryz.prog 50 0 e_impl_Core_last := fn0 bk (fn := Tryz.f50) (fns := []) trivial (by kernel_rfl) (by kernel_rfl) fun _ => by kernel_rfl

/-! impl.Core).kept -/
noncomputable def e_impl_Core_kept : Entry := ⟨[vp tCore, vr .str], [ro tKept], impl_Core_kept⟩
theorem s_impl_Core_kept : Sound Tryz.prog 216 0 e_impl_Core_kept := fn0 bk (fn := Tryz.f216) (fns := []) trivial (by kernel_rfl) (by kernel_rfl) fun _ => by kernel_rfl

/-! slices.Index[[]int,int] -/
noncomputable def e_slices_Index_int_int : Entry := ⟨[vr (.sl (.int .i64)), vr (.int .i64)], [rr (.int .i64)], slices_Index_int_int⟩
def slices_Index_int_int_T : List (Nat × Tpl) := [(2, ⟨[(0, .cell (.lst (.int .i64) [])), (1, tk), (7, tk), (8, tk)], [], [.drop, .drop]⟩)]
def slices_Index_int_int_O (k : Nat → St → Option (Int × Unit)) : slices_Index_int_int_K2 := fun x1 x2 x3 x4 => k 2 (mkS [(0, sL (.int .i64) x1), (1, sI x2), (7, sI x3), (8, sI x4)] [] [.und, .und])
theorem s_slices_Index_int_int : Sound Tryz.prog 320 0 e_slices_Index_int_int := fn1 bk (fn := Tryz.f320) (fns := []) trivial (by kernel_rfl) (by kernel_rfl) slices_Index_int_int_T slices_Index_int_int_O slices_Index_int_int_b2 slices_Index_int_int_L2 (fun k x => slices_Index_int_int_s k x.1 x.2.1) (by kernel_rfl) (fun _ => by kernel_rfl) (fun _ => rfl) (fun _ _ => by kernel_rfl) (fun _ => by kernel_rfl)

/-! slices.Contains[[]int,int] -/
noncomputable def e_slices_Contains_int_int : Entry := ⟨[vr (.sl (.int .i64)), vr (.int .i64)], [rr .bool], slices_Contains_int_int⟩
theorem s_slices_Contains_int_int : Sound Tryz.prog 296 0 e_slices_Contains_int_int := fn0 bk (fn := Tryz.f296) (fns := [(320, e_slices_Index_int_int)]) ⟨s_slices_Index_int_int, trivial⟩ (by kernel_rfl) (by kernel_rfl) fun _ => by kernel_rfl

/-! impl.Core).isMost -/
noncomputable def e_impl_Core_isMost : Entry := ⟨[vp tCore, vr (.int .i64)], [rr .bool], impl_Core_isMost⟩
theorem s_impl_Core_isMost : Sound Tryz.prog 297 0 e_impl_Core_isMost := fn0 bk (fn := Tryz.f297) (fns := []) trivial (by kernel_rfl) (by kernel_rfl) fun _ => by kernel_rfl

/-! impl.Core).seekOk -/
noncomputable def e_impl_Core_seekOk : Entry := ⟨[vp tCore], [rr .bool], impl_Core_seekOk⟩
def impl_Core_seekOk_T : List (Nat × Tpl) := [(2, ⟨[(0, .rp [] (tc tCore .R [] 0)), (8, .cell (.lst (.int .i64) [])), (9, tk), (10, tk)], [], [.drop]⟩)]
def impl_Core_seekOk_O (k : Nat → St → Option (Bool × Unit)) : impl_Core_seekOk_K2 := fun x1 x2 x3 x4 => k 2 (mkS [(0, .rp (dp1 []) (sc tCore .R [] x1 0) 0), (8, sL (.int .i64) x2), (9, sI x3), (10, sI x4)] [] [.und])
theorem s_impl_Core_seekOk : Sound Tryz.prog 258 0 e_impl_Core_seekOk := fn1 bk (fn := Tryz.f258) (fns := [(39, e_impl_within), (296, e_slices_Contains_int_int), (297, e_impl_Core_isMost)]) ⟨s_impl_within, s_slices_Contains_int_int, s_impl_Core_isMost, trivial⟩ (by kernel_rfl) (by kernel_rfl) impl_Core_seekOk_T impl_Core_seekOk_O impl_Core_seekOk_b2 impl_Core_seekOk_L2 (fun k x => impl_Core_seekOk_s k x.1) (by kernel_rfl) (fun _ => by kernel_rfl) (fun _ => rfl) (fun _ _ => by kernel_rfl) (fun _ => by kernel_rfl)

/-! impl.Core).leadOk -/
noncomputable def e_impl_Core_leadOk : Entry := ⟨[vp tCore], [rr .bool], impl_Core_leadOk⟩
def impl_Core_leadOk_T : List (Nat × Tpl) := [(4, ⟨[(0, .rp [] (tc tCore .R [] 0)), (67, .cell (.lst (.int .i64) [])), (68, tk), (69, tk)], [], [.drop]⟩)]
def impl_Core_leadOk_O (k : Nat → St → Option (Bool × Unit)) : impl_Core_leadOk_K4 := fun x1 x2 x3 x4 => k 4 (mkS [(0, .rp (dp1 []) (sc tCore .R [] x1 0) 0), (67, sL (.int .i64) x2), (68, sI x3), (69, sI x4)] [] [.und])
theorem s_impl_Core_leadOk : Sound Tryz.prog 259 0 e_impl_Core_leadOk := fn1 bk (fn := Tryz.f259) (fns := [(50, e_impl_Core_last)]) ⟨s_impl_Core_last, trivial⟩ (by kernel_rfl) (by kernel_rfl) impl_Core_leadOk_T impl_Core_leadOk_O impl_Core_leadOk_b4 impl_Core_leadOk_L4 (fun k x => impl_Core_leadOk_s k x.1) (by kernel_rfl) (fun _ => by kernel_rfl) (fun _ => rfl) (fun _ _ => by kernel_rfl) (fun _ => by kernel_rfl)

/-! impl.CoreOk -/
noncomputable def e_impl_CoreOk : Entry := ⟨[vr tCore], [rr .bool], impl_CoreOk⟩
def impl_CoreOk_T : List (Nat × Tpl) := [(3, ⟨[(1, .ptr 1)], tv 1 tCore .R [], [.drop]⟩)]
def impl_CoreOk_O (k : Nat → St → Option (Bool × Unit)) : impl_CoreOk_K3 := fun x1 => k 3 (mkS [(1, sP 1)] (sv 1 tCore .R [] x1) [.und])
theorem s_impl_CoreOk : Sound Tryz.prog 212 0 e_impl_CoreOk := fn1 bk (fn := Tryz.f212) (fns := [(39, e_impl_within), (50, e_impl_Core_last), (216, e_impl_Core_kept), (255, e_impl_KeptOk), (258, e_impl_Core_seekOk), (259, e_impl_Core_leadOk)]) ⟨s_impl_within, s_impl_Core_last, s_impl_Core_kept, s_impl_KeptOk, s_impl_Core_seekOk, s_impl_Core_leadOk, trivial⟩ (by kernel_rfl) (by kernel_rfl) impl_CoreOk_T impl_CoreOk_O impl_CoreOk_b3 impl_CoreOk_L3 (fun k x => impl_CoreOk_s k x.1) (by kernel_rfl) (fun _ => by kernel_rfl) (fun _ => rfl) (fun _ _ => by kernel_rfl) (fun _ => by kernel_rfl)

/-! impl.CoreOf -/
noncomputable def e_impl_CoreOf : Entry := ⟨[vr (.int .i64), vr (.int .i64), vr tKept], [ro tCore, rr .bool], impl_CoreOf⟩
theorem s_impl_CoreOf : Sound Tryz.prog 271 0 e_impl_CoreOf := fn0 bk (fn := Tryz.f271) (fns := [(212, e_impl_CoreOk), (255, e_impl_KeptOk)]) ⟨s_impl_CoreOk, s_impl_KeptOk, trivial⟩ (by kernel_rfl) (by kernel_rfl) fun _ => by kernel_rfl

/-! impl.NewVol -/
noncomputable def e_impl_NewVol : Entry := ⟨[], [ro tVol], impl_NewVol⟩
theorem s_impl_NewVol : Sound Tryz.prog 334 0 e_impl_NewVol := fn0 bk (fn := Tryz.f334) (fns := []) trivial (by kernel_rfl) (by kernel_rfl) fun _ => by kernel_rfl

/-! impl.NewTenant -/
noncomputable def e_impl_NewTenant : Entry := ⟨[], [ro tTenant], impl_NewTenant⟩
theorem s_impl_NewTenant : Sound Tryz.prog 308 0 e_impl_NewTenant := fn0 bk (fn := Tryz.f308) (fns := [(334, e_impl_NewVol)]) ⟨s_impl_NewVol, trivial⟩ (by kernel_rfl) (by kernel_rfl) fun _ => by kernel_rfl

/-! impl.NewState -/
noncomputable def e_impl_NewState : Entry := ⟨[], [ro (.sl tTenant)], impl_NewState⟩
def impl_NewState_T : List (Nat × Tpl) := [(3, ⟨[(1, .cell (.hd 1)), (3, tk)], [(1, .row tTenant (.S (.cons (.S (.cons .R (.cons (.O (.S (.cons .R (.cons .R (.cons .R (.cons .R (.cons .R (.cons .R (.cons (.O .R) (.cons .R (.cons .R .nil))))))))))) .nil))) (.cons .R (.cons (.O .R) (.cons (.O .R) .nil))))))], []⟩)]
def impl_NewState_O (k : Nat → St → Option (impl_NewState_R)) : impl_NewState_K3 := fun x1 x2 => k 3 (mkS [(1, .sc (.hd 1 none)), (3, sI x1)] [(1, .row tTenant (.S (.cons (.S (.cons .R (.cons (.O (.S (.cons .R (.cons .R (.cons .R (.cons .R (.cons .R (.cons .R (.cons (.O .R) (.cons .R (.cons .R .nil))))))))))) .nil))) (.cons .R (.cons (.O .R) (.cons (.O .R) .nil))))) 0 x2)] [])
theorem s_impl_NewState : Sound Tryz.prog 272 0 e_impl_NewState := fn1 bk (fn := Tryz.f272) (fns := [(308, e_impl_NewTenant)]) ⟨s_impl_NewTenant, trivial⟩ (by kernel_rfl) (by kernel_rfl) impl_NewState_T impl_NewState_O impl_NewState_b3 impl_NewState_L3 (fun k x => impl_NewState_s k ) (by kernel_rfl) (fun _ => by kernel_rfl) (fun _ => rfl) (fun _ _ => by kernel_rfl) (fun _ => by kernel_rfl)

/-! impl.Node).rise -/
noncomputable def e_impl_Node_rise : Entry := ⟨[vq tNode], [rr .bool], impl_Node_rise⟩
theorem s_impl_Node_rise : Sound Tryz.prog 226 0 e_impl_Node_rise := fn0 bk (fn := Tryz.f226) (fns := [(214, e_impl_ReadState), (271, e_impl_CoreOf), (272, e_impl_NewState)]) ⟨s_impl_ReadState, s_impl_CoreOf, s_impl_NewState, trivial⟩ (by kernel_rfl) (by kernel_rfl) fun _ => by kernel_rfl

/-! impl.NodeRise -/
noncomputable def e_impl_NodeRise : Entry := ⟨[vr tNode], [ro tNode, rr .bool], impl_NodeRise⟩
theorem s_impl_NodeRise : Sound Tryz.prog 166 0 e_impl_NodeRise := fn0 bk (fn := Tryz.f166) (fns := [(100, e_impl_NodeOk), (225, e_impl_copyNode), (226, e_impl_Node_rise)]) ⟨s_impl_NodeOk, s_impl_copyNode, s_impl_Node_rise, trivial⟩ (by kernel_rfl) (by kernel_rfl) fun _ => by kernel_rfl

/-! impl.NewStore -/
noncomputable def e_impl_NewStore : Entry := ⟨[], [ro tStore], impl_NewStore⟩
theorem s_impl_NewStore : Sound Tryz.prog 167 0 e_impl_NewStore := fn0 bk (fn := Tryz.f167) (fns := []) trivial (by kernel_rfl) (by kernel_rfl) fun _ => by kernel_rfl

/-! impl.NodeNew -/
noncomputable def e_impl_NodeNew : Entry := ⟨[vr (.int .i64), vr (.int .i64)], [ro tNode, rr .bool], impl_NodeNew⟩
theorem s_impl_NodeNew : Sound Tryz.prog 108 0 e_impl_NodeNew := fn0 bk (fn := Tryz.f108) (fns := [(39, e_impl_within), (166, e_impl_NodeRise), (167, e_impl_NewStore)]) ⟨s_impl_within, s_impl_NodeRise, s_impl_NewStore, trivial⟩ (by kernel_rfl) (by kernel_rfl) fun _ => by kernel_rfl

/-! impl.NewCrew -/
noncomputable def e_impl_NewCrew : Entry := ⟨[vr (.int .i64)], [ro tCrew, rr .bool], impl_NewCrew⟩
def impl_NewCrew_T : List (Nat × Tpl) := [(5, ⟨[(0, tk), (2, .ptr 1), (4, .ptr 6), (13, tk), (14, tk)], tv 1 tCrew tCrew.own [] ++ tv 6 tCrew tCrew.own [], [.drop]⟩)]
def impl_NewCrew_O (k : Nat → St → Option (impl_NewCrew_R)) : impl_NewCrew_K5 := fun x1 x2 x3 x4 x5 => k 5 (mkS [(0, sI x1), (2, sP 1), (4, sP 6), (13, sI x2), (14, sI x3)] (sv 1 tCrew tCrew.own [] x4 ++ sv 6 tCrew tCrew.own [] x5) [.und])
theorem s_impl_NewCrew : Sound Tryz.prog 52 0 e_impl_NewCrew := fn1 bk (fn := Tryz.f52) (fns := [(39, e_impl_within), (108, e_impl_NodeNew)]) ⟨s_impl_within, s_impl_NodeNew, trivial⟩ (by kernel_rfl) (by kernel_rfl) impl_NewCrew_T impl_NewCrew_O impl_NewCrew_b5 impl_NewCrew_L5 (fun k x => impl_NewCrew_s k x.1) (by kernel_rfl) (fun _ => by kernel_rfl) (fun _ => rfl) (fun _ _ => by kernel_rfl) (fun _ => by kernel_rfl)

/-! impl.NewWorld -/
noncomputable def e_impl_NewWorld : Entry := ⟨[vr tSetup], [ro tWorld, rr .bool], impl_NewWorld⟩
def impl_NewWorld_T : List (Nat × Tpl) := [(6, ⟨[(1, .ptr 1), (2, .ptr 2), (6, .ptr 10), (27, tk)], tv 1 tSetup .R [] ++ tv 2 tWorld tWorld.own [] ++ tv 10 tWorld tWorld.own [], [.drop]⟩), (9, ⟨[(1, .ptr 1), (2, .ptr 2), (6, .ptr 10), (7, tk), (27, tk), (31, tk), (32, tk)], tv 1 tSetup .R [] ++ tv 2 tWorld tWorld.own [] ++ tv 10 tWorld tWorld.own [], [.drop]⟩)]
def impl_NewWorld_O (k : Nat → St → Option (impl_NewWorld_R)) : impl_NewWorld_K := ⟨fun x1 x2 x3 x4 => k 6 (mkS [(1, sP 1), (2, sP 2), (6, sP 10), (27, sI x1)] (sv 1 tSetup .R [] x2 ++ sv 2 tWorld tWorld.own [] x3 ++ sv 10 tWorld tWorld.own [] x4) [.und]), fun x1 x2 x3 x4 x5 x6 x7 => k 9 (mkS [(1, sP 1), (2, sP 2), (6, sP 10), (7, sI x1), (27, sI x2), (31, sI x3), (32, sI x4)] (sv 1 tSetup .R [] x5 ++ sv 2 tWorld tWorld.own [] x6 ++ sv 10 tWorld tWorld.own [] x7) [.und])⟩
theorem s_impl_NewWorld : Sound Tryz.prog 16 0 e_impl_NewWorld := fn1 bk (fn := Tryz.f16) (fns := [(39, e_impl_within), (52, e_impl_NewCrew)]) ⟨s_impl_within, s_impl_NewCrew, trivial⟩ (by kernel_rfl) (by kernel_rfl) impl_NewWorld_T impl_NewWorld_O impl_NewWorld_N impl_NewWorld_L (fun k x => impl_NewWorld_s k x.1) (by kernel_rfl) (fun _ => by kernel_rfl) (fun _ => rfl) (fun _ _ => by kernel_rfl) (fun _ => by kernel_rfl)

/-! laws.markIntS -/
noncomputable def e_laws_markIntS : Entry := ⟨[vw (.sl (.int .i64)), vr (.int .i64)], [rr (.int .i64)], laws_markIntS⟩
def laws_markIntS_T : List (Nat × Tpl) := [(2, ⟨[(0, .cell (.hd 1)), (1, tk), (5, tk)], [(1, .row (.int .i64) .R)], [.cell (.hd 1), .drop]⟩)]
def laws_markIntS_O (k : Nat → St → Option (laws_markIntS_R)) : laws_markIntS_K2 := fun x1 x2 x3 => k 2 (mkS [(0, .sc (.hd 1 none)), (1, sI x1), (5, sI x2)] [(1, .row (.int .i64) .R 0 x3)] [.sc (.hd 1 none), .und])
theorem s_laws_markIntS : Sound Tryz.prog 56 0 e_laws_markIntS := fn1 bk (fn := Tryz.f56) (fns := []) trivial (by kernel_rfl) (by kernel_rfl) laws_markIntS_T laws_markIntS_O laws_markIntS_b2 laws_markIntS_L2 (fun k x => laws_markIntS_s k x.1 x.2.1) (by kernel_rfl) (fun _ => by kernel_rfl) (fun _ => rfl) (fun _ _ => by kernel_rfl) (fun _ => by kernel_rfl)

/-! laws.markText -/
noncomputable def e_laws_markText : Entry := ⟨[vr (.int .i64)], [rr .str], laws_markText⟩
def laws_markText_T : List (Nat × Tpl) := [(4, ⟨[(0, tk), (3, tk)], [], [.drop]⟩)]
def laws_markText_O (k : Nat → St → Option ((List UInt8) × Unit)) : laws_markText_K4 := fun x1 x2 => k 4 (mkS [(0, sI x1), (3, sS x2)] [] [.und])
theorem s_laws_markText : Sound Tryz.prog 113 0 e_laws_markText := fn1 bk (fn := Tryz.f113) (fns := []) trivial (by kernel_rfl) (by kernel_rfl) laws_markText_T laws_markText_O laws_markText_b4 laws_markText_L4 (fun k x => laws_markText_s k x.1) (by kernel_rfl) (fun _ => by kernel_rfl) (fun _ => rfl) (fun _ _ => by kernel_rfl) (fun _ => by kernel_rfl)

/-! laws.markEntryS -/
noncomputable def e_laws_markEntryS : Entry := ⟨[vw (.sl tEntry), vr (.int .i64)], [rr (.int .i64)], laws_markEntryS⟩
def laws_markEntryS_T : List (Nat × Tpl) := [(2, ⟨[(0, .cell (.hd 1)), (1, tk), (5, tk)], [(1, .row tEntry .R)], [.cell (.hd 1), .drop]⟩)]
def laws_markEntryS_O (k : Nat → St → Option (laws_markEntryS_R)) : laws_markEntryS_K2 := fun x1 x2 x3 => k 2 (mkS [(0, .sc (.hd 1 none)), (1, sI x1), (5, sI x2)] [(1, .row tEntry .R 0 x3)] [.sc (.hd 1 none), .und])
theorem s_laws_markEntryS : Sound Tryz.prog 112 0 e_laws_markEntryS := fn1 bk (fn := Tryz.f112) (fns := [(113, e_laws_markText)]) ⟨s_laws_markText, trivial⟩ (by kernel_rfl) (by kernel_rfl) laws_markEntryS_T laws_markEntryS_O laws_markEntryS_b2 laws_markEntryS_L2 (fun k x => laws_markEntryS_s k x.1 x.2.1) (by kernel_rfl) (fun _ => by kernel_rfl) (fun _ => rfl) (fun _ _ => by kernel_rfl) (fun _ => by kernel_rfl)

/-! laws.markDirentS -/
noncomputable def e_laws_markDirentS : Entry := ⟨[vw (.sl tDirent), vr (.int .i64)], [rr (.int .i64)], laws_markDirentS⟩
def laws_markDirentS_T : List (Nat × Tpl) := [(2, ⟨[(0, .cell (.hd 1)), (1, tk), (5, tk)], [(1, .row tDirent .R)], [.cell (.hd 1), .drop]⟩)]
def laws_markDirentS_O (k : Nat → St → Option (laws_markDirentS_R)) : laws_markDirentS_K2 := fun x1 x2 x3 => k 2 (mkS [(0, .sc (.hd 1 none)), (1, sI x1), (5, sI x2)] [(1, .row tDirent .R 0 x3)] [.sc (.hd 1 none), .und])
theorem s_laws_markDirentS : Sound Tryz.prog 273 0 e_laws_markDirentS := fn1 bk (fn := Tryz.f273) (fns := [(113, e_laws_markText)]) ⟨s_laws_markText, trivial⟩ (by kernel_rfl) (by kernel_rfl) laws_markDirentS_T laws_markDirentS_O laws_markDirentS_b2 laws_markDirentS_L2 (fun k x => laws_markDirentS_s k x.1 x.2.1) (by kernel_rfl) (fun _ => by kernel_rfl) (fun _ => rfl) (fun _ _ => by kernel_rfl) (fun _ => by kernel_rfl)

/-! laws.markInodeS -/
noncomputable def e_laws_markInodeS : Entry := ⟨[vw (.sl tInode), vr (.int .i64)], [rr (.int .i64)], laws_markInodeS⟩
def laws_markInodeS_T : List (Nat × Tpl) := [(2, ⟨[(0, .cell (.hd 1)), (1, tk), (5, tk)], [(1, .row tInode (.S (.cons .R (.cons .R (.cons .R (.cons .R (.cons .R (.cons .R (.cons (.O .R) (.cons .R (.cons .R .nil)))))))))))], [.cell (.hd 1), .drop]⟩)]
def laws_markInodeS_O (k : Nat → St → Option (laws_markInodeS_R)) : laws_markInodeS_K2 := fun x1 x2 x3 => k 2 (mkS [(0, .sc (.hd 1 none)), (1, sI x1), (5, sI x2)] [(1, .row tInode (.S (.cons .R (.cons .R (.cons .R (.cons .R (.cons .R (.cons .R (.cons (.O .R) (.cons .R (.cons .R .nil)))))))))) 0 x3)] [.sc (.hd 1 none), .und])
theorem s_laws_markInodeS : Sound Tryz.prog 227 0 e_laws_markInodeS := fn1 bk (fn := Tryz.f227) (fns := [(113, e_laws_markText), (273, e_laws_markDirentS)]) ⟨s_laws_markText, s_laws_markDirentS, trivial⟩ (by kernel_rfl) (by kernel_rfl) laws_markInodeS_T laws_markInodeS_O laws_markInodeS_b2 laws_markInodeS_L2 (fun k x => laws_markInodeS_s k x.1 x.2.1) (by kernel_rfl) (fun _ => by kernel_rfl) (fun _ => rfl) (fun _ _ => by kernel_rfl) (fun _ => by kernel_rfl)

/-! laws.markNoteS -/
noncomputable def e_laws_markNoteS : Entry := ⟨[vw (.sl tNote), vr (.int .i64)], [rr (.int .i64)], laws_markNoteS⟩
def laws_markNoteS_T : List (Nat × Tpl) := [(2, ⟨[(0, .cell (.hd 1)), (1, tk), (5, tk)], [(1, .row tNote .R)], [.cell (.hd 1), .drop]⟩)]
def laws_markNoteS_O (k : Nat → St → Option (laws_markNoteS_R)) : laws_markNoteS_K2 := fun x1 x2 x3 => k 2 (mkS [(0, .sc (.hd 1 none)), (1, sI x1), (5, sI x2)] [(1, .row tNote .R 0 x3)] [.sc (.hd 1 none), .und])
theorem s_laws_markNoteS : Sound Tryz.prog 228 0 e_laws_markNoteS := fn1 bk (fn := Tryz.f228) (fns := []) trivial (by kernel_rfl) (by kernel_rfl) laws_markNoteS_T laws_markNoteS_O laws_markNoteS_b2 laws_markNoteS_L2 (fun k x => laws_markNoteS_s k x.1 x.2.1) (by kernel_rfl) (fun _ => by kernel_rfl) (fun _ => rfl) (fun _ _ => by kernel_rfl) (fun _ => by kernel_rfl)

/-! laws.markSessionS -/
noncomputable def e_laws_markSessionS : Entry := ⟨[vw (.sl tSession), vr (.int .i64)], [rr (.int .i64)], laws_markSessionS⟩
def laws_markSessionS_T : List (Nat × Tpl) := [(2, ⟨[(0, .cell (.hd 1)), (1, tk), (5, tk)], [(1, .row tSession .R)], [.cell (.hd 1), .drop]⟩)]
def laws_markSessionS_O (k : Nat → St → Option (laws_markSessionS_R)) : laws_markSessionS_K2 := fun x1 x2 x3 => k 2 (mkS [(0, .sc (.hd 1 none)), (1, sI x1), (5, sI x2)] [(1, .row tSession .R 0 x3)] [.sc (.hd 1 none), .und])
theorem s_laws_markSessionS : Sound Tryz.prog 229 0 e_laws_markSessionS := fn1 bk (fn := Tryz.f229) (fns := [(113, e_laws_markText)]) ⟨s_laws_markText, trivial⟩ (by kernel_rfl) (by kernel_rfl) laws_markSessionS_T laws_markSessionS_O laws_markSessionS_b2 laws_markSessionS_L2 (fun k x => laws_markSessionS_s k x.1 x.2.1) (by kernel_rfl) (fun _ => by kernel_rfl) (fun _ => rfl) (fun _ _ => by kernel_rfl) (fun _ => by kernel_rfl)

/-! laws.markTenantS -/
noncomputable def e_laws_markTenantS : Entry := ⟨[vw (.sl tTenant), vr (.int .i64)], [rr (.int .i64)], laws_markTenantS⟩
def laws_markTenantS_T : List (Nat × Tpl) := [(2, ⟨[(0, .cell (.hd 1)), (1, tk), (5, tk)], [(1, .row tTenant (.S (.cons (.S (.cons .R (.cons (.O (.S (.cons .R (.cons .R (.cons .R (.cons .R (.cons .R (.cons .R (.cons (.O .R) (.cons .R (.cons .R .nil))))))))))) .nil))) (.cons .R (.cons (.O .R) (.cons (.O .R) .nil))))))], [.cell (.hd 1), .drop]⟩)]
def laws_markTenantS_O (k : Nat → St → Option (laws_markTenantS_R)) : laws_markTenantS_K2 := fun x1 x2 x3 => k 2 (mkS [(0, .sc (.hd 1 none)), (1, sI x1), (5, sI x2)] [(1, .row tTenant (.S (.cons (.S (.cons .R (.cons (.O (.S (.cons .R (.cons .R (.cons .R (.cons .R (.cons .R (.cons .R (.cons (.O .R) (.cons .R (.cons .R .nil))))))))))) .nil))) (.cons .R (.cons (.O .R) (.cons (.O .R) .nil))))) 0 x3)] [.sc (.hd 1 none), .und])
theorem s_laws_markTenantS : Sound Tryz.prog 168 0 e_laws_markTenantS := fn1 bk (fn := Tryz.f168) (fns := [(227, e_laws_markInodeS), (228, e_laws_markNoteS), (229, e_laws_markSessionS)]) ⟨s_laws_markInodeS, s_laws_markNoteS, s_laws_markSessionS, trivial⟩ (by kernel_rfl) (by kernel_rfl) laws_markTenantS_T laws_markTenantS_O laws_markTenantS_b2 laws_markTenantS_L2 (fun k x => laws_markTenantS_s k x.1 x.2.1) (by kernel_rfl) (fun _ => by kernel_rfl) (fun _ => rfl) (fun _ _ => by kernel_rfl) (fun _ => by kernel_rfl)

/-! laws.markRecS -/
noncomputable def e_laws_markRecS : Entry := ⟨[vw (.sl tRec), vr (.int .i64)], [rr (.int .i64)], laws_markRecS⟩
def laws_markRecS_T : List (Nat × Tpl) := [(2, ⟨[(0, .cell (.hd 1)), (1, tk), (5, tk)], [(1, .row tRec .R)], [.cell (.hd 1), .drop]⟩)]
def laws_markRecS_O (k : Nat → St → Option (laws_markRecS_R)) : laws_markRecS_K2 := fun x1 x2 x3 => k 2 (mkS [(0, .sc (.hd 1 none)), (1, sI x1), (5, sI x2)] [(1, .row tRec .R 0 x3)] [.sc (.hd 1 none), .und])
theorem s_laws_markRecS : Sound Tryz.prog 169 0 e_laws_markRecS := fn1 bk (fn := Tryz.f169) (fns := [(113, e_laws_markText)]) ⟨s_laws_markText, trivial⟩ (by kernel_rfl) (by kernel_rfl) laws_markRecS_T laws_markRecS_O laws_markRecS_b2 laws_markRecS_L2 (fun k x => laws_markRecS_s k x.1 x.2.1) (by kernel_rfl) (fun _ => by kernel_rfl) (fun _ => rfl) (fun _ _ => by kernel_rfl) (fun _ => by kernel_rfl)

/-! laws.markSlotS -/
noncomputable def e_laws_markSlotS : Entry := ⟨[vw (.sl tSlot), vr (.int .i64)], [rr (.int .i64)], laws_markSlotS⟩
def laws_markSlotS_T : List (Nat × Tpl) := [(2, ⟨[(0, .cell (.hd 1)), (1, tk), (5, tk)], [(1, .row tSlot .R)], [.cell (.hd 1), .drop]⟩)]
def laws_markSlotS_O (k : Nat → St → Option (laws_markSlotS_R)) : laws_markSlotS_K2 := fun x1 x2 x3 => k 2 (mkS [(0, .sc (.hd 1 none)), (1, sI x1), (5, sI x2)] [(1, .row tSlot .R 0 x3)] [.sc (.hd 1 none), .und])
theorem s_laws_markSlotS : Sound Tryz.prog 170 0 e_laws_markSlotS := fn1 bk (fn := Tryz.f170) (fns := [(113, e_laws_markText)]) ⟨s_laws_markText, trivial⟩ (by kernel_rfl) (by kernel_rfl) laws_markSlotS_T laws_markSlotS_O laws_markSlotS_b2 laws_markSlotS_L2 (fun k x => laws_markSlotS_s k x.1 x.2.1) (by kernel_rfl) (fun _ => by kernel_rfl) (fun _ => rfl) (fun _ _ => by kernel_rfl) (fun _ => by kernel_rfl)

/-! laws.markNodeS -/
noncomputable def e_laws_markNodeS : Entry := ⟨[vw (.sl tNode), vr (.int .i64)], [rr (.int .i64)], laws_markNodeS⟩
def laws_markNodeS_T : List (Nat × Tpl) := [(2, ⟨[(0, .cell (.hd 1)), (1, tk), (5, tk)], [(1, .row tNode (.S (.cons .R (.cons .R (.cons .R (.cons (.S (.cons .R (.cons .R (.cons .R (.cons .R (.cons .R (.cons .R (.cons .R (.cons .R (.cons (.O .R) (.cons .R (.cons (.O .R) (.cons (.O .R) (.cons (.O .R) .nil)))))))))))))) (.cons (.O (.S (.cons (.S (.cons .R (.cons (.O (.S (.cons .R (.cons .R (.cons .R (.cons .R (.cons .R (.cons .R (.cons (.O .R) (.cons .R (.cons .R .nil))))))))))) .nil))) (.cons .R (.cons (.O .R) (.cons (.O .R) .nil)))))) (.cons .R (.cons (.S (.cons (.S (.cons .R (.cons .R (.cons .R (.cons (.O .R) .nil))))) (.cons (.O .R) .nil))) (.cons (.O .R) (.cons .R (.cons .R .nil))))))))))))], [.cell (.hd 1), .drop]⟩)]
def laws_markNodeS_O (k : Nat → St → Option (laws_markNodeS_R)) : laws_markNodeS_K2 := fun x1 x2 x3 => k 2 (mkS [(0, .sc (.hd 1 none)), (1, sI x1), (5, sI x2)] [(1, .row tNode (.S (.cons .R (.cons .R (.cons .R (.cons (.S (.cons .R (.cons .R (.cons .R (.cons .R (.cons .R (.cons .R (.cons .R (.cons .R (.cons (.O .R) (.cons .R (.cons (.O .R) (.cons (.O .R) (.cons (.O .R) .nil)))))))))))))) (.cons (.O (.S (.cons (.S (.cons .R (.cons (.O (.S (.cons .R (.cons .R (.cons .R (.cons .R (.cons .R (.cons .R (.cons (.O .R) (.cons .R (.cons .R .nil))))))))))) .nil))) (.cons .R (.cons (.O .R) (.cons (.O .R) .nil)))))) (.cons .R (.cons (.S (.cons (.S (.cons .R (.cons .R (.cons .R (.cons (.O .R) .nil))))) (.cons (.O .R) .nil))) (.cons (.O .R) (.cons .R (.cons .R .nil))))))))))) 0 x3)] [.sc (.hd 1 none), .und])
theorem s_laws_markNodeS : Sound Tryz.prog 109 0 e_laws_markNodeS := fn1 bk (fn := Tryz.f109) (fns := [(56, e_laws_markIntS), (112, e_laws_markEntryS), (113, e_laws_markText), (168, e_laws_markTenantS), (169, e_laws_markRecS), (170, e_laws_markSlotS)]) ⟨s_laws_markIntS, s_laws_markEntryS, s_laws_markText, s_laws_markTenantS, s_laws_markRecS, s_laws_markSlotS, trivial⟩ (by kernel_rfl) (by kernel_rfl) laws_markNodeS_T laws_markNodeS_O laws_markNodeS_b2 laws_markNodeS_L2 (fun k x => laws_markNodeS_s k x.1 x.2.1) (by kernel_rfl) (fun _ => by kernel_rfl) (fun _ => rfl) (fun _ _ => by kernel_rfl) (fun _ => by kernel_rfl)

/-! laws.markMsgS -/
noncomputable def e_laws_markMsgS : Entry := ⟨[vw (.sl tMsg), vr (.int .i64)], [rr (.int .i64)], laws_markMsgS⟩
def laws_markMsgS_T : List (Nat × Tpl) := [(2, ⟨[(0, .cell (.hd 1)), (1, tk), (5, tk)], [(1, .row tMsg (.S (.cons .R (.cons .R (.cons .R (.cons .R (.cons .R (.cons .R (.cons .R (.cons .R (.cons (.O .R) (.cons .R .nil))))))))))))], [.cell (.hd 1), .drop]⟩)]
def laws_markMsgS_O (k : Nat → St → Option (laws_markMsgS_R)) : laws_markMsgS_K2 := fun x1 x2 x3 => k 2 (mkS [(0, .sc (.hd 1 none)), (1, sI x1), (5, sI x2)] [(1, .row tMsg (.S (.cons .R (.cons .R (.cons .R (.cons .R (.cons .R (.cons .R (.cons .R (.cons .R (.cons (.O .R) (.cons .R .nil))))))))))) 0 x3)] [.sc (.hd 1 none), .und])
theorem s_laws_markMsgS : Sound Tryz.prog 110 0 e_laws_markMsgS := fn1 bk (fn := Tryz.f110) (fns := [(112, e_laws_markEntryS), (113, e_laws_markText)]) ⟨s_laws_markEntryS, s_laws_markText, trivial⟩ (by kernel_rfl) (by kernel_rfl) laws_markMsgS_T laws_markMsgS_O laws_markMsgS_b2 laws_markMsgS_L2 (fun k x => laws_markMsgS_s k x.1 x.2.1) (by kernel_rfl) (fun _ => by kernel_rfl) (fun _ => rfl) (fun _ _ => by kernel_rfl) (fun _ => by kernel_rfl)

/-! laws.markMailS -/
noncomputable def e_laws_markMailS : Entry := ⟨[vw (.sl tMail), vr (.int .i64)], [rr (.int .i64)], laws_markMailS⟩
def laws_markMailS_T : List (Nat × Tpl) := [(2, ⟨[(0, .cell (.hd 1)), (1, tk), (5, tk)], [(1, .row tMail .R)], [.cell (.hd 1), .drop]⟩)]
def laws_markMailS_O (k : Nat → St → Option (laws_markMailS_R)) : laws_markMailS_K2 := fun x1 x2 x3 => k 2 (mkS [(0, .sc (.hd 1 none)), (1, sI x1), (5, sI x2)] [(1, .row tMail .R 0 x3)] [.sc (.hd 1 none), .und])
theorem s_laws_markMailS : Sound Tryz.prog 111 0 e_laws_markMailS := fn1 bk (fn := Tryz.f111) (fns := [(113, e_laws_markText)]) ⟨s_laws_markText, trivial⟩ (by kernel_rfl) (by kernel_rfl) laws_markMailS_T laws_markMailS_O laws_markMailS_b2 laws_markMailS_L2 (fun k x => laws_markMailS_s k x.1 x.2.1) (by kernel_rfl) (fun _ => by kernel_rfl) (fun _ => rfl) (fun _ _ => by kernel_rfl) (fun _ => by kernel_rfl)

/-! laws.markCrew -/
noncomputable def e_laws_markCrew : Entry := ⟨[vw tCrew, vr (.int .i64)], [rr (.int .i64)], laws_markCrew⟩
theorem s_laws_markCrew : Sound Tryz.prog 53 0 e_laws_markCrew := fn0 bk (fn := Tryz.f53) (fns := [(109, e_laws_markNodeS), (110, e_laws_markMsgS), (111, e_laws_markMailS), (112, e_laws_markEntryS)]) ⟨s_laws_markNodeS, s_laws_markMsgS, s_laws_markMailS, s_laws_markEntryS, trivial⟩ (by kernel_rfl) (by kernel_rfl) fun _ => by kernel_rfl

/-! laws.markClientS -/
noncomputable def e_laws_markClientS : Entry := ⟨[vw (.sl tClient), vr (.int .i64)], [rr (.int .i64)], laws_markClientS⟩
def laws_markClientS_T : List (Nat × Tpl) := [(2, ⟨[(0, .cell (.hd 1)), (1, tk), (5, tk)], [(1, .row tClient .R)], [.cell (.hd 1), .drop]⟩)]
def laws_markClientS_O (k : Nat → St → Option (laws_markClientS_R)) : laws_markClientS_K2 := fun x1 x2 x3 => k 2 (mkS [(0, .sc (.hd 1 none)), (1, sI x1), (5, sI x2)] [(1, .row tClient .R 0 x3)] [.sc (.hd 1 none), .und])
theorem s_laws_markClientS : Sound Tryz.prog 54 0 e_laws_markClientS := fn1 bk (fn := Tryz.f54) (fns := [(113, e_laws_markText)]) ⟨s_laws_markText, trivial⟩ (by kernel_rfl) (by kernel_rfl) laws_markClientS_T laws_markClientS_O laws_markClientS_b2 laws_markClientS_L2 (fun k x => laws_markClientS_s k x.1 x.2.1) (by kernel_rfl) (fun _ => by kernel_rfl) (fun _ => rfl) (fun _ _ => by kernel_rfl) (fun _ => by kernel_rfl)

/-! laws.markDoneS -/
noncomputable def e_laws_markDoneS : Entry := ⟨[vw (.sl tDone), vr (.int .i64)], [rr (.int .i64)], laws_markDoneS⟩
def laws_markDoneS_T : List (Nat × Tpl) := [(2, ⟨[(0, .cell (.hd 1)), (1, tk), (5, tk)], [(1, .row tDone .R)], [.cell (.hd 1), .drop]⟩)]
def laws_markDoneS_O (k : Nat → St → Option (laws_markDoneS_R)) : laws_markDoneS_K2 := fun x1 x2 x3 => k 2 (mkS [(0, .sc (.hd 1 none)), (1, sI x1), (5, sI x2)] [(1, .row tDone .R 0 x3)] [.sc (.hd 1 none), .und])
theorem s_laws_markDoneS : Sound Tryz.prog 55 0 e_laws_markDoneS := fn1 bk (fn := Tryz.f55) (fns := [(113, e_laws_markText)]) ⟨s_laws_markText, trivial⟩ (by kernel_rfl) (by kernel_rfl) laws_markDoneS_T laws_markDoneS_O laws_markDoneS_b2 laws_markDoneS_L2 (fun k x => laws_markDoneS_s k x.1 x.2.1) (by kernel_rfl) (fun _ => by kernel_rfl) (fun _ => rfl) (fun _ _ => by kernel_rfl) (fun _ => by kernel_rfl)

/-! laws.markWorld -/
noncomputable def e_laws_markWorld : Entry := ⟨[vw tWorld, vr (.int .i64)], [rr (.int .i64)], laws_markWorld⟩
theorem s_laws_markWorld : Sound Tryz.prog 17 0 e_laws_markWorld := fn0 bk (fn := Tryz.f17) (fns := [(53, e_laws_markCrew), (54, e_laws_markClientS), (55, e_laws_markDoneS), (56, e_laws_markIntS)]) ⟨s_laws_markCrew, s_laws_markClientS, s_laws_markDoneS, s_laws_markIntS, trivial⟩ (by kernel_rfl) (by kernel_rfl) fun _ => by kernel_rfl

/-! laws.heldIntS -/
noncomputable def e_laws_heldIntS : Entry := ⟨[vr (.sl (.int .i64)), vr (.int .i64)], [rr (.int .i64)], laws_heldIntS⟩
def laws_heldIntS_T : List (Nat × Tpl) := [(2, ⟨[(0, .cell (.lst (.int .i64) [])), (1, tk), (5, tk)], [], [.drop, .drop]⟩)]
def laws_heldIntS_O (k : Nat → St → Option (Int × Unit)) : laws_heldIntS_K2 := fun x1 x2 x3 => k 2 (mkS [(0, sL (.int .i64) x1), (1, sI x2), (5, sI x3)] [] [.und, .und])
theorem s_laws_heldIntS : Sound Tryz.prog 60 0 e_laws_heldIntS := fn1 bk (fn := Tryz.f60) (fns := []) trivial (by kernel_rfl) (by kernel_rfl) laws_heldIntS_T laws_heldIntS_O laws_heldIntS_b2 laws_heldIntS_L2 (fun k x => laws_heldIntS_s k x.1 x.2.1) (by kernel_rfl) (fun _ => by kernel_rfl) (fun _ => rfl) (fun _ _ => by kernel_rfl) (fun _ => by kernel_rfl)

/-! laws.heldEntryS -/
noncomputable def e_laws_heldEntryS : Entry := ⟨[vr (.sl tEntry), vr (.int .i64)], [rr (.int .i64)], laws_heldEntryS⟩
def laws_heldEntryS_T : List (Nat × Tpl) := [(2, ⟨[(0, .cell (.lst tEntry [])), (1, tk), (5, tk)], [], [.drop, .drop]⟩)]
def laws_heldEntryS_O (k : Nat → St → Option (Int × Unit)) : laws_heldEntryS_K2 := fun x1 x2 x3 => k 2 (mkS [(0, sL tEntry x1), (1, sI x2), (5, sI x3)] [] [.und, .und])
theorem s_laws_heldEntryS : Sound Tryz.prog 117 0 e_laws_heldEntryS := fn1 bk (fn := Tryz.f117) (fns := [(113, e_laws_markText)]) ⟨s_laws_markText, trivial⟩ (by kernel_rfl) (by kernel_rfl) laws_heldEntryS_T laws_heldEntryS_O laws_heldEntryS_b2 laws_heldEntryS_L2 (fun k x => laws_heldEntryS_s k x.1 x.2.1) (by kernel_rfl) (fun _ => by kernel_rfl) (fun _ => rfl) (fun _ _ => by kernel_rfl) (fun _ => by kernel_rfl)

/-! laws.heldDirentS -/
noncomputable def e_laws_heldDirentS : Entry := ⟨[vr (.sl tDirent), vr (.int .i64)], [rr (.int .i64)], laws_heldDirentS⟩
def laws_heldDirentS_T : List (Nat × Tpl) := [(2, ⟨[(0, .cell (.lst tDirent [])), (1, tk), (5, tk)], [], [.drop, .drop]⟩)]
def laws_heldDirentS_O (k : Nat → St → Option (Int × Unit)) : laws_heldDirentS_K2 := fun x1 x2 x3 => k 2 (mkS [(0, sL tDirent x1), (1, sI x2), (5, sI x3)] [] [.und, .und])
theorem s_laws_heldDirentS : Sound Tryz.prog 274 0 e_laws_heldDirentS := fn1 bk (fn := Tryz.f274) (fns := [(113, e_laws_markText)]) ⟨s_laws_markText, trivial⟩ (by kernel_rfl) (by kernel_rfl) laws_heldDirentS_T laws_heldDirentS_O laws_heldDirentS_b2 laws_heldDirentS_L2 (fun k x => laws_heldDirentS_s k x.1 x.2.1) (by kernel_rfl) (fun _ => by kernel_rfl) (fun _ => rfl) (fun _ _ => by kernel_rfl) (fun _ => by kernel_rfl)

/-! laws.heldInodeS -/
noncomputable def e_laws_heldInodeS : Entry := ⟨[vr (.sl tInode), vr (.int .i64)], [rr (.int .i64)], laws_heldInodeS⟩
def laws_heldInodeS_T : List (Nat × Tpl) := [(2, ⟨[(0, .cell (.lst tInode [])), (1, tk), (5, tk)], [], [.drop, .drop]⟩)]
def laws_heldInodeS_O (k : Nat → St → Option (Int × Unit)) : laws_heldInodeS_K2 := fun x1 x2 x3 => k 2 (mkS [(0, sL tInode x1), (1, sI x2), (5, sI x3)] [] [.und, .und])
theorem s_laws_heldInodeS : Sound Tryz.prog 230 0 e_laws_heldInodeS := fn1 bk (fn := Tryz.f230) (fns := [(113, e_laws_markText), (274, e_laws_heldDirentS)]) ⟨s_laws_markText, s_laws_heldDirentS, trivial⟩ (by kernel_rfl) (by kernel_rfl) laws_heldInodeS_T laws_heldInodeS_O laws_heldInodeS_b2 laws_heldInodeS_L2 (fun k x => laws_heldInodeS_s k x.1 x.2.1) (by kernel_rfl) (fun _ => by kernel_rfl) (fun _ => rfl) (fun _ _ => by kernel_rfl) (fun _ => by kernel_rfl)

/-! laws.heldNoteS -/
noncomputable def e_laws_heldNoteS : Entry := ⟨[vr (.sl tNote), vr (.int .i64)], [rr (.int .i64)], laws_heldNoteS⟩
def laws_heldNoteS_T : List (Nat × Tpl) := [(2, ⟨[(0, .cell (.lst tNote [])), (1, tk), (5, tk)], [], [.drop, .drop]⟩)]
def laws_heldNoteS_O (k : Nat → St → Option (Int × Unit)) : laws_heldNoteS_K2 := fun x1 x2 x3 => k 2 (mkS [(0, sL tNote x1), (1, sI x2), (5, sI x3)] [] [.und, .und])
theorem s_laws_heldNoteS : Sound Tryz.prog 231 0 e_laws_heldNoteS := fn1 bk (fn := Tryz.f231) (fns := []) trivial (by kernel_rfl) (by kernel_rfl) laws_heldNoteS_T laws_heldNoteS_O laws_heldNoteS_b2 laws_heldNoteS_L2 (fun k x => laws_heldNoteS_s k x.1 x.2.1) (by kernel_rfl) (fun _ => by kernel_rfl) (fun _ => rfl) (fun _ _ => by kernel_rfl) (fun _ => by kernel_rfl)

/-! laws.heldSessionS -/
noncomputable def e_laws_heldSessionS : Entry := ⟨[vr (.sl tSession), vr (.int .i64)], [rr (.int .i64)], laws_heldSessionS⟩
def laws_heldSessionS_T : List (Nat × Tpl) := [(2, ⟨[(0, .cell (.lst tSession [])), (1, tk), (5, tk)], [], [.drop, .drop]⟩)]
def laws_heldSessionS_O (k : Nat → St → Option (Int × Unit)) : laws_heldSessionS_K2 := fun x1 x2 x3 => k 2 (mkS [(0, sL tSession x1), (1, sI x2), (5, sI x3)] [] [.und, .und])
theorem s_laws_heldSessionS : Sound Tryz.prog 232 0 e_laws_heldSessionS := fn1 bk (fn := Tryz.f232) (fns := [(113, e_laws_markText)]) ⟨s_laws_markText, trivial⟩ (by kernel_rfl) (by kernel_rfl) laws_heldSessionS_T laws_heldSessionS_O laws_heldSessionS_b2 laws_heldSessionS_L2 (fun k x => laws_heldSessionS_s k x.1 x.2.1) (by kernel_rfl) (fun _ => by kernel_rfl) (fun _ => rfl) (fun _ _ => by kernel_rfl) (fun _ => by kernel_rfl)

/-! laws.heldTenantS -/
noncomputable def e_laws_heldTenantS : Entry := ⟨[vr (.sl tTenant), vr (.int .i64)], [rr (.int .i64)], laws_heldTenantS⟩
def laws_heldTenantS_T : List (Nat × Tpl) := [(2, ⟨[(0, .cell (.lst tTenant [])), (1, tk), (5, tk)], [], [.drop, .drop]⟩)]
def laws_heldTenantS_O (k : Nat → St → Option (Int × Unit)) : laws_heldTenantS_K2 := fun x1 x2 x3 => k 2 (mkS [(0, sL tTenant x1), (1, sI x2), (5, sI x3)] [] [.und, .und])
theorem s_laws_heldTenantS : Sound Tryz.prog 171 0 e_laws_heldTenantS := fn1 bk (fn := Tryz.f171) (fns := [(230, e_laws_heldInodeS), (231, e_laws_heldNoteS), (232, e_laws_heldSessionS)]) ⟨s_laws_heldInodeS, s_laws_heldNoteS, s_laws_heldSessionS, trivial⟩ (by kernel_rfl) (by kernel_rfl) laws_heldTenantS_T laws_heldTenantS_O laws_heldTenantS_b2 laws_heldTenantS_L2 (fun k x => laws_heldTenantS_s k x.1 x.2.1) (by kernel_rfl) (fun _ => by kernel_rfl) (fun _ => rfl) (fun _ _ => by kernel_rfl) (fun _ => by kernel_rfl)

/-! laws.heldRecS -/
noncomputable def e_laws_heldRecS : Entry := ⟨[vr (.sl tRec), vr (.int .i64)], [rr (.int .i64)], laws_heldRecS⟩
def laws_heldRecS_T : List (Nat × Tpl) := [(2, ⟨[(0, .cell (.lst tRec [])), (1, tk), (5, tk)], [], [.drop, .drop]⟩)]
def laws_heldRecS_O (k : Nat → St → Option (Int × Unit)) : laws_heldRecS_K2 := fun x1 x2 x3 => k 2 (mkS [(0, sL tRec x1), (1, sI x2), (5, sI x3)] [] [.und, .und])
theorem s_laws_heldRecS : Sound Tryz.prog 172 0 e_laws_heldRecS := fn1 bk (fn := Tryz.f172) (fns := [(113, e_laws_markText)]) ⟨s_laws_markText, trivial⟩ (by kernel_rfl) (by kernel_rfl) laws_heldRecS_T laws_heldRecS_O laws_heldRecS_b2 laws_heldRecS_L2 (fun k x => laws_heldRecS_s k x.1 x.2.1) (by kernel_rfl) (fun _ => by kernel_rfl) (fun _ => rfl) (fun _ _ => by kernel_rfl) (fun _ => by kernel_rfl)

/-! laws.heldSlotS -/
noncomputable def e_laws_heldSlotS : Entry := ⟨[vr (.sl tSlot), vr (.int .i64)], [rr (.int .i64)], laws_heldSlotS⟩
def laws_heldSlotS_T : List (Nat × Tpl) := [(2, ⟨[(0, .cell (.lst tSlot [])), (1, tk), (5, tk)], [], [.drop, .drop]⟩)]
def laws_heldSlotS_O (k : Nat → St → Option (Int × Unit)) : laws_heldSlotS_K2 := fun x1 x2 x3 => k 2 (mkS [(0, sL tSlot x1), (1, sI x2), (5, sI x3)] [] [.und, .und])
theorem s_laws_heldSlotS : Sound Tryz.prog 173 0 e_laws_heldSlotS := fn1 bk (fn := Tryz.f173) (fns := [(113, e_laws_markText)]) ⟨s_laws_markText, trivial⟩ (by kernel_rfl) (by kernel_rfl) laws_heldSlotS_T laws_heldSlotS_O laws_heldSlotS_b2 laws_heldSlotS_L2 (fun k x => laws_heldSlotS_s k x.1 x.2.1) (by kernel_rfl) (fun _ => by kernel_rfl) (fun _ => rfl) (fun _ _ => by kernel_rfl) (fun _ => by kernel_rfl)

/-! laws.heldNodeS -/
noncomputable def e_laws_heldNodeS : Entry := ⟨[vr (.sl tNode), vr (.int .i64)], [rr (.int .i64)], laws_heldNodeS⟩
def laws_heldNodeS_T : List (Nat × Tpl) := [(2, ⟨[(0, .cell (.lst tNode [])), (1, tk), (5, tk)], [], [.drop, .drop]⟩)]
def laws_heldNodeS_O (k : Nat → St → Option (Int × Unit)) : laws_heldNodeS_K2 := fun x1 x2 x3 => k 2 (mkS [(0, sL tNode x1), (1, sI x2), (5, sI x3)] [] [.und, .und])
theorem s_laws_heldNodeS : Sound Tryz.prog 114 0 e_laws_heldNodeS := fn1 bk (fn := Tryz.f114) (fns := [(60, e_laws_heldIntS), (113, e_laws_markText), (117, e_laws_heldEntryS), (171, e_laws_heldTenantS), (172, e_laws_heldRecS), (173, e_laws_heldSlotS)]) ⟨s_laws_heldIntS, s_laws_markText, s_laws_heldEntryS, s_laws_heldTenantS, s_laws_heldRecS, s_laws_heldSlotS, trivial⟩ (by kernel_rfl) (by kernel_rfl) laws_heldNodeS_T laws_heldNodeS_O laws_heldNodeS_b2 laws_heldNodeS_L2 (fun k x => laws_heldNodeS_s k x.1 x.2.1) (by kernel_rfl) (fun _ => by kernel_rfl) (fun _ => rfl) (fun _ _ => by kernel_rfl) (fun _ => by kernel_rfl)

/-! laws.heldMsgS -/
noncomputable def e_laws_heldMsgS : Entry := ⟨[vr (.sl tMsg), vr (.int .i64)], [rr (.int .i64)], laws_heldMsgS⟩
def laws_heldMsgS_T : List (Nat × Tpl) := [(2, ⟨[(0, .cell (.lst tMsg [])), (1, tk), (5, tk)], [], [.drop, .drop]⟩)]
def laws_heldMsgS_O (k : Nat → St → Option (Int × Unit)) : laws_heldMsgS_K2 := fun x1 x2 x3 => k 2 (mkS [(0, sL tMsg x1), (1, sI x2), (5, sI x3)] [] [.und, .und])
theorem s_laws_heldMsgS : Sound Tryz.prog 115 0 e_laws_heldMsgS := fn1 bk (fn := Tryz.f115) (fns := [(113, e_laws_markText), (117, e_laws_heldEntryS)]) ⟨s_laws_markText, s_laws_heldEntryS, trivial⟩ (by kernel_rfl) (by kernel_rfl) laws_heldMsgS_T laws_heldMsgS_O laws_heldMsgS_b2 laws_heldMsgS_L2 (fun k x => laws_heldMsgS_s k x.1 x.2.1) (by kernel_rfl) (fun _ => by kernel_rfl) (fun _ => rfl) (fun _ _ => by kernel_rfl) (fun _ => by kernel_rfl)

/-! laws.heldMailS -/
noncomputable def e_laws_heldMailS : Entry := ⟨[vr (.sl tMail), vr (.int .i64)], [rr (.int .i64)], laws_heldMailS⟩
def laws_heldMailS_T : List (Nat × Tpl) := [(2, ⟨[(0, .cell (.lst tMail [])), (1, tk), (5, tk)], [], [.drop, .drop]⟩)]
def laws_heldMailS_O (k : Nat → St → Option (Int × Unit)) : laws_heldMailS_K2 := fun x1 x2 x3 => k 2 (mkS [(0, sL tMail x1), (1, sI x2), (5, sI x3)] [] [.und, .und])
theorem s_laws_heldMailS : Sound Tryz.prog 116 0 e_laws_heldMailS := fn1 bk (fn := Tryz.f116) (fns := [(113, e_laws_markText)]) ⟨s_laws_markText, trivial⟩ (by kernel_rfl) (by kernel_rfl) laws_heldMailS_T laws_heldMailS_O laws_heldMailS_b2 laws_heldMailS_L2 (fun k x => laws_heldMailS_s k x.1 x.2.1) (by kernel_rfl) (fun _ => by kernel_rfl) (fun _ => rfl) (fun _ _ => by kernel_rfl) (fun _ => by kernel_rfl)

/-! laws.heldCrew -/
noncomputable def e_laws_heldCrew : Entry := ⟨[vr tCrew, vr (.int .i64)], [rr (.int .i64)], laws_heldCrew⟩
theorem s_laws_heldCrew : Sound Tryz.prog 57 0 e_laws_heldCrew := fn0 bk (fn := Tryz.f57) (fns := [(114, e_laws_heldNodeS), (115, e_laws_heldMsgS), (116, e_laws_heldMailS), (117, e_laws_heldEntryS)]) ⟨s_laws_heldNodeS, s_laws_heldMsgS, s_laws_heldMailS, s_laws_heldEntryS, trivial⟩ (by kernel_rfl) (by kernel_rfl) fun _ => by kernel_rfl

/-! laws.heldClientS -/
noncomputable def e_laws_heldClientS : Entry := ⟨[vr (.sl tClient), vr (.int .i64)], [rr (.int .i64)], laws_heldClientS⟩
def laws_heldClientS_T : List (Nat × Tpl) := [(2, ⟨[(0, .cell (.lst tClient [])), (1, tk), (5, tk)], [], [.drop, .drop]⟩)]
def laws_heldClientS_O (k : Nat → St → Option (Int × Unit)) : laws_heldClientS_K2 := fun x1 x2 x3 => k 2 (mkS [(0, sL tClient x1), (1, sI x2), (5, sI x3)] [] [.und, .und])
theorem s_laws_heldClientS : Sound Tryz.prog 58 0 e_laws_heldClientS := fn1 bk (fn := Tryz.f58) (fns := [(113, e_laws_markText)]) ⟨s_laws_markText, trivial⟩ (by kernel_rfl) (by kernel_rfl) laws_heldClientS_T laws_heldClientS_O laws_heldClientS_b2 laws_heldClientS_L2 (fun k x => laws_heldClientS_s k x.1 x.2.1) (by kernel_rfl) (fun _ => by kernel_rfl) (fun _ => rfl) (fun _ _ => by kernel_rfl) (fun _ => by kernel_rfl)

/-! laws.heldDoneS -/
noncomputable def e_laws_heldDoneS : Entry := ⟨[vr (.sl tDone), vr (.int .i64)], [rr (.int .i64)], laws_heldDoneS⟩
def laws_heldDoneS_T : List (Nat × Tpl) := [(2, ⟨[(0, .cell (.lst tDone [])), (1, tk), (5, tk)], [], [.drop, .drop]⟩)]
def laws_heldDoneS_O (k : Nat → St → Option (Int × Unit)) : laws_heldDoneS_K2 := fun x1 x2 x3 => k 2 (mkS [(0, sL tDone x1), (1, sI x2), (5, sI x3)] [] [.und, .und])
theorem s_laws_heldDoneS : Sound Tryz.prog 59 0 e_laws_heldDoneS := fn1 bk (fn := Tryz.f59) (fns := [(113, e_laws_markText)]) ⟨s_laws_markText, trivial⟩ (by kernel_rfl) (by kernel_rfl) laws_heldDoneS_T laws_heldDoneS_O laws_heldDoneS_b2 laws_heldDoneS_L2 (fun k x => laws_heldDoneS_s k x.1 x.2.1) (by kernel_rfl) (fun _ => by kernel_rfl) (fun _ => rfl) (fun _ _ => by kernel_rfl) (fun _ => by kernel_rfl)

/-! laws.heldWorld -/
noncomputable def e_laws_heldWorld : Entry := ⟨[vr tWorld, vr (.int .i64)], [rr (.int .i64)], laws_heldWorld⟩
theorem s_laws_heldWorld : Sound Tryz.prog 18 0 e_laws_heldWorld := fn0 bk (fn := Tryz.f18) (fns := [(57, e_laws_heldCrew), (58, e_laws_heldClientS), (59, e_laws_heldDoneS), (60, e_laws_heldIntS)]) ⟨s_laws_heldCrew, s_laws_heldClientS, s_laws_heldDoneS, s_laws_heldIntS, trivial⟩ (by kernel_rfl) (by kernel_rfl) fun _ => by kernel_rfl

/-! laws.FnExactNewWorld -/
noncomputable def e_laws_FnExactNewWorld : Entry := ⟨[vr tSetup], [rr .bool], laws_FnExactNewWorld⟩
theorem s_laws_FnExactNewWorld : Sound Tryz.prog 5 0 e_laws_FnExactNewWorld := fn0 bk (fn := Tryz.f5) (fns := [(11, e_laws_eqWorld), (14, e_spec_NewWorld), (15, e_laws_toSetup), (16, e_impl_NewWorld), (17, e_laws_markWorld), (18, e_laws_heldWorld)]) ⟨s_laws_eqWorld, s_spec_NewWorld, s_laws_toSetup, s_impl_NewWorld, s_laws_markWorld, s_laws_heldWorld, trivial⟩ (by kernel_rfl) (by kernel_rfl) fun _ => by kernel_rfl

end Go.LM.Nw
