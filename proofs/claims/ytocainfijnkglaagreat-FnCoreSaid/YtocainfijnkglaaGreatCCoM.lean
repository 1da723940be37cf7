/- A core as plain functions: what it becomes and says. Conditions: none; definitions alone. -/
import Derived.Test.YtocainfijnkglaaGreatCCoC
set_option linter.unusedSimpArgs false
set_option linter.unusedVariables false
namespace Go.LM.Pg

def cnt (l : List Int) (i : Int) : Nat := (l.filter fun m => decide (i ≤ m)).length
/-- all numbers below n but one -/
def others (n : Nat) (id : Int) : List Int := ((List.range n).map Int.ofNat).filter fun p => p != id
namespace Core
def down (c : Core) (t : Int) : Core := { c with term := t, vote := if t = c.term then c.vote else -1, role := 1, lead := -1, yes := [], next := [], mch := [] }
def grants (c : Core) (m : Msg) : Bool := (c.role == 1) && ((c.vote == -1) || (c.vote == m.src)) && (decide (c.tm c.last < m.indexTerm) || ((m.indexTerm == c.tm c.last) && decide (c.last ≤ m.index)))
def hVote (c : Core) (m : Msg) : Core × List Msg := (if c.grants m = true then { c with vote := m.src } else c, [⟨2, c.id, m.src, c.term, 0, 0, 0, c.grants m, [], []⟩])
/-- the greatest number of k behind commit that may be agreed on -/
def counted (c : Core) : Nat → Int
  | 0 => c.commit
  | k + 1 => if c.tm (c.commit + (k + 1 : Nat)) = c.term ∧ c.peers < 2 * (cnt c.mch (c.commit + (k + 1 : Nat)) : Int) then c.commit + (k + 1 : Nat) else c.counted k
def count (c : Core) : Core := { c with commit := c.counted (c.last - c.commit).toNat }
def to (c : Core) (p : Int) : Msg :=
  let n := c.next.getD p.toNat 0
  if n ≤ c.base then ⟨5, c.id, p, c.term, c.base, c.baseTerm, 0, false, [], []⟩
  else ⟨3, c.id, p, c.term, n - 1, c.tm (n - 1), c.commit, false, (c.log.drop (n - 1 - c.base).toNat).take 4, []⟩
def toAll (c : Core) : List Msg := (others c.peers.toNat c.id).map c.to
def hasRoom (c : Core) : Bool := decide ((c.log.length : Int) < 60) && decide (c.last < 100000)
def own (c : Core) : Core := { c with mch := c.mch.set c.id.toNat c.last, next := c.next.set c.id.toNat (c.last + 1) }
def grow (c : Core) (data : List UInt8) : Core := if c.hasRoom = true then { c with log := c.log ++ [(c.term, data, ())] } else c
def put (c : Core) (data : List UInt8) : Core := (c.grow data).own.count
def leading (c : Core) : Core := { c with role := 3, lead := c.id, yes := [], next := List.replicate c.peers.toNat (c.last + 1), mch := List.replicate c.peers.toNat 0 }
def leads (c : Core) : Core × List Msg := let x := c.leading.put []; (x, x.toAll)
def voters (c : Core) (p : Int) : List Int := ((List.range c.peers.toNat).map Int.ofNat).filter fun q => (q == p) || c.yes.contains q
def hVoted (c : Core) (m : Msg) : Core × List Msg :=
  if c.role ≠ 2 ∨ m.yes = false then (c, [])
  else
    let x := { c with yes := c.voters m.src }
    if c.peers < 2 * (x.yes.length : Int) then x.leads else (x, [])
def told (c : Core) (p : Int) (yes : Bool) (i : Int) : List Msg := [⟨4, c.id, p, c.term, i, 0, 0, yes, [], []⟩]
/-- the first number below i, not below base, whose term is another one -/
def back (c : Core) (t : Int) : Nat → Int
  | 0 => c.base
  | k + 1 => if c.tm (c.base + (k + 1 : Nat)) = t then c.back t k else c.base + (k + 1 : Nat)
/-- entries behind a number: those that stand there are passed over; what comes of the first that doesn't -/
def takes (c : Core) (commit : Int) (p : Int) : Int → List Ent → Core × List Msg
  | i, [] => let x := { c with commit := max c.commit (min commit i) }; (x, x.told p true i)
  | i, e :: l =>
    if i + 1 ≤ c.last ∧ c.tm (i + 1) = et e then c.takes commit p (i + 1) l
    else if i + 1 ≤ c.commit then (c, [])
    else
      let y := { c with log := (c.log.take (i - c.base).toNat ++ e :: l).take 60 }
      let x := { y with commit := max c.commit (min commit y.last) }
      (x, x.told p true y.last)
def hApp (c : Core) (m : Msg) : Core × List Msg :=
  if c.role = 3 then (c, [])
  else
    let c := { c.down c.term with lead := m.src }
    let l := if m.index < c.base then m.entries.drop (c.base - m.index).toNat else m.entries
    let i := if m.index < c.base then c.base else m.index
    if i = c.base ∧ 0 < l.length ∧ et (l.headD (0, [], ())) < c.baseTerm then (c, [])
    else if c.last < i then (c, c.told m.src false c.last)
    else if c.base < i ∧ c.tm i ≠ m.indexTerm then (c, c.told m.src false (c.back (c.tm i) (i - c.base).toNat))
    else c.takes m.commit m.src i l
def hApped (c : Core) (m : Msg) : Core × List Msg :=
  if c.role ≠ 3 then (c, [])
  else
    let p := m.src.toNat
    if m.yes = true then
      let i := min m.index c.last
      if i ≤ c.mch.getD p 0 then (c, [])
      else
        let x := { c with mch := c.mch.set p i, next := c.next.set p (i + 1) }.count
        (x, if x.next.getD p 0 ≤ x.last then [x.to m.src] else [])
    else
      let n := max (min (c.next.getD p 0 - 1) (m.index + 1)) (c.mch.getD p 0 + 1)
      if c.next.getD p 0 ≤ n then (c, [])
      else
        let x := { c with next := c.next.set p n }
        (x, [x.to m.src])
def hSnap (c : Core) (m : Msg) : Core × List Msg :=
  if c.role = 3 then (c, [])
  else
    let c := { c.down c.term with lead := m.src }
    if m.index ≤ c.commit then (c, c.told m.src true c.commit)
    else
      let x := { c with log := if m.index ≤ c.last ∧ c.tm m.index = m.indexTerm then c.log.drop (m.index - c.base).toNat else [], base := m.index, baseTerm := m.indexTerm, commit := m.index }
      (x, x.told m.src true m.index)
def hearAt (c : Core) (m : Msg) : Core × List Msg :=
  if m.kind = 1 then c.hVote m else if m.kind = 2 then c.hVoted m else if m.kind = 3 then c.hApp m else if m.kind = 4 then c.hApped m else c.hSnap m
/-- what a right core hears -/
def hear (c : Core) (m : Msg) : Core × List Msg :=
  if m.ok = false ∨ m.to ≠ c.id ∨ c.peers ≤ m.src then (c, [])
  else if m.term < c.term then
    (c, if m.kind = 1 then [⟨2, c.id, m.src, c.term, 0, 0, 0, false, [], []⟩] else if m.kind = 3 ∨ m.kind = 5 then [⟨4, c.id, m.src, c.term, 0, 0, 0, false, [], []⟩] else [])
  else if c.term < m.term then (c.down m.term).hearAt m
  else c.hearAt m
def zero : Core := ⟨0, 0, 0, 0, 0, 0, 0, 0, [], 0, [], [], []⟩
def Hear (c : Core) (m : Msg) : Core × List Msg := if c.ok = true then c.hear m else (zero, [])
end Core
end Go.LM.Pg
