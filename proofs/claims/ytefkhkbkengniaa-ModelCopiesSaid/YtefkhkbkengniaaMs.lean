/- All streams as plain data: what each method of model.State answers and leaves, as functions on lists. No program is named. -/
import Derived.Test.YtefkhkbkengniaaBase
set_option linter.unusedVariables false
set_option linter.unusedSimpArgs false
namespace Go.Proofs.Ytefkhkbkengniaa
open Go.RowKit

structure EventR where
  id : Int
  type : ByteArray
  data : ByteArray
  value : Nat
structure MetaR where
  maxCount : Int
  maxAge : Int
  before : Int
deriving DecidableEq
structure Cmd where
  kind : Int
  time : Int
  stream : ByteArray
  expected : Int
  events : List EventR
  mt : MetaR
structure StoredR where
  ev : EventR
  stream : ByteArray
  version : Int
  position : Int
  time : Int
structure StreamR where
  places : List Int
  mt : MetaR
  floor : Int
  deleted : Bool
structure MS where
  all : List StoredR
  m : List (ByteArray × StreamR)
  done : Int
  now : Int
structure Ans where
  err : Int
  version : Int
  position : Int
  again : Bool
deriving DecidableEq
def MetaR.zero : MetaR := ⟨0, 0, 0⟩
def StreamR.zero : StreamR := ⟨[], MetaR.zero, 0, false⟩
def Ans.ok : Ans := ⟨0, 0, 0, false⟩
def EventR.cells (e : EventR) : List Value := [.int .i64 e.id, .string e.type, .string e.data, .float .f64 e.value]
def StoredR.cells (s : StoredR) : List Value := s.ev.cells ++ [.string s.stream, .int .i64 s.version, .int .i64 s.position, .int .i64 s.time]
def MetaR.cells (m : MetaR) : List Value := [.int .i64 m.maxCount, .int .i64 m.maxAge, .int .i64 m.before]
def StreamR.val (x : StreamR) (pv : Value) : Value := .agg #[pv, .int .i64 x.mt.maxCount, .int .i64 x.mt.maxAge, .int .i64 x.mt.before, .int .i64 x.floor, .bool x.deleted]
def Cmd.val (c : Cmd) (ev : Value) : Value := .agg #[.int .i64 c.kind, .int .i64 c.time, .string c.stream, .int .i64 c.expected, ev, .int .i64 c.mt.maxCount, .int .i64 c.mt.maxAge, .int .i64 c.mt.before]
def Ans.val (a : Ans) : Value := .agg #[.int .i64 a.err, .int .i64 a.version, .int .i64 a.position, .bool a.again]
def EventR.val (e : EventR) : Value := .agg #[.int .i64 e.id, .string e.type, .string e.data, .float .f64 e.value]
def MetaR.val (m : MetaR) : Value := .agg #[.int .i64 m.maxCount, .int .i64 m.maxAge, .int .i64 m.before]

/-! ## which commands may be -/
def okByte (b : UInt8) : Bool := !(decide ((b.toNat : Int) < 33) || decide (126 < (b.toNat : Int)) || decide ((b.toNat : Int) = 64))
def nameOk (s : ByteArray) : Bool := decide (1 ≤ s.size) && decide (s.size ≤ 60) && s.data.toList.all okByte
def within (n : Int) : Bool := decide (0 ≤ n) && decide (n ≤ 1099511627776)
def expects (n : Int) : Bool := within n || decide (n = -1) || decide (n = -2) || decide (n = -4)
def MetaR.ok (m : MetaR) : Bool := within m.maxCount && within m.maxAge && within m.before
def EventR.ok (e : EventR) : Bool := decide (1 ≤ e.id) && nameOk e.type && decide (e.data.size ≤ 200)
def eventsE (l : List EventR) : Int := if l.length = 0 then 1 else if 8 < l.length then 2 else if l.all EventR.ok then 0 else 1
def Cmd.spare (c : Cmd) : Bool :=
  (decide (c.kind ≠ 1 ∧ c.kind ≠ 2 ∧ c.kind ≠ 3) && decide (c.stream.toList ≠ [])) || (decide (c.kind ≠ 1 ∧ c.kind ≠ 3) && decide (c.expected ≠ 0)) ||
    (decide (c.kind ≠ 1) && decide (0 < c.events.length)) || (decide (c.kind ≠ 2) && decide (c.mt ≠ MetaR.zero))
def Cmd.check (c : Cmd) : Int :=
  if c.kind < 1 ∨ 5 < c.kind ∨ within c.time = false then 1
  else if c.kind ≤ 3 ∧ nameOk c.stream = false then 1
  else if c.kind = 1 ∧ eventsE c.events ≠ 0 then eventsE c.events
  else if (c.kind = 1 ∨ c.kind = 3) ∧ expects c.expected = false then 1
  else if c.kind = 2 ∧ c.mt.ok = false then 1
  else if c.spare then 1 else 0

/-! ## what is seen -/
def young (age now : Int) : List Int → Int
  | [] => 0
  | t :: l => if now - age < t then 0 else 1 + young age now l
def floorE (m : MetaR) (floor now : Int) (times : List Int) : Int :=
  let o1 := max (max floor 0) m.before
  let o2 := if 0 < m.maxCount then max o1 (times.length - m.maxCount) else o1
  let o3 := if 0 < m.maxAge then max o2 (young m.maxAge now times) else o2
  min o3 times.length
def timeAt (all : List StoredR) (p : Int) : Int := ((all[p.toNat]?).map (·.time)).getD 0
def idAt (all : List StoredR) (p : Int) : Int := ((all[p.toNat]?).map (·.ev.id)).getD 0
def times (all : List StoredR) (x : StreamR) : List Int := x.places.map (timeAt all)
namespace MS
def new : MS := ⟨[], [], 0, 0⟩
def find (s : MS) (n : ByteArray) : StreamR := (aget s.m n).getD StreamR.zero
def floorOf (s : MS) (x : StreamR) : Int := floorE x.mt x.floor s.now (times s.all x)
def put (s : MS) (n : ByteArray) (x : StreamR) : MS := { s with m := aput s.m n x }
def keep (s : MS) (n : ByteArray) (x : StreamR) : MS := s.put n { x with floor := s.floorOf x }
end MS
def expected (want count : Int) : Bool := if want = -2 then true else if want = -1 then decide (count = 0) else if want = -4 then decide (0 < count) else decide (want = count - 1)
def wrong (x : StreamR) : Ans := ⟨22, x.places.length - 1, 0, false⟩
def firstOf (all : List StoredR) (id : Int) : List Int → Int → Int
  | [], _ => -1
  | p :: l, k => if idAt all p = id then k else firstOf all id l (k + 1)
def MS.first (s : MS) (x : StreamR) (id : Int) : Int := firstOf s.all id x.places 0
def fitsAgain (c : Cmd) (v : Int) : Bool := decide (c.expected = -2) || decide (c.expected = -4) || (decide (c.expected = v - 1) && decide (0 < v)) || (decide (c.expected = -1) && decide (v = 0))
def sameIds (all : List StoredR) : List EventR → List Int → Bool
  | [], _ => true
  | _ :: _, [] => false
  | e :: l, p :: ps => decide (idAt all p = e.id) && sameIds all l ps
def MS.again (s : MS) (c : Cmd) (x : StreamR) (v : Int) : Ans :=
  if fitsAgain c v = false ∨ x.places.length - v < c.events.length then wrong x
  else if sameIds s.all c.events (x.places.drop v.toNat) then ⟨0, v, (x.places[(v + c.events.length - 1).toNat]?).getD 0, true⟩ else wrong x
def isNaN (b : Nat) : Bool := FloatKind.f64.format.order b b != some Ordering.eq
def canon (b : Nat) : Nat := if isNaN b then 9221120237041090560 else b
def EventR.canon (e : EventR) : EventR := { e with value := Proofs.Ytefkhkbkengniaa.canon e.value }
/-- The events as they are stored: behind all, in the stream. -/
def storedOf (stream : ByteArray) (now : Int) : List EventR → Int → Int → List StoredR
  | [], _, _ => []
  | e :: l, v, at_ => ⟨e.canon, stream, v, at_, now⟩ :: storedOf stream now l (v + 1) (at_ + 1)
def rangeFrom : Nat → Int → List Int
  | 0, _ => []
  | n + 1, a => a :: rangeFrom n (a + 1)
def MS.append (s : MS) (c : Cmd) (x : StreamR) : Ans × StreamR × MS :=
  (⟨0, x.places.length, s.all.length + c.events.length - 1, false⟩, { x with places := x.places ++ rangeFrom c.events.length s.all.length },
    { s with all := s.all ++ storedOf c.stream s.now c.events x.places.length s.all.length })
def MS.act (s : MS) (c : Cmd) (x : StreamR) : Ans × StreamR × MS :=
  let here : Ans := ⟨0, x.places.length, s.all.length, false⟩
  if c.kind = 2 then (here, { x with mt := c.mt }, s)
  else if c.kind = 3 then (if expected c.expected x.places.length then (here, { x with deleted := true }, s) else (wrong x, x, s))
  else
    let v := s.first x ((c.events.head?).map (·.id) |>.getD 0)
    if 0 ≤ v then (s.again c x v, x, s)
    else if expected c.expected x.places.length then s.append c x else (wrong x, x, s)
def MS.tick (s : MS) (t : Int) : MS := { s with now := max s.now t, done := s.done + 1 }
def MS.do (s : MS) (c : Cmd) : Ans × MS :=
  if c.check ≠ 0 then (⟨c.check, 0, 0, false⟩, s)
  else
    let s1 := s.tick c.time
    if c.kind = 4 ∨ c.kind = 5 then (⟨0, 0, s.all.length, false⟩, s1)
    else
      let x := s1.find c.stream
      if x.deleted then (⟨23, 0, 0, false⟩, s1)
      else
        let r := s1.act c { x with floor := s1.floorOf x }
        (r.1, r.2.2.keep c.stream r.2.1)
end Go.Proofs.Ytefkhkbkengniaa
