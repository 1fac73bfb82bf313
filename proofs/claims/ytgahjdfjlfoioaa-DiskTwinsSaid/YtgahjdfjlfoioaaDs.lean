/- The simulated disk as plain data: what each method of simdisk.Disk answers and leaves, as functions on lists. No program is named. -/
import Derived.Test.YtgahjdfjlfoioaaBase
namespace Go.Proofs.Ytgahjdfjlfoioaa
open Go.RowKit

/-- A file of the disk. -/
structure File where
  b : ByteArray
  lasts : Int
  known : Bool
def File.zero : File := ⟨⟨#[]⟩, 0, false⟩
def File.val (f : File) : Value := .agg #[.string f.b, .int .i64 f.lasts, .bool f.known]
abbrev Files := List (ByteArray × File)
/-- A disk. -/
structure DS where
  on : Bool
  room : Int
  fs : Files
  armed : Bool
  left : Int
  keep : List Int

/-- A name that can't be. -/
def badName (s : ByteArray) : Bool := decide (s.size < 1) || decide (40 < s.size)
def mayAll : List ByteArray → Int
  | [] => 0
  | s :: l => if badName s then 1 else mayAll l
namespace DS
def new (room : Int) : DS := ⟨true, room, [], false, 0, []⟩
def may (d : DS) (l : List ByteArray) : Int := if d.on then mayAll l else 14
def get (d : DS) (n : ByteArray) : File := (aget d.fs n).getD File.zero
def find (d : DS) (n : ByteArray) : File × Int :=
  if d.may [n] = 0 then (if (aget d.fs n).isSome then (d.get n, 0) else (File.zero, 8)) else (File.zero, d.may [n])
def used (d : DS) : Int := ((d.fs.map fun p => p.2.b.size).sum : Nat)
def goes (d : DS) : Bool := d.armed && decide (d.left < 1)
def tick (d : DS) : DS := if d.armed then { d with left := d.left - 1 } else d
def full (d : DS) (n : ByteArray) (k : Nat) : Bool := (!(aget d.fs n).isSome && decide (200 ≤ d.fs.length)) || (decide (0 < d.room) && decide (d.room - d.used < (k : Int)))
def arm (d : DS) (n : Int) (keep : List Int) : DS := { d with armed := decide (0 ≤ n), left := n, keep := keep }
def names (d : DS) : List ByteArray := ((d.fs.map fun p => p.1.data.toList).mergeSort (fun x y => decide (x ≤ y))).map fun l => ⟨l.toArray⟩
def crashFile (f : File) (k : Int) : File :=
  let n := f.lasts + min k (f.b.size - f.lasts)
  ⟨f.b.extract 0 n.toNat, n, f.known || decide (0 < n)⟩
def crashOne (fs : Files) (s : ByteArray) (k : Int) : Files :=
  let f := crashFile ((aget fs s).getD File.zero) k
  if f.known then aput fs s f else adel (aput fs s f) s
def crashAll : Files → List ByteArray → List Int → Files
  | fs, [], _ => fs
  | fs, s :: l, ks => crashAll (crashOne fs s (max (ks.headD 0) 0)) l ks.tail
def lostAll : Files → List ByteArray → List Int → Int
  | _, [], _ => 0
  | fs, s :: l, ks => (let f := (aget fs s).getD File.zero; f.b.size - (crashFile f (max (ks.headD 0) 0)).lasts) + lostAll (crashOne fs s (max (ks.headD 0) 0)) l ks.tail
def crash (d : DS) (keep : List Int) : DS := if d.on then { d with on := false, armed := false, left := -1, keep := [], fs := crashAll d.fs d.names keep } else d
def lost (d : DS) (keep : List Int) : Int := if d.on then lostAll d.fs d.names keep else 0
/-- done: what is told, what is left. -/
def doneE (d : DS) : Int := if d.goes then 14 else 0
def done (d : DS) : DS := if d.goes then d.tick.crash d.keep else d.tick
def append (d : DS) (n data : ByteArray) : Int × DS :=
  if d.may [n] ≠ 0 then (d.may [n], d)
  else if d.full n data.size then (20, d)
  else let d1 := { d with fs := aput d.fs n { d.get n with b := (d.get n).b ++ data } }; (d1.doneE, d1.done)
def sync (d : DS) (n : ByteArray) : Int × DS :=
  if (d.find n).2 ≠ 0 then ((d.find n).2, d)
  else if d.doneE ≠ 0 then (d.doneE, d.done)
  else (0, { d.done with fs := aput d.done.fs n ⟨(d.get n).b, (d.get n).b.size, true⟩ })
def truncate (d : DS) (n : ByteArray) (k : Int) : Int × DS :=
  if (d.find n).2 ≠ 0 then ((d.find n).2, d)
  else if k < 0 ∨ (d.get n).b.size < k then (15, d)
  else if d.doneE ≠ 0 then (d.doneE, d.done)
  else (0, { d.done with fs := aput d.done.fs n ⟨(d.get n).b.extract 0 k.toNat, min (d.get n).lasts k, (d.get n).known⟩ })
def rename (d : DS) (m n : ByteArray) : Int × DS :=
  if d.may [m, n] ≠ 0 then (d.may [m, n], d)
  else if (d.find m).2 ≠ 0 then ((d.find m).2, d)
  else if d.doneE ≠ 0 then (d.doneE, d.done)
  else (0, { d.done with fs := aput (adel d.done.fs m) n (d.get m) })
def remove (d : DS) (n : ByteArray) : Int × DS :=
  if (d.find n).2 ≠ 0 then ((d.find n).2, d)
  else if d.doneE ≠ 0 then (d.doneE, d.done)
  else (0, { d.done with fs := adel d.done.fs n })
def read (d : DS) (n : ByteArray) (at_ k : Int) : ByteArray × Int :=
  if (d.find n).2 ≠ 0 then (⟨#[]⟩, (d.find n).2)
  else if at_ < 0 ∨ k < 0 ∨ (d.get n).b.size < at_ ∨ (d.get n).b.size - at_ < k then (⟨#[]⟩, 15)
  else ((d.get n).b.extract at_.toNat (at_ + k).toNat, 0)
def size (d : DS) (n : ByteArray) : Int × Int := ((d.find n).1.b.size, (d.find n).2)
def restore (d : DS) : DS := { d with on := true }
def unsynced (d : DS) (n : ByteArray) : Int := (d.get n).b.size - (d.get n).lasts
def list (d : DS) (p : ByteArray) : List ByteArray := if d.on then d.names.filter (fun s => p.data.toList.isPrefixOf s.data.toList) else []

/-- What keeps the numbers small: M bounds all bytes. -/
structure Ok (d : DS) (M : Nat) : Prop where
  left : d.armed = true → 0 ≤ d.left
  files : ∀ p ∈ d.fs, 0 ≤ p.2.lasts ∧ p.2.lasts ≤ p.2.b.size
  bytes : (d.fs.map fun p => p.2.b.size).sum ≤ M
  few : d.fs.length ≤ 200
  nodup : ANodup d.fs
  short : ∀ p ∈ d.fs, p.1.size ≤ 40
end DS
end Go.Proofs.Ytgahjdfjlfoioaa
