/- Proved here: contracts of functions and plain laws, part 19 of one proof. Conditions: each theorem names its own. -/
import Derived.Test.YteinoiicnmemhaaGreatDoorZ17
import Derived.Sort.Walk0
set_option linter.unusedSimpArgs false
set_option linter.unusedVariables false
namespace Go.Proofs.YteinoiicnmemhaaGreatDoor
section
open Go.RowKit
/-! ## names, rising -/
theorem ba_inj {a b : ByteArray} (h : a.data.toList = b.data.toList) : a = b := by
  cases a; cases b
  simp only [ByteArray.mk.injEq]
  exact Array.toList_inj.1 h
section
variable {s : MS} {r : RS} {N : Nat} {n : ByteArray}
/-! ## what is seen -/
def RS.seenP (r : RS) (n : ByteArray) (e : StoredR) : Bool := (decide (n.toList = []) || decide (e.stream = n)) && !(r.get e.stream).deleted && decide (r.floor e.stream ≤ e.version)
def RS.seenD (r : RS) (n : ByteArray) : List StoredR := r.l.filter (r.seenP n)
theorem Alike.seenAll (h : Alike s r) (hi : s.Inv) (h2 : s.Inv2) (hn : n.toList = []) : r.seenD n = s.seenAll := by
  unfold RS.seenD MS.seenAll
  rw [h.l]
  refine List.filter_congr fun e he => ?_
  rw [seenAt_of hi he]
  unfold RS.seenP
  rw [h.del, h.floor h2, decide_eq_true hn]
  simp
theorem Alike.seenS (h : Alike s r) (hi : s.Inv) (h2 : s.Inv2) (hn : n.toList ≠ []) : r.seenD n = s.seenL n := by
  rw [seenL_filter hi h2]
  unfold RS.seenD MS.seenAll
  rw [List.filter_filter, h.l]
  refine List.filter_congr fun e he => ?_
  rw [seenAt_of hi he]
  unfold RS.seenP
  rw [h.del, h.floor h2, decide_eq_false hn]
  simp [Bool.and_assoc]
/-! ## pages -/
def bwdGo (key : StoredR → Int) (f n : Int) : List StoredR → List StoredR → Int → PageR
  | [], acc, nx => ⟨acc, nx, true⟩
  | s :: l, acc, nx => if f < key s then bwdGo key f n l acc nx else if (acc.length : Int) = n then ⟨acc, nx, false⟩ else bwdGo key f n l (acc ++ [s]) (max (key s) 0 - 1)
def pageBy (key : StoredR → Int) (l : List StoredR) (f n : Int) (back : Bool) : PageR × Int :=
  if wrongP f n then (PageR.zero, 1) else (if back then bwdGo key f n l.reverse [] f else fwdGo key f n l [] f, 0)
def MS.readP (s : MS) (n : ByteArray) (f k : Int) (back : Bool) : PageR × Int :=
  if (nameOk n && decide (0 ≤ f) && decide (1 ≤ k) && decide (k ≤ 100)) = false then (PageR.zero, 1) else if (s.find n).deleted then (PageR.zero, 23) else if (s.find n).places.length = 0 then (PageR.zero, 8) else pageBy StoredR.version (s.seenL n) f k back
def RS.readD (r : RS) (n : ByteArray) (f k : Int) (back : Bool) : PageR × Int :=
  if (nameOk n && decide (0 ≤ f) && decide (1 ≤ k) && decide (k ≤ 100)) = false then (PageR.zero, 1) else if (r.get n).deleted then (PageR.zero, 23) else if (r.of n).length = 0 then (PageR.zero, 8) else pageBy StoredR.version (r.seenD n) f k back
theorem name_some {n : ByteArray} (h : nameOk n = true) : n.toList ≠ [] := fun q => by
  unfold nameOk at h
  simp only [Bool.and_eq_true, decide_eq_true_eq] at h
  have h1 := h.1.1
  rw [ByteArray.toList_eq] at q
  have : n.size = n.data.toList.length := by simp
  rw [this, q] at h1
  simp at h1
theorem Alike.read (h : Alike s r) (hi : s.Inv) (h2 : s.Inv2) (f k : Int) (back : Bool) : r.readD n f k back = s.readP n f k back := by
  unfold RS.readD MS.readP
  rw [h.del, h.len h2]
  cases hq : (nameOk n && decide (0 ≤ f) && decide (1 ≤ k) && decide (k ≤ 100)) with
  | false => rfl
  | true =>
    have hn : nameOk n = true := by
      cases hb : nameOk n with
      | true => rfl
      | false => rw [hb] at hq; simp at hq
    rw [h.seenS hi h2 (name_some hn)]
theorem Alike.allP (h : Alike s r) (hi : s.Inv) (h2 : s.Inv2) (hn : n.toList = []) (f k : Int) (back : Bool) : pageBy StoredR.position (r.seenD n) f k back = pageBy StoredR.position s.seenAll f k back := by rw [h.seenAll hi h2 hn]
/-! ## one event -/
end
end
end Go.Proofs.YteinoiicnmemhaaGreatDoor
