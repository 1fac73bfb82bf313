/- Proved here: contracts of functions and plain laws, part 45 of one proof. Conditions: each theorem names its own. -/
import Derived.Test.YteinoiicnmemhaaGreatDoorZ16
import Derived.Test.YteinoiicnmemhaaGreatDoorZ18
import Derived.Test.YteinoiicnmemhaaGreatDoorZ21
import Derived.Test.YteinoiicnmemhaaGreatDoorZ24
import Derived.Test.YteinoiicnmemhaaGreatDoorZ30
import Derived.Test.YteinoiicnmemhaaGreatDoorZ40
set_option linter.unusedSimpArgs false
set_option linter.unusedVariables false
namespace Go.Proofs.YteinoiicnmemhaaGreatDoor
section
open Go.RowKit Go Go.Sort
/-! ## plain -/
theorem pageBy_false (key : StoredR → Int) (l : List StoredR) (f n : Int) : pageBy key l f n false = forwardBy key l f n := by unfold pageBy forwardBy; simp
theorem readP_false (s : MS) (n : ByteArray) (f k : Int) : s.readP n f k false = s.readF n f k := by unfold MS.readP MS.readF MS.readOk; rw [pageBy_false]
theorem bwdGo_few (key : StoredR → Int) (f n : Int) : ∀ (l acc : List StoredR) (nx : Int), (bwdGo key f n l acc nx).events.length ≤ acc.length + l.length
  | [], acc, nx => by simp [bwdGo]
  | s :: l, acc, nx => by
    unfold bwdGo
    split
    · have := bwdGo_few key f n l acc nx
      simp
      omega
    · split
      · simp
      · have := bwdGo_few key f n l (acc ++ [s]) (max (key s) 0 - 1)
        simp at this ⊢
        omega
theorem pageBy_few (key : StoredR → Int) (l : List StoredR) (f n : Int) (back : Bool) : (pageBy key l f n back).1.events.length ≤ l.length := by
  cases back
  · rw [pageBy_false]; exact forwardBy_few key l f n
  · unfold pageBy
    split
    · simp [PageR.zero]
    · have := bwdGo_few key f n l.reverse [] f
      simpa using this
theorem seenL_less {s : MS} (hi : s.Inv) (h2 : s.Inv2) (n : ByteArray) : (s.seenL n).length ≤ s.all.length := by
  rw [seenL_filter hi h2]
  exact Nat.le_trans (List.length_filter_le _ _) (List.length_filter_le _ _)
theorem readP_few {s : MS} (hi : s.Inv) (h2 : s.Inv2) (n : ByteArray) (f k : Int) (back : Bool) : (s.readP n f k back).1.events.length ≤ s.all.length := by
  unfold MS.readP
  split
  · simp [PageR.zero]
  · split
    · simp [PageR.zero]
    · split
      · simp [PageR.zero]
      · exact Nat.le_trans (pageBy_few _ _ _ _ _) (seenL_less hi h2 n)
/-! ## the calls -/
section
variable {a w w' : World} {X X' H Hk E : List Nat} {sb mb rb kb N : Nat} {s : MS} {r : RS}
theorem sread_any (h : HasS a w X E sb mb s N) (hN : N ≤ 100000) (n : ByteArray) (hn : n.size ≤ maxLen) (f k : Int) (back : Bool) : Calls Tryz.prog 80 #[.pointer (some ⟨sb, 0, none⟩), .string n, .int .i64 f, .int .i64 k, .bool back] w (PageRet w (s.readP n f k back)) := by
  cases back
  · rw [readP_false]; exact has_read h hN n hn f k
  · obtain ⟨M, av, pf, h1, h2⟩ := h.st
    exact readB_any h1 h.ok hN n hn f k (seenL_vers h.inv h.ok hN n)
theorem sall_any (h : HasS a w X E sb mb s N) (hN : N ≤ 100000) (f k : Int) (back : Bool) : Calls Tryz.prog 79 #[.pointer (some ⟨sb, 0, none⟩), .int .i64 f, .int .i64 k, .bool back] w (PageRet w (pageBy StoredR.position s.seenAll f k back)) := by
  cases back
  · rw [pageBy_false]; exact has_all h hN f k
  · exact has_allB h hN f k
theorem vers_bd (hi : s.Inv) (ok : s.Ok N) (hN : N ≤ 100000) : ∀ e ∈ s.all, 0 ≤ e.version ∧ e.version ≤ 1000000000 := by
  intro e he
  obtain ⟨i, hl, rfl⟩ := List.mem_iff_getElem.1 he
  obtain ⟨k, q1, q2⟩ := hi.ver i hl
  have h1 := (List.getElem?_eq_some_iff.1 q2).1
  have := (ok.xok s.all[i].stream).few
  have := ok.all
  omega
theorem pos_bd (hi : s.Inv) (ok : s.Ok N) (hN : N ≤ 100000) : ∀ e ∈ s.all, 0 ≤ e.position ∧ e.position ≤ 1000000000 := by
  intro e he
  obtain ⟨i, hl, rfl⟩ := List.mem_iff_getElem.1 he
  have := hi.pos i hl
  have := ok.all
  omega
/-- A page as a call leaves it, in literals. -/
def PageLit (w : World) (ps : List StoredR) (pn : Int) (pe : Bool) (pr : Int) (e : Ending) (w' : World) : Prop :=
  ∃ A c, e = .returned (.tuple #[.agg #[.slice A ps.length c, .int .i64 pn, .bool pe], .int .i64 pr]) ∧ w'.ownsRow w.heap.size 92 8 (.slice A ps.length c) ps.length (ps.flatMap StoredR.cells) ∧ Only [] w w'
theorem page_lit {r : PageR × Int} {w : World} {n : Nat} {args : Array Value} (h : Calls Tryz.prog n args w (PageRet w r)) : Calls Tryz.prog n args w (PageLit w r.1.events r.1.next r.1.isEnd r.2) :=
  h.mono fun e w' ⟨pv, h1, h2, h3⟩ => by
    obtain ⟨A, c, rfl, _, _⟩ := own_form h2
    exact ⟨A, c, h1, h2, h3⟩
end
end
end Go.Proofs.YteinoiicnmemhaaGreatDoor
