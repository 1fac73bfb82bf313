/- What GroupRetries comes to, in plain states. -/
import Derived.Test.YthjgplgfcbhihaaGl1
set_option linter.unusedVariables false
set_option linter.unusedSimpArgs false
namespace Go.Proofs.Ythjgplgfcbhihaa
open Go.RowKit
/-- It waits, given T times. -/
def rS (r : Int) (T : List (Int × Int)) : GS := ⟨0, 1, r, 1, [0], [(nA, [])], [], [], [], T⟩
/-- It is in flight. -/
def fS (r t : Int) : GS := ⟨0, 1, r, 1, [], [(nA, [0])], [], [], [], [(0, t)]⟩
/-- It is parked. -/
def pS (r t : Int) : GS := ⟨0, 1, r, 1, [], [(nA, [])], [0], [], [], [(0, t)]⟩
def trOf (k : Nat) : List (Int × Int) := if k = 0 then [] else [(0, (k : Int))]
theorem re_join (r : Int) : (GS.new 0 1 r).join nA = (0, ⟨0, 1, r, 0, [], [(nA, [])], [], [], [], []⟩) := rfl
theorem re_feed (r : Int) : (⟨0, 1, r, 0, [], [(nA, [])], [], [], [], []⟩ : GS).feed 1 = (1, rS r []) := by
  unfold GS.feed
  rw [if_neg (by decide)]
  have e : (max (min (1 : Int) (1000 - ((⟨0, 1, r, 0, [], [(nA, [])], [], [], [], []⟩ : GS).openN : Int))) 0).toNat = 1 := rfl
  dsimp only
  rw [e]
  have e2 : (([] : List Int) ++ rangeUp 1 0) = [0] := by decide
  rw [e2, ris_sort (by simp [Ris])]
  rfl
theorem re_next (r : Int) (k : Nat) : (rS r (trOf k)).next1 nA = ((0, true), fS r (k + 1)) := by
  cases k with
  | zero => rfl
  | succ k =>
    show (rS r [(0, ((k + 1 : Nat) : Int))]).next1 nA = _
    rfl
theorem re_fl (r t : Int) : (fS r t).fl nA = [0] := rfl
theorem re_tr (r t : Int) : (fS r t).tr 0 = t := rfl
theorem re_take (r t : Int) : (fS r t).take nA [0] = ([0], ⟨0, 1, r, 1, [], [(nA, [])], [], [], [], [(0, t)]⟩) := rfl
theorem re_nak_le {r t : Int} (h : t ≤ r) : (fS r t).nak nA 2 [0] = (1, rS r [(0, t)]) := by
  unfold GS.nak
  rw [if_neg (by decide), re_take]
  have e : GS.nak1 2 (⟨0, 1, r, 1, [], [(nA, [])], [], [], [], [(0, t)]⟩ : GS) 0 = rS r [(0, t)] := by
    unfold GS.nak1
    rw [if_neg (by decide), if_pos ⟨rfl, h⟩]
    rfl
  show ((([0] : List Int).length : Int), if ([0] : List Int) = [] then _ else (GS.nak1 2 (⟨0, 1, r, 1, [], [(nA, [])], [], [], [], [(0, t)]⟩ : GS) 0).forget) = _
  rw [e, if_neg (by decide)]
  rfl
theorem re_nak_gt {r t : Int} (h : ¬t ≤ r) : (fS r t).nak nA 2 [0] = (1, pS r t) := by
  unfold GS.nak
  rw [if_neg (by decide), re_take]
  have e : GS.nak1 2 (⟨0, 1, r, 1, [], [(nA, [])], [], [], [], [(0, t)]⟩ : GS) 0 = pS r t := by
    unfold GS.nak1
    rw [if_neg (by decide), if_neg (fun q => h q.2)]
    rfl
  show ((([0] : List Int).length : Int), if ([0] : List Int) = [] then _ else (GS.nak1 2 (⟨0, 1, r, 1, [], [(nA, [])], [], [], [], [(0, t)]⟩ : GS) 0).forget) = _
  rw [e, if_neg (by decide)]
  rfl
theorem re_who (r t : Int) : (fS r t).who = [nA] := by
  unfold GS.who fS
  simp
theorem re_late (r t : Int) : (fS r t).late = (fS r t).nak nA 2 [0] := by
  unfold GS.late
  rw [re_who]
  show ((0 : Int) + ((fS r t).nak nA 2 ((fS r t).fl nA)).1, ((fS r t).nak nA 2 ((fS r t).fl nA)).2) = _
  rw [re_fl, Int.zero_add]
theorem re_end (r t : Int) : (pS r t).next1 nA = ((0, false), pS r t) := rfl
theorem re_ck1 (r t : Int) : (pS r t).checkpoint = 1 := rfl
theorem re_rep (r t : Int) : (pS r t).replay = (1, rS r []) := rfl
theorem re_ck0 (r : Int) : (rS r []).checkpoint = 0 := rfl
theorem re_tr0 (r : Int) : (rS r []).tr 0 = 0 := rfl
end Go.Proofs.Ythjgplgfcbhihaa
