/- A group of consumers as plain data: what each method of sub.Group answers and leaves, as functions on lists. No program is named. -/
import Derived.Test.YthjgplgfcbhihaaBase
set_option linter.unusedVariables false
set_option linter.unusedSimpArgs false
namespace Go.Proofs.Ythjgplgfcbhihaa
open Go.RowKit
/-! ## lists in order -/
def lb (l : List Int) (n : Int) : Nat := l.countP (fun x => decide (x < n))
def insL (l : List Int) (n : Int) : List Int := if l.contains n then l else l.take (lb l n) ++ n :: l.drop (lb l n)
def remL (l : List Int) (n : Int) : List Int := if l.contains n then l.take (lb l n) ++ l.drop (lb l n + 1) else l
/-- Strictly rising. -/
def Ris (l : List Int) : Prop := l.Pairwise (· < ·)
theorem Ris.le {l : List Int} (h : Ris l) : l.Pairwise (· ≤ ·) := h.imp (fun h => Int.le_of_lt h)
theorem lb_split : ∀ (l : List Int) (n : Int), Ris l → (∀ x ∈ l.take (lb l n), x < n) ∧ (∀ x ∈ l.drop (lb l n), n ≤ x)
  | [], _, _ => ⟨fun x h => (by cases h), fun x h => (by cases h)⟩
  | y :: l, n, h => by
    have h' := List.pairwise_cons.1 h
    by_cases q : y < n
    · have e : lb (y :: l) n = lb l n + 1 := by simp [lb, q]
      obtain ⟨h1, h2⟩ := lb_split l n h'.2
      rw [e, List.take_succ_cons, List.drop_succ_cons]
      refine ⟨fun x hx => ?_, h2⟩
      rcases List.mem_cons.1 hx with rfl | hx
      · exact q
      · exact h1 x hx
    · have e0 : ∀ x ∈ y :: l, n ≤ x := fun x hx => by
        rcases List.mem_cons.1 hx with rfl | hx
        · omega
        · have := h'.1 x hx
          omega
      have e : lb (y :: l) n = 0 := List.countP_eq_zero.2 (fun x hx => by have := e0 x hx; simp; omega)
      rw [e]
      exact ⟨fun x hx => (by cases hx), e0⟩
theorem lb_le (l : List Int) (n : Int) : lb l n ≤ l.length := List.countP_le_length
theorem lb_found {l : List Int} {n : Int} (h : Ris l) (hc : l.contains n = true) : l[lb l n]? = some n := by
  have hm : n ∈ l := by simpa using hc
  obtain ⟨h1, h2⟩ := lb_split l n h
  rw [← List.take_append_drop (lb l n) l] at hm
  rcases List.mem_append.1 hm with q | q
  · have := h1 n q
    omega
  · have hr : Ris (l.drop (lb l n)) := List.Pairwise.sublist (List.drop_sublist _ _) h
    cases hd : l.drop (lb l n) with
    | nil => rw [hd] at q; cases q
    | cons y r =>
      rw [hd] at q hr h2
      have hy := h2 y (by simp)
      have e : y = n := by
        rcases List.mem_cons.1 q with q | q
        · exact q.symm
        · have := (List.pairwise_cons.1 hr).1 n q
          omega
      have := congrArg (fun l => l[0]?) hd
      simp only [List.getElem?_drop, Nat.add_zero, List.getElem?_cons_zero] at this
      rw [this, e]
theorem mem_insL {l : List Int} {n x : Int} : x ∈ insL l n ↔ x = n ∨ x ∈ l := by
  unfold insL
  split
  · rename_i h
    have hm : n ∈ l := by simpa using h
    constructor
    · exact .inr
    · rintro (rfl | q)
      · exact hm
      · exact q
  · have e : x ∈ l ↔ x ∈ l.take (lb l n) ∨ x ∈ l.drop (lb l n) := by
      rw [← List.mem_append, List.take_append_drop]
    rw [List.mem_append, List.mem_cons, e]
    constructor
    · rintro (q | q | q)
      · exact .inr (.inl q)
      · exact .inl q
      · exact .inr (.inr q)
    · rintro (q | q | q)
      · exact .inr (.inl q)
      · exact .inl q
      · exact .inr (.inr q)
theorem ris_insL {l : List Int} {n : Int} (h : Ris l) : Ris (insL l n) := by
  unfold insL
  split
  · exact h
  · rename_i hc
    have hn : n ∉ l := by simpa using hc
    obtain ⟨h1, h2⟩ := lb_split l n h
    refine List.pairwise_append.2 ⟨List.Pairwise.sublist (List.take_sublist _ _) h, List.pairwise_cons.2 ⟨fun x hx => ?_, List.Pairwise.sublist (List.drop_sublist _ _) h⟩, fun x hx y hy => ?_⟩
    · have := h2 x hx
      have hne : x ≠ n := fun e => hn (by rw [← e]; exact List.mem_of_mem_drop hx)
      omega
    · have hx1 := h1 x hx
      rcases List.mem_cons.1 hy with rfl | hy
      · exact hx1
      · have := h2 y hy
        omega
theorem len_insL (l : List Int) (n : Int) : (insL l n).length = if l.contains n then l.length else l.length + 1 := by
  unfold insL
  split
  · rfl
  · have := lb_le l n
    simp
    omega
theorem ris_remL {l : List Int} {n : Int} (h : Ris l) : Ris (remL l n) := by
  unfold remL
  split
  · refine List.Pairwise.sublist ?_ h
    have e : l = l.take (lb l n) ++ l.drop (lb l n) := (List.take_append_drop _ _).symm
    conv => rhs; rw [e]
    refine List.Sublist.append (List.Sublist.refl _) ?_
    rw [← List.drop_drop]
    exact List.drop_sublist _ _
  · exact h
theorem mem_remL {l : List Int} {n x : Int} (h : Ris l) : x ∈ remL l n ↔ x ∈ l ∧ x ≠ n := by
  unfold remL
  split
  · rename_i hc
    have hf := lb_found h hc
    have hlt : lb l n < l.length := (List.getElem?_eq_some_iff.1 hf).1
    have hg : l[lb l n] = n := (List.getElem?_eq_some_iff.1 hf).2
    have e : l = l.take (lb l n) ++ n :: l.drop (lb l n + 1) := by
      conv => lhs; rw [← List.take_append_drop (lb l n) l, List.drop_eq_getElem_cons hlt, hg]
    have hr := h
    rw [e] at hr
    obtain ⟨_, h2, h3⟩ := List.pairwise_append.1 hr
    have h4 := List.pairwise_cons.1 h2
    have hm : x ∈ l ↔ x ∈ l.take (lb l n) ∨ x = n ∨ x ∈ l.drop (lb l n + 1) := by
      conv => lhs; rw [e]
      rw [List.mem_append, List.mem_cons]
    rw [List.mem_append, hm]
    constructor
    · rintro (q | q)
      · exact ⟨.inl q, fun e2 => by have := h3 x q n (by simp); omega⟩
      · exact ⟨.inr (.inr q), fun e2 => by have := h4.1 x q; omega⟩
    · rintro ⟨q | q | q, hne⟩
      · exact .inl q
      · exact absurd q hne
      · exact .inr q
  · rename_i hc
    have hn : n ∉ l := by simpa using hc
    exact ⟨fun q => ⟨q, fun e => hn (by rw [← e]; exact q)⟩, fun q => q.1⟩
theorem len_remL {l : List Int} {n : Int} (h : Ris l) : (remL l n).length = if l.contains n then l.length - 1 else l.length := by
  unfold remL
  split
  · rename_i hc
    have hf := lb_found h hc
    have hlt : lb l n < l.length := (List.getElem?_eq_some_iff.1 hf).1
    simp
    omega
  · rfl
/-! ## a group -/
structure GS where
  from_ : Int
  buffer : Int
  retries : Int
  next : Int
  waiting : List Int
  flight : List (ByteArray × List Int)
  parked : List Int
  acked : List Int
  skipped : List Int
  tries : List (Int × Int)
def rangeUp : Nat → Int → List Int
  | 0, _ => []
  | n + 1, a => a :: rangeUp n (a + 1)
namespace GS
def new (f b r : Int) : GS := ⟨f, b, r, f, [], [], [], [], [], []⟩
def okNew (f b r : Int) : Bool := decide (0 ≤ f ∧ f ≤ 1099511627776 ∧ 1 ≤ b ∧ b ≤ 100 ∧ 0 ≤ r ∧ r ≤ 100)
def is (g : GS) (who : ByteArray) : Bool := (aget g.flight who).isSome
def fl (g : GS) (who : ByteArray) : List Int := (aget g.flight who).getD []
def tr (g : GS) (n : Int) : Int := (aget g.tries n).getD 0
def join (g : GS) (who : ByteArray) : Int × GS :=
  if who.size < 1 ∨ 60 < who.size then (1, g) else if g.is who then (9, g) else if 20 ≤ g.flight.length then (20, g) else (0, { g with flight := aput g.flight who [] })
def leave (g : GS) (who : ByteArray) : Int × GS :=
  if g.is who then (0, { g with waiting := (g.fl who).foldl insL g.waiting, flight := adel g.flight who }) else (8, g)
def openN (g : GS) : Nat := g.waiting.length + (g.flight.map (fun p => p.2.length)).sum
def feed (g : GS) (n : Int) : Int × GS :=
  if n < 1 then (0, g)
  else
    let k := (max (min n (1000 - g.openN)) 0).toNat
    (k, { g with waiting := (g.waiting ++ rangeUp k g.next).mergeSort (fun x y => decide (x ≤ y)), next := g.next + k })
def take1 (g : GS) (who : ByteArray) : Option (Int × GS) :=
  if g.is who = false ∨ g.buffer ≤ (g.fl who).length then none
  else match g.waiting with
    | [] => none
    | n :: w => some (n, { g with waiting := w, flight := aput g.flight who (insL (g.fl who) n), tries := aput g.tries n (g.tr n + 1) })
def least (l : List Int) (d : Int) : Int := match l with | [] => d | x :: _ => min d x
def checkpoint (g : GS) : Int := g.flight.foldl (fun a p => least p.2 a) (least g.waiting g.next)
/-- What of l is in somebody's flight is taken out, one behind the other. -/
def takeGo : List Int → List Int → List Int × List Int
  | f, [] => (f, [])
  | f, n :: l => if f.contains n then ((takeGo (remL f n) l).1, n :: (takeGo (remL f n) l).2) else takeGo f l
def take (g : GS) (who : ByteArray) (l : List Int) : List Int × GS :=
  if g.is who then
    let r := takeGo (g.fl who) l
    (r.2, if r.2 = [] then g else { g with flight := aput g.flight who r.1 })
  else ([], g)
def forget (g : GS) : GS :=
  { g with acked := g.acked.filter (fun n => !decide (n < g.checkpoint)), skipped := g.skipped.filter (fun n => !decide (n < g.checkpoint)) }
def ack (g : GS) (who : ByteArray) (l : List Int) : Int × GS :=
  let r := g.take who l
  let h : GS := { r.2 with acked := r.1.foldl insL r.2.acked, tries := r.1.foldl adel r.2.tries }
  (r.1.length, if r.1 = [] then h else h.forget)
def nak1 (how : Int) (g : GS) (n : Int) : GS :=
  if how = 3 then { g with skipped := insL g.skipped n, tries := adel g.tries n }
  else if how = 2 ∧ g.tr n ≤ g.retries then { g with waiting := insL g.waiting n }
  else { g with parked := insL g.parked n }
def nak (g : GS) (who : ByteArray) (how : Int) (l : List Int) : Int × GS :=
  if how ≠ 1 ∧ how ≠ 2 ∧ how ≠ 3 then (0, g)
  else
    let r := g.take who l
    let h := r.1.foldl (nak1 how) r.2
    (r.1.length, if r.1 = [] then h else h.forget)
def who (g : GS) : List ByteArray := ((g.flight.map (fun p => p.1.data.toList)).mergeSort (fun x y => decide (x ≤ y))).map (fun x => ⟨x.toArray⟩)
def lateGo : List ByteArray → Int → GS → Int × GS
  | [], n, g => (n, g)
  | w :: l, n, g => lateGo l (n + (g.nak w 2 (g.fl w)).1) (g.nak w 2 (g.fl w)).2
def late (g : GS) : Int × GS := lateGo g.who 0 g
def replay (g : GS) : Int × GS :=
  (g.parked.length, { g with parked := [], waiting := g.parked.foldl insL g.waiting, tries := g.parked.foldl adel g.tries })
end GS
end Go.Proofs.Ythjgplgfcbhihaa
