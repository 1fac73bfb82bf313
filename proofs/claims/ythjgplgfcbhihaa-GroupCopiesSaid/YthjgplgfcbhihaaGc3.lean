/- Contracts: open, Checkpoint. -/
import Derived.Test.YthjgplgfcbhihaaGc2
set_option linter.unusedVariables false
set_option linter.unusedSimpArgs false
namespace Go.Proofs.Ythjgplgfcbhihaa
open Go.RowKit Go Go.Sort
def fvl (pf : ByteArray → Value) (l : List (ByteArray × List Int)) : List (ByteArray × Value) := l.map fun p => (p.1, pf p.1)
theorem fvl_split {pf : ByteArray → Value} {L : List (ByteArray × List Int)} {l1 l2 : List (ByteArray × Value)} {p : ByteArray × Value} (h : fvl pf L = l1 ++ p :: l2) :
    ∃ m1 q m2, L = m1 ++ q :: m2 ∧ l1 = fvl pf m1 ∧ p = (q.1, pf q.1) ∧ l2 = fvl pf m2 := by
  obtain ⟨m1, q, m2, h1, h2, h3, h4⟩ := map_split (f := id) (g := fun p : ByteArray × List Int => (p.1, pf p.1)) rfl ((List.map_id _).trans h.symm)
  exact ⟨m1, q, m2, h1, by simpa [fvl] using h2, h3, by simpa [fvl] using h4⟩
theorem wpList_next_fl {P : Program} {w : World} {r b : Nat} {kv : List (ByteArray × Value)} {pf : ByteArray → Value} {left : List (ByteArray × List Int)} {ops : Array Oper} {rest : List Oper} {o : Oper} {a : Act} {Q : Exit → Act → World → Prop}
    (hg : o.guard = none) {it : Operand} (hop : o.op = .next it false) (hit : a.eval it = .pointer (some ⟨r, 0, none⟩)) (h : IterIs Value.string w r b kv (fvl pf left))
    (hDone : left = [] → wpList P ops Q rest (a.put o.dst (.tuple #[.bool false])) w)
    (hMore : ∀ l1 q l2 w', left = l1 ++ q :: l2 → IterIs Value.string w' r b kv (fvl pf (l1 ++ l2)) → Only [r] w w' → (Instr.entry (.pointer (some ⟨r, 0, none⟩))).run P w' = .ok (.tuple #[.string q.1, pf q.1]) w' →
      wpList P ops Q rest (a.put o.dst (.tuple #[.bool true, .string q.1, pf q.1])) w') : wpList P ops Q (o :: rest) a w :=
  wpList_next_is hg hop hit h (fun h0 => hDone (by simpa [fvl] using h0)) (fun l1 p l2 w' h0 h1 h2 h3 => by
    obtain ⟨m1, q, m2, e1, rfl, rfl, rfl⟩ := fvl_split h0
    exact hMore m1 q m2 w' e1 (by simpa [fvl] using h1) h2 h3)
def flSum (l : List (ByteArray × List Int)) : Nat := (l.map (fun p => p.2.length)).sum
theorem flSum_split (l1 : List (ByteArray × List Int)) (q : ByteArray × List Int) (l2 : List (ByteArray × List Int)) : flSum (l1 ++ q :: l2) = q.2.length + flSum (l1 ++ l2) := by
  simp [flSum]
  omega
theorem least_comm (l m : List Int) (a : Int) : GS.least l (GS.least m a) = GS.least m (GS.least l a) := by
  cases l <;> cases m <;> simp [GS.least] <;> omega
def leastAll (l : List (ByteArray × List Int)) (a : Int) : Int := l.foldl (fun a p => GS.least p.2 a) a
theorem leastAll_split : ∀ (l1 : List (ByteArray × List Int)) (q : ByteArray × List Int) (l2 : List (ByteArray × List Int)) (a : Int), leastAll (l1 ++ q :: l2) a = leastAll (l1 ++ l2) (GS.least q.2 a)
  | [], q, l2, a => rfl
  | p :: l1, q, l2, a => by
    show leastAll (l1 ++ q :: l2) (GS.least p.2 a) = leastAll (l1 ++ l2) (GS.least p.2 (GS.least q.2 a))
    rw [leastAll_split l1 q l2, least_comm]
section
variable {w : World} {gb fb tb N : Nat} {vw vp va vs : Value} {pf : ByteArray → Value} {g : GS}
theorem GAt.row (h : GAt w gb fb tb vw vp va vs pf g) {p : ByteArray × List Int} (hp : p ∈ g.flight) : Own w (pf p.1) p.2 :=
  h.rows.own (pf p.1, p.2) (by
    unfold rowsOf
    simp only [List.mem_cons]
    exact .inr (.inr (.inr (.inr (List.mem_map.2 ⟨p, hp, rfl⟩)))))
theorem GS.Ok.open_le (hok : g.Ok N) : g.openN ≤ 21000 * N := by
  have h1 := hok.len hok.wa
  have h2 : ∀ (l : List (ByteArray × List Int)), (∀ p ∈ l, p.2.length ≤ 1000 * N) → flSum l ≤ l.length * (1000 * N) := by
    intro l
    induction l with
    | nil => intro _; simp [flSum]
    | cons p l ih =>
      intro h
      have h3 := h p (by simp)
      have h4 := ih (fun q hq => h q (by simp [hq]))
      simp only [flSum, List.map_cons, List.sum_cons, List.length_cons] at h4 ⊢
      rw [Nat.add_mul]
      omega
  have h3 := h2 g.flight (fun p hp => hok.len (hok.fl p hp))
  have h4 : g.flight.length * (1000 * N) ≤ 20 * (1000 * N) := Nat.mul_le_mul_right _ hok.few
  have h5 : g.openN = g.waiting.length + flSum g.flight := rfl
  omega
set_option maxRecDepth 100000 in
set_option maxHeartbeats 1000000 in
theorem open_any (h : GAt w gb fb tb vw vp va vs pf g) (hok : g.Ok N) (hN : N ≤ 100000) :
    Calls Try.prog 32 #[.pointer (some ⟨gb, 0, none⟩)] w fun e w' => e = .returned (.int .i64 g.openN) ∧ Only [] w w' := by
  have c4 : w.cell? ⟨gb, 4, none⟩ = some vw := h.blk.cell 4
  have c5 : w.cell? ⟨gb, 5, none⟩ = some (.map (some fb)) := h.blk.cell 5
  have hT := hok.open_le
  obtain ⟨T, hTe⟩ : ∃ T, T = g.openN := ⟨_, rfl⟩
  rw [← hTe] at hT ⊢
  have HT : Hid (g.waiting.length + flSum g.flight = T) := by unfold Hid; rw [hTe]; rfl
  have hwl := hok.len hok.wa
  have hrow : ∀ p ∈ g.flight, ∃ A cap, pf p.1 = .slice A p.2.length cap := fun p hp => by
    obtain ⟨A, cap, e, _⟩ := own_form (h.row hp)
    exact ⟨A, cap, e⟩
  have hbnd : ∀ p ∈ g.flight, p.2.length ≤ 1000 * N := fun p hp => hok.len (hok.fl p hp)
  obtain ⟨A, cap, rfl, _, _⟩ := own_form h.ownW
  have hmap := h.flight
  have hlt := h.flight.lt
  clear hTe
  go_enter Try.func32, Try.ntmps32
  go_wp2_with (first | (at_range; refine wpList_range_is rfl 50 rfl Try.underlying50 rfl hmap ?_; intro o' hit))
  go_frame
  go_loopw [3] (fun n wr => ∃ (s : Nat) (left : List (ByteArray × List Int)), n = .int .i64 s ∧ s ≤ T ∧ Hid (s + flSum left = T) ∧ (∀ p ∈ left, p ∈ g.flight) ∧ IterIs Value.string wr w.heap.size fb (fvl pf g.flight) (fvl pf left) ∧ Only [] w wr) (fun _ wr => wr.rangeLeft fb w.heap.size)
  case atStart => exact ⟨g.waiting.length, g.flight, rfl, by have := HT.out; omega, HT, fun p hp => hp, hit, (Only.refl _ _).alloc _⟩
  case round =>
    obtain ⟨s, left, rfl, hsT, hs, hin, hi, ho⟩ := hrel
    go_wp2_with (at_next; refine wpList_next_fl rfl rfl rfl hi ?_ ?_)
    · intro h0
      have hf : Hid (s = T) := by have := hs.out; rw [h0] at this; unfold Hid; simpa [flSum] using this
      clear h0 hs
      go_wp2
      go_ret
      exact ⟨by rw [hf.out]; rfl, ho⟩
    · intro l1 qn ql l2 w' hsp hi' ho' hen
      have hq : (qn, ql) ∈ g.flight := hin _ (by rw [hsp]; simp)
      obtain ⟨Aq, cq, hpq⟩ := hrow _ hq
      have hs2 : Hid (s + ql.length + flSum (l1 ++ l2) = T) := by have := hs.out; rw [hsp, flSum_split] at this; unfold Hid; simp only at this; omega
      have hqT : s + ql.length ≤ T := by have := hs2.out; omega
      have hmu := hi'.left_eq
      have hmu0 := hi.left_eq
      have HL : Hid (w'.rangeLeft fb w.heap.size < wr.rangeLeft fb w.heap.size) := by rw [Hid, hmu, hmu0, hsp]; simp [fvl]
      have hR : Hid (Only [] w w') := ho.step ho' (fun i hi => by simp at hi; subst hi; exact .inr (Nat.le_refl _))
      have hin' : ∀ p ∈ l1 ++ l2, p ∈ g.flight := fun p hp => hin p (by rw [hsp]; rcases List.mem_append.1 hp with q | q <;> simp [q])
      simp only at hpq hen ⊢
      rw [hpq] at hen ⊢
      clear hmu hmu0 hs hsp hi ho ho' hin hpq
      go_wp2
      go_roundw
      case rel => exact ⟨s + ql.length, l1 ++ l2, by go_num, hqT, hs2, hin', hi', hR.out⟩
      case measure => exact HL.out
end
end Go.Proofs.Ythjgplgfcbhihaa
