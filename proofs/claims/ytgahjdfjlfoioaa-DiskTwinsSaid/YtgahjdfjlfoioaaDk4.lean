/- Contracts: Used, full. -/
import Derived.Test.YtgahjdfjlfoioaaDk3
import Derived.Test.YtgahjdfjlfoioaaIter
namespace Go.Proofs.Ytgahjdfjlfoioaa
open Go.RowKit

def fvals (l : List (ByteArray × File)) : List (ByteArray × Value) := l.map fun p => (p.1, p.2.val)
theorem fvals_split {L : List (ByteArray × File)} {l1 l2 : List (ByteArray × Value)} {p : ByteArray × Value} (h : fvals L = l1 ++ p :: l2) :
    ∃ m1 q m2, L = m1 ++ q :: m2 ∧ l1 = fvals m1 ∧ p = (q.1, .agg #[.string q.2.b, .int .i64 q.2.lasts, .bool q.2.known]) ∧ l2 = fvals m2 := by
  obtain ⟨m1, q, m2, h1, h2, h3, h4⟩ := map_split (f := id) (g := fun p : ByteArray × File => (p.1, p.2.val)) rfl ((List.map_id _).trans h.symm)
  exact ⟨m1, q, m2, h1, by simpa [fvals] using h2, h3, by simpa [fvals] using h4⟩

theorem wpList_next_files {P : Program} {w : World} {r b : Nat} {kv : List (ByteArray × Value)} {left : List (ByteArray × File)} {ops : Array Oper} {rest : List Oper} {o : Oper} {a : Act} {Q : Exit → Act → World → Prop}
    (hg : o.guard = none) {it : Operand} (hop : o.op = .next it false) (hit : a.eval it = .pointer (some ⟨r, 0, none⟩)) (h : IterIs Value.string w r b kv (fvals left))
    (hDone : left = [] → wpList P ops Q rest (a.put o.dst (.tuple #[.bool false])) w)
    (hMore : ∀ l1 q l2 w', left = l1 ++ q :: l2 → IterIs Value.string w' r b kv (fvals (l1 ++ l2)) → Only [r] w w' → (Instr.entry (.pointer (some ⟨r, 0, none⟩))).run P w' = .ok (.tuple #[.string q.1, .agg #[.string q.2.b, .int .i64 q.2.lasts, .bool q.2.known]]) w' →
      wpList P ops Q rest (a.put o.dst (.tuple #[.bool true, .string q.1, .agg #[.string q.2.b, .int .i64 q.2.lasts, .bool q.2.known]])) w') : wpList P ops Q (o :: rest) a w :=
  wpList_next_is hg hop hit h (fun h0 => hDone (by simpa [fvals] using h0)) (fun l1 p l2 w' h0 h1 h2 h3 => by
    obtain ⟨m1, q, m2, e1, rfl, rfl, rfl⟩ := fvals_split h0
    exact hMore m1 q m2 w' e1 (by simpa [fvals] using h1) h2 h3)

theorem used_any {w : World} {db mb : Nat} {d : DS} {kv : Value} {M : Nat} (h : DiskAt w db mb d kv) (hM : sizes d.fs ≤ M) (hM2 : M ≤ 4611686018427387904) :
    Calls Try.prog 12 #[.pointer (some ⟨db, 0, none⟩)] w fun e w' => e = .returned (.int .i64 d.used) ∧ Only [] w w' := by
  have c2 : w.cell? ⟨db, 2, none⟩ = some (.map (some mb)) := h.blk.cell 2
  have hml := h.map.lt
  have hu : d.used = (sizes d.fs : Int) := rfl
  rw [hu]
  clear hu
  obtain ⟨T, hT⟩ : ∃ T, T = sizes d.fs := ⟨_, rfl⟩
  have HT := Lib.hid hT
  have hTM : T ≤ 4611686018427387904 := by omega
  rw [← hT]
  clear hT hM
  have hmap := h.map
  have hm2 : ∀ o1 : Obj, MapIs Value.string (w.alloc o1) mb (fvals d.fs) := fun o1 => hmap.alloc _
  go_enter Try.func12, Try.ntmps12
  go_wp2_with (first | (at_range; refine wpList_range_is rfl 55 rfl Try.underlying55 rfl hmap ?_; intro o' hit))
  go_frame
  go_loopw [3] (fun n wr => ∃ (s : Nat) (left : List (ByteArray × File)), n = .int .i64 s ∧ s ≤ T ∧ Hid (s + sizes left = T) ∧ IterIs Value.string wr w.heap.size mb (fvals d.fs) (fvals left) ∧ Only [] w wr) (fun _ wr => wr.rangeLeft mb w.heap.size)
  case atStart => exact ⟨0, d.fs, rfl, Nat.zero_le _, by have := HT.out; unfold Hid; omega, hit, (Only.refl _ _).alloc _⟩
  case round =>
    obtain ⟨s, left, rfl, hsT, hs, hi, ho⟩ := hrel
    go_wp2_with (at_next; refine wpList_next_files rfl rfl rfl hi ?_ ?_)
    · intro h0
      have hf : Hid (s = T) := by have := hs.out; rw [h0] at this; unfold Hid; simpa [sizes] using this
      clear h0 hs
      go_wp2
      go_ret
      exact ⟨by rw [hf.out]; rfl, ho⟩
    · intro l1 qn q l2 w' hsp hi' ho' hen
      have hs2 : Hid (q.b.size + s + sizes (l1 ++ l2) = T) := by have := hs.out; rw [hsp, sizes_split] at this; simp only at this; unfold Hid; omega
      have hq : q.b.size + s ≤ T := by have := hs2.out; omega
      have hmu := hi'.left_eq
      have hmu0 := hi.left_eq
      have HL : Hid (w'.rangeLeft mb w.heap.size < wr.rangeLeft mb w.heap.size) := by rw [Hid, hmu, hmu0, hsp]; simp [fvals]
      have hR : Hid (Only [] w w') := ho.step ho' (fun i hi => by simp at hi; subst hi; exact .inr (Nat.le_refl _))
      have hS := ho.size
      have hw' := hi'.lt
      clear hmu hmu0 hs hsp hi ho ho'
      go_wp2
      go_roundw
      case rel => exact ⟨q.b.size + s, l1 ++ l2, by go_num, by omega, hs2, hi'.of_eq (Below.heap_alloc _ _ _ hw'.1) (Below.heap_alloc _ _ _ hw'.2), (hR.out).alloc _⟩
      case measure =>
        have e : ∀ o1 : Obj, (w'.alloc o1).rangeLeft mb w.heap.size = w'.rangeLeft mb w.heap.size := fun o1 => by
          simp only [World.rangeLeft, Below.heap_alloc _ _ _ hw'.1, Below.heap_alloc _ _ _ hw'.2]
        rw [e]
        exact HL.out
theorem used_nil (w : World) : Calls Try.prog 12 #[.pointer none] w fun e w' => e = .returned (.int .i64 0) ∧ w = w' := by
  go_enter Try.func12, Try.ntmps12
  go_wp2
  go_ret
  exact ⟨rfl, rfl⟩
end Go.Proofs.Ytgahjdfjlfoioaa
