/- Ranging over a map whose entries are known as an association list: what is still to come is a list too; which entry comes next is left open. No program is named. -/
import Derived.Test.YthjgplgfcbhihaaBase
set_option linter.unusedVariables false
set_option linter.unusedSimpArgs false
namespace Go.Proofs.Ythjgplgfcbhihaa
open Go.RowKit Go.MapKept Go.ChangeMaps

section
variable {κ : Type} [DecidableEq κ]
/-- Block r is an iterator over the map in block b that holds kv; left is still to come. -/
def IterIs (enc : κ → Value) (w : World) (r b : Nat) (kv left : List (κ × Value)) : Prop :=
  ∃ es clock since seen c0, w.heap[b]? = some (.map es clock) ∧ Stamped es clock ∧ es.toList.map (fun x => (x.key, x.val)) = kv.map (fun p => (enc p.1, p.2)) ∧
    w.heap[r]? = some (.mapIter (some b) since seen c0) ∧ (∀ x ∈ es.toList, x.born < since) ∧ since ≤ c0 ∧ since ≤ clock ∧
    (leftOf es seen).toList.map (fun x => (x.key, x.val)) = left.map (fun p => (enc p.1, p.2))

set_option linter.unusedSectionVars false
variable {enc : κ → Value} {w w' : World} {r b : Nat} {kv left : List (κ × Value)}
theorem IterIs.map (h : IterIs enc w r b kv left) : MapIs enc w b kv := by
  obtain ⟨es, clock, _, _, _, h1, h2, h3, _⟩ := h
  exact ⟨es, clock, h1, h2, h3⟩
theorem IterIs.ne (h : IterIs enc w r b kv left) : r ≠ b := by
  obtain ⟨es, clock, _, _, _, h1, _, _, h2, _⟩ := h
  intro e
  subst e
  rw [h1] at h2
  simp at h2
theorem IterIs.lt (h : IterIs enc w r b kv left) : r < w.heap.size ∧ b < w.heap.size := by
  obtain ⟨es, clock, _, _, _, h1, _, _, h2, _⟩ := h
  exact ⟨lt_of_block h2, lt_of_block h1⟩
theorem IterIs.of_eq (h : IterIs enc w r b kv left) (hr : w'.heap[r]? = w.heap[r]?) (hb : w'.heap[b]? = w.heap[b]?) : IterIs enc w' r b kv left := by
  obtain ⟨es, clock, since, seen, c0, h1, h2, h3, h4, h5⟩ := h
  exact ⟨es, clock, since, seen, c0, hb.trans h1, h2, h3, hr.trans h4, h5⟩
theorem IterIs.only {S : List Nat} (h : IterIs enc w r b kv left) (k : Only S w w') (hr : r ∉ S) (hb : b ∉ S) : IterIs enc w' r b kv left :=
  h.of_eq (k.block r h.lt.1 hr) (k.block b h.lt.2 hb)
theorem IterIs.left_eq (h : IterIs enc w r b kv left) : w.rangeLeft b r = left.length := by
  obtain ⟨es, clock, since, seen, c0, h1, _, _, h2, _, _, _, h3⟩ := h
  have hl := congrArg List.length h3
  simp only [World.rangeLeft, h1, h2]
  simpa using hl

theorem leftOf_push (es : Array MapEntry) (hn : (es.toList.map (·.born)).Nodup) (seen : Array Nat) (l1 l2 : List MapEntry) (e : MapEntry) (h : (leftOf es seen).toList = l1 ++ e :: l2) : (leftOf es (seen.push e.born)).toList = l1 ++ l2 := by
  have hf : (leftOf es (seen.push e.born)).toList = (leftOf es seen).toList.filter (fun x => x.born != e.born) := by
    simp only [leftOf, Array.toList_filter, List.filter_filter]
    apply List.filter_congr
    intro x _
    rw [Bool.eq_iff_iff]
    simp
    exact ⟨fun hx => ⟨hx.2, hx.1⟩, fun hx => ⟨hx.2, hx.1⟩⟩
  have hs : ((leftOf es seen).toList.map (·.born)).Nodup := by
    simp only [leftOf, Array.toList_filter]
    exact List.Nodup.sublist (List.Sublist.map _ List.filter_sublist) hn
  rw [hf, h]
  rw [h] at hs
  simp only [List.map_append, List.map_cons] at hs
  have hs' := List.nodup_append.1 hs
  obtain ⟨_, hs2, hs3⟩ := hs'
  have hs4 := List.nodup_cons.1 hs2
  rw [List.filter_append, List.filter_cons_of_neg (by simp)]
  rw [List.filter_eq_self.2, List.filter_eq_self.2]
  · intro x hx
    simp only [bne_iff_ne]
    intro q
    exact hs4.1 (List.mem_map.2 ⟨x, hx, q⟩)
  · intro x hx
    simp only [bne_iff_ne]
    intro q
    exact hs3 x.born (List.mem_map.2 ⟨x, hx, rfl⟩) e.born (by simp) q

theorem map_split {α β γ : Type} {f : α → γ} {g : β → γ} : ∀ {l : List α} {l1 : List α} {x : α} {l2 : List α} {m : List β}, l = l1 ++ x :: l2 → l.map f = m.map g → ∃ m1 y m2, m = m1 ++ y :: m2 ∧ l1.map f = m1.map g ∧ f x = g y ∧ l2.map f = m2.map g
  | l, [], x, l2, m, h, e => by
    subst h
    cases m with
    | nil => simp at e
    | cons y m => simp at e; exact ⟨[], y, m, rfl, rfl, e.1, e.2⟩
  | l, a :: l1, x, l2, m, h, e => by
    subst h
    cases m with
    | nil => simp at e
    | cons y m =>
      simp only [List.cons_append, List.map_cons, List.cons.injEq] at e
      obtain ⟨m1, z, m2, p1, p2, p3, p4⟩ := map_split (l := l1 ++ x :: l2) rfl e.2
      exact ⟨y :: m1, z, m2, by simp [p1], by simp [e.1, p2], p3, p4⟩

variable {P : Program} {t k e : TypeId}
theorem MapIs.range (ht : P.underlying t = some (.map k e)) (h : MapIs enc w b kv) :
    ∃ o, (Instr.range t (.map (some b))).run P w = .ok (.pointer (some ⟨w.heap.size, 0, none⟩)) (w.alloc o) ∧ IterIs enc (w.alloc o) w.heap.size b kv kv := by
  have hlt := h.lt
  obtain ⟨es, clock, hb, hs, hm⟩ := h
  refine ⟨.mapIter (some b) clock #[] clock, ?_, es, clock, clock, #[], clock, ?_, hs, hm, heap_alloc_new w _, hs.1, Nat.le_refl _, Nat.le_refl _, ?_⟩
  · simp [Instr.range, run_underlying ht, MapKept.run_getObj_map hb, Result.andThen]
  · exact (Below.heap_alloc _ _ _ hlt).trans hb
  · have : leftOf es #[] = es := by simp [leftOf]
    rw [this]; exact hm

theorem IterIs.next (h : IterIs enc w r b kv left) (ty : TypeId) :
    (left = [] ∧ (Instr.next (.pointer (some ⟨r, 0, none⟩)) false ty).run P w = .ok (.tuple #[.bool false]) w) ∨
    ∃ l1 p l2 w', left = l1 ++ p :: l2 ∧ (Instr.next (.pointer (some ⟨r, 0, none⟩)) false ty).run P w = .ok (.tuple #[.bool true, enc p.1, p.2]) w' ∧ IterIs enc w' r b kv (l1 ++ l2) ∧ Only [r] w w' ∧
      (Instr.entry (.pointer (some ⟨r, 0, none⟩))).run P w' = .ok (.tuple #[enc p.1, p.2]) w' := by
  have hne := h.ne
  obtain ⟨es, clock, since, seen, c0, hb, hs, hm, hr, hold, hsc, hsk, hl⟩ := h
  rcases run_next_at (P := P) w ty r b since c0 seen es clock hr hb hold hsc with ⟨h0, hrun⟩ | ⟨x, hx, w1, hw1, hrun⟩
  · refine .inl ⟨?_, hrun⟩
    have h1 : (leftOf es seen).toList = [] := by simpa using h0
    rw [h1] at hl
    simpa using hl.symm
  · obtain ⟨s1, s2, hsp⟩ := List.append_of_mem hx
    obtain ⟨l1, p, l2, e1, e2, e3, e4⟩ := map_split hsp hl
    simp only [Prod.mk.injEq] at e3
    have hheap : w1.heap = w.heap := by rcases hw1 with rfl | rfl <;> rfl
    have ho1 : Only [r] w w1 := by rcases hw1 with rfl | rfl; exact Only.refl _ _; exact (Only.refl _ _).drew
    have hr1 : r < w1.heap.size := by rw [hheap]; exact lt_of_block hr
    have ha : (setBlock w1 r (.mapIter (some b) since (seen.push x.born) clock)).heap[r]? = some (.mapIter (some b) since (seen.push x.born) clock) := by
      simp [setBlock, hr1]
    have hbb : (setBlock w1 r (.mapIter (some b) since (seen.push x.born) clock)).heap[b]? = some (.map es clock) := by
      simp only [setBlock, Array.getElem?_setIfInBounds]
      rw [if_neg hne, hheap, hb]
    have hx' : x ∈ es.toList := (mem_left hx).1
    refine .inr ⟨l1, p, l2, _, e1, ?_, ⟨es, clock, since, seen.push x.born, clock, hbb, hs, hm, ha, hold, hsk, hsk, ?_⟩, ho1.setBlock (.inl (by simp)) _, ?_⟩
    · rw [← e3.1, ← e3.2]; exact hrun
    · rw [leftOf_push es hs.2.1 seen s1 s2 x hsp]
      simp [e2, e4]
    · rw [← e3.1, ← e3.2]
      exact run_entry_at _ r b since seen es clock x ha hbb hx' hs.2.1

variable {ops : Array Oper} {rest : List Oper} {o : Oper} {a : Act} {Q : Exit → Act → World → Prop}
theorem wpList_range_is (hg : o.guard = none) {m : Operand} (t : TypeId) (hop : o.op = .range t m) (ht : P.underlying t = some (.map k e)) (hm : a.eval m = .map (some b)) (h : MapIs enc w b kv)
    (hK : ∀ o', IterIs enc (w.alloc o') w.heap.size b kv kv → wpList P ops Q rest (a.put o.dst (.pointer (some ⟨w.heap.size, 0, none⟩))) (w.alloc o')) : wpList P ops Q (o :: rest) a w := by
  refine wpList_plain hg fun K' hK' => ?_
  obtain ⟨o', hrun, r1⟩ := h.range ht
  unfold Oper.wp
  simp [execOp, hop, hm, hrun, Result.andThen]
  exact hK' _ _ (hK o' r1)
theorem wpList_next_is (hg : o.guard = none) {it : Operand} (hop : o.op = .next it false) (hit : a.eval it = .pointer (some ⟨r, 0, none⟩)) (h : IterIs enc w r b kv left)
    (hDone : left = [] → wpList P ops Q rest (a.put o.dst (.tuple #[.bool false])) w)
    (hMore : ∀ l1 p l2 w', left = l1 ++ p :: l2 → IterIs enc w' r b kv (l1 ++ l2) → Only [r] w w' → (Instr.entry (.pointer (some ⟨r, 0, none⟩))).run P w' = .ok (.tuple #[enc p.1, p.2]) w' →
      wpList P ops Q rest (a.put o.dst (.tuple #[.bool true, enc p.1, p.2])) w') : wpList P ops Q (o :: rest) a w := by
  refine wpList_plain hg fun K' hK' => ?_
  unfold Oper.wp
  rcases h.next (P := P) o.type with ⟨h0, hrun⟩ | ⟨l1, p, l2, w', h0, hrun, h1, h2, h3⟩
  · simp [execOp, hop, hit, hrun, Result.andThen]
    exact hK' _ _ (hDone h0)
  · simp [execOp, hop, hit, hrun, Result.andThen]
    exact hK' _ _ (hMore l1 p l2 w' h0 h1 h2 h3)
end
end Go.Proofs.Ythjgplgfcbhihaa
