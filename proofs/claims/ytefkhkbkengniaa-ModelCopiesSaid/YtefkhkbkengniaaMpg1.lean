/- Lists of stored events in memory that are searched, set and cleared. No program is named. -/
import Derived.Test.YtefkhkbkengniaaMpg0
import Derived.Lib.SliceRun
set_option linter.unusedVariables false
set_option linter.unusedSimpArgs false
namespace Go.Proofs.Ytefkhkbkengniaa
open Go.RowKit
def idxP (p : StoredR → Bool) : List StoredR → Int → Int
  | [], _ => -1
  | x :: l, k => if p x then k else idxP p l (k + 1)
theorem idxP_drop (p : StoredR → Bool) (l : List StoredR) (k : Nat) (h : k < l.length) (i : Int) : idxP p (l.drop k) i = if p l[k] then i else idxP p (l.drop (k + 1)) (i + 1) := by
  rw [List.drop_eq_getElem_cons h]
  rfl
theorem idxP_spec (p : StoredR → Bool) : ∀ (l : List StoredR) (i : Int), (idxP p l i = -1 ∧ l.filter (fun x => !p x) = l) ∨
    ∃ k : Nat, ∃ hk : k < l.length, idxP p l i = i + k ∧ p l[k] = true ∧ (l.take (k + 1)).filter (fun x => !p x) = l.take k
  | [], i => .inl ⟨rfl, rfl⟩
  | x :: l, i => by
    cases h : p x with
    | true => exact .inr ⟨0, by simp, by simp [idxP, h], by simpa using h, by simp [h]⟩
    | false =>
      rcases idxP_spec p l (i + 1) with ⟨e, ha⟩ | ⟨k, hk, e, ht, ha⟩
      · exact .inl ⟨by simp [idxP, h, e], by rw [List.filter_cons, if_pos (by simp [h]), ha]⟩
      · refine .inr ⟨k + 1, by simpa using hk, ?_, by simpa using ht, ?_⟩
        · simp only [idxP, h, Bool.false_eq_true, if_false, e]
          omega
        · rw [List.take_succ_cons, List.filter_cons, if_pos (by simp [h]), ha, List.take_succ_cons]
theorem set_skip {α : Type} (A L : List α) (hA : A.length = 8) (i r : Nat) (v : α) : (A ++ L).set ((i + 1) * 8 + r) v = A ++ L.set (i * 8 + r) v := by
  rw [List.set_append_right _ _ (by omega)]
  congr 2
  omega
theorem flat_set (z : StoredR) (rest : List Value) : ∀ (ys : List StoredR) (i : Nat), i < ys.length →
    ((((((((ys.flatMap StoredR.cells ++ rest).set (i * 8 + 0) (.int .i64 z.ev.id)).set (i * 8 + 1) (.string z.ev.type)).set (i * 8 + 2) (.string z.ev.data)).set (i * 8 + 3) (.float .f64 z.ev.value)).set (i * 8 + 4) (.string z.stream)).set (i * 8 + 5) (.int .i64 z.version)).set (i * 8 + 6) (.int .i64 z.position)).set (i * 8 + 7) (.int .i64 z.time) =
      (ys.set i z).flatMap StoredR.cells ++ rest
  | [], _, h => absurd h (Nat.not_lt_zero _)
  | y :: ys, 0, _ => by simp [StoredR.cells, EventR.cells]
  | y :: ys, i + 1, h => by
    have hl : y.cells.length = 8 := rfl
    rw [List.flatMap_cons, List.append_assoc]
    rw [set_skip _ _ hl, set_skip _ _ hl, set_skip _ _ hl, set_skip _ _ hl, set_skip _ _ hl, set_skip _ _ hl, set_skip _ _ hl, set_skip _ _ hl]
    rw [flat_set z rest ys i (by simpa using h), List.set_cons_succ, List.flatMap_cons, List.append_assoc]
theorem flat_take : ∀ (ys : List StoredR) (i : Nat), (ys.flatMap StoredR.cells).take (i * 8) = (ys.take i).flatMap StoredR.cells
  | [], i => by simp
  | y :: ys, 0 => by simp
  | y :: ys, i + 1 => by
    have hl : y.cells.length = 8 := rfl
    rw [List.flatMap_cons, List.take_succ_cons, List.flatMap_cons, List.take_append, hl, List.take_of_length_le (by omega), show (i + 1) * 8 - 8 = i * 8 by omega, flat_take ys i]
section
variable {w : World} {g : Nat} {t : TypeId} {cs : Array Value}
theorem Blk.sets : ∀ (zs : List Value) (o : Nat) {w : World} {cs : Array Value} (h : Blk w g t cs), ∃ cs', Blk (w.setCells g o zs) g t cs' ∧ cs'.size = cs.size ∧ ∀ j, j < o → cs'[j]? = cs[j]?
  | [], _, _, cs, h => ⟨cs, h, rfl, fun _ _ => rfl⟩
  | z :: zs, o, _, cs, h => by
    obtain ⟨cs', h1, h2, h3⟩ := Blk.sets zs (o + 1) (h.set o z)
    refine ⟨cs', h1, by rw [h2]; simp, fun j hj => ?_⟩
    rw [h3 j (by omega), Array.getElem?_setIfInBounds, if_neg (by omega)]
theorem Only.setCells {S : List Nat} {a : World} {g : Nat} (hg : g ∈ S ∨ a.heap.size ≤ g) : ∀ (zs : List Value) (o : Nat) {w : World}, Only S a w → Only S a (w.setCells g o zs)
  | [], _, _, h => h
  | z :: zs, o, _, h => Only.setCells hg zs (o + 1) (h.setCell hg z)
/-- Eight cells set: an element. -/
theorem blk_set8 (h : Blk w g t cs) {ys : List StoredR} {rest : List Value} (hc : cs.toList = ys.flatMap StoredR.cells ++ rest) {i : Nat} (hi : i < ys.length) (z : StoredR) :
    ∃ cs', Blk ((((((((w.setCell ⟨g, i * 8, none⟩ (.int .i64 z.ev.id)).setCell ⟨g, i * 8 + 1, none⟩ (.string z.ev.type)).setCell ⟨g, i * 8 + 2, none⟩ (.string z.ev.data)).setCell ⟨g, i * 8 + 3, none⟩ (.float .f64 z.ev.value)).setCell ⟨g, i * 8 + 4, none⟩ (.string z.stream)).setCell ⟨g, i * 8 + 5, none⟩ (.int .i64 z.version)).setCell ⟨g, i * 8 + 6, none⟩ (.int .i64 z.position)).setCell ⟨g, i * 8 + 7, none⟩ (.int .i64 z.time)) g t cs' ∧
      cs'.toList = (ys.set i z).flatMap StoredR.cells ++ rest := by
  refine ⟨_, (((((((h.set _ _).set _ _).set _ _).set _ _).set _ _).set _ _).set _ _).set _ _, ?_⟩
  simp only [Array.toList_setIfInBounds, hc]
  exact flat_set z rest ys i hi
theorem blk_elem (h : Blk w g t cs) {ys : List StoredR} {rest : List Value} (hc : cs.toList = ys.flatMap StoredR.cells ++ rest) {i : Nat} (hi : i < ys.length) {r : Nat} (hr : r < 8) : w.cell? ⟨g, i * 8 + r, none⟩ = (ys[i].cells)[r]? := by
  have hl := flat_len StoredR.cells 8 ys (fun _ _ => rfl)
  have hlt : i * 8 + r < (ys.flatMap StoredR.cells).length := by omega
  rw [h.cell, ← Array.getElem?_toList, hc, List.getElem?_append_left hlt]
  exact flat_get StoredR.cells 8 ys (fun _ _ => rfl) i r hi hr
end
/-- 'clear' of a slice of n > 0 elements of whatever type. -/
theorem run_clearK {P : Program} (w : World) (t e ty : TypeId) (z : Value) (ht : P.underlying t = some (.slice e)) (hv : ∀ w, (zeroValue e).run P w = .ok z w) (h1 : ∀ v ∈ z.cells.toList, v.oneCell' = true) (k : Nat) (hk : z.cells.size = k) (b o n c : Nat) (hn : 0 < n)
    (hc : ∀ j, j < n * k → (w.cell? ⟨b, o + j, none⟩).isSome = true) (hf : ∀ j, j < n * k → w.frozen? ⟨b, o + j, none⟩ = false) :
    (Builtin.clear_ #[t] ty #[.slice (some ⟨b, o, none⟩) n c]).run P w = .ok (.tuple #[]) (w.setCells b o (Builtin.zeroCells z.cells n).toList) := by
  have hl : (Builtin.zeroCells z.cells n).toList.length = n * k := by simp [Builtin.zeroCells, hk]
  have hst := run_storeCells_cells (P := P) b o (Builtin.zeroCells z.cells n).toList 0 w (by rw [hl]; simpa using hc) (by rw [hl]; simpa using hf) (by
    intro v hv'
    simp only [Builtin.zeroCells, Array.toList_map, List.mem_map] at hv'
    obtain ⟨i, hi, rfl⟩ := hv'
    rcases Nat.eq_zero_or_pos z.cells.size with q | q
    · simp [q] at hi
    · have hm := Nat.mod_lt i q
      rw [getElem!_pos z.cells (i % z.cells.size) hm]
      exact h1 _ (by simp))
  simp only [Nat.add_zero] at hst
  obtain ⟨m, rfl⟩ : ∃ m, n = m + 1 := ⟨n - 1, by omega⟩
  simp [Builtin.clear_, run_underlying ht, hv, hst]
/-! ## an own row as a block -/
theorem own_blk {w : World} {base : Nat} {v : Value} {xs : List StoredR} {e : TypeId} (h : w.ownsRow base e 8 v xs.length (xs.flatMap StoredR.cells)) : (v = .slice none 0 0 ∧ xs = []) ∨
    ∃ g cap cs rest, v = .slice (some ⟨g, 0, none⟩) xs.length cap ∧ base ≤ g ∧ Blk w g e cs ∧ xs.length ≤ cap ∧ cap ≤ maxLen ∧ cs.size = cap * 8 ∧ cs.toList = xs.flatMap StoredR.cells ++ rest := by
  obtain ⟨h1, h2⟩ := h
  rcases h2 with ⟨rfl, q⟩ | ⟨g, cap, cur, rfl, hb, hg, hn, hc, hs, ht⟩
  · exact .inl ⟨rfl, List.length_eq_zero_iff.1 q⟩
  · refine .inr ⟨g, cap, cur, cur.toList.drop (xs.length * 8), rfl, hb, hg, hn, hc, hs, ?_⟩
    rw [← ht]
    exact (List.take_append_drop _ _).symm
theorem blk_own {w : World} {base : Nat} {xs : List StoredR} {e : TypeId} {g cap : Nat} {cs : Array Value} (hb : base ≤ g) (hg : Blk w g e cs) (hn : xs.length ≤ cap) (hm : cap ≤ maxLen) (hs : cs.size = cap * 8) (ht : cs.toList.take (xs.length * 8) = xs.flatMap StoredR.cells) :
    w.ownsRow base e 8 (.slice (some ⟨g, 0, none⟩) xs.length cap) xs.length (xs.flatMap StoredR.cells) :=
  ⟨flat_len StoredR.cells 8 xs (fun _ _ => rfl), .inr ⟨g, cap, cs, rfl, hb, hg, hn, hm, hs, ht⟩⟩
/-- What stands at the head of a round: of ys the first i are the kept ones of the first j of xs, from j on it is xs. -/
structure KeptAt (p : StoredR → Bool) (xs ys : List StoredR) (i j : Nat) : Prop where
  len : ys.length = xs.length
  lt : i < j
  le : j ≤ xs.length
  done : ys.take i = (xs.take j).filter (fun x => !p x)
  rest : ys.drop j = xs.drop j
theorem KeptAt.get {p : StoredR → Bool} {xs ys : List StoredR} {i j : Nat} (h : KeptAt p xs ys i j) (hj : j < xs.length) : ∃ h2 : j < ys.length, ys[j] = xs[j] := by
  have h2 : j < ys.length := by rw [h.len]; exact hj
  refine ⟨h2, ?_⟩
  have := h.rest
  rw [List.drop_eq_getElem_cons hj, List.drop_eq_getElem_cons h2] at this
  exact (List.cons.inj this).1
theorem KeptAt.skip {p : StoredR → Bool} {xs ys : List StoredR} {i j : Nat} (h : KeptAt p xs ys i j) (hj : j < xs.length) (hp : p xs[j] = true) : KeptAt p xs ys i (j + 1) := by
  refine ⟨h.len, by have := h.lt; omega, hj, ?_, ?_⟩
  · rw [h.done, List.take_succ_eq_append_getElem hj, List.filter_append]
    simp [hp]
  · rw [← List.drop_drop, ← List.drop_drop, h.rest]
theorem KeptAt.keep {p : StoredR → Bool} {xs ys : List StoredR} {i j : Nat} (h : KeptAt p xs ys i j) (hj : j < xs.length) (hp : p xs[j] = false) : KeptAt p xs (ys.set i xs[j]) (i + 1) (j + 1) := by
  have hlt := h.lt
  have hlen := h.len
  refine ⟨by simpa using h.len, by omega, hj, ?_, ?_⟩
  · rw [List.take_succ_eq_append_getElem hj, List.filter_append, ← h.done, List.take_succ_eq_append_getElem (by simp; omega)]
    rw [List.take_set_of_le (Nat.le_refl _)]
    simp [hp]
  · rw [List.drop_set_of_lt (by omega), ← List.drop_drop, ← List.drop_drop, h.rest]
theorem KeptAt.start {p : StoredR → Bool} {xs : List StoredR} {k : Nat} (hk : k < xs.length) (h : (xs.take (k + 1)).filter (fun x => !p x) = xs.take k) : KeptAt p xs xs k (k + 1) := ⟨rfl, by omega, hk, h.symm, rfl⟩
end Go.Proofs.Ytefkhkbkengniaa
