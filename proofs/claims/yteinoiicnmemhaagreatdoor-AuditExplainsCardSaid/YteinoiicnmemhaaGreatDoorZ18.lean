/- Proved here: contracts of functions and plain laws, part 18 of one proof. Conditions: each theorem names its own. -/
import Derived.Test.YteinoiicnmemhaaGreatDoorZ16
import Derived.Test.YteinoiicnmemhaaGreatDoorZ17
import Derived.Lib.SliceRun
import Derived.Deep.DeepCutAuto
set_option linter.unusedSimpArgs false
set_option linter.unusedVariables false
namespace Go.Proofs.YteinoiicnmemhaaGreatDoor
section
open Go.RowKit
def idxP (p : StoredR → Bool) : List StoredR → Int → Int
  | [], _ => -1
  | x :: l, k => if p x then k else idxP p l (k + 1)
theorem idxP_drop (p : StoredR → Bool) (l : List StoredR) (k : Nat) (h : k < l.length) (i : Int) : idxP p (l.drop k) i = if p l[k] then i else idxP p (l.drop (k + 1)) (i + 1) := by
  rw [List.drop_eq_getElem_cons h]
  rfl
theorem idxP_spec (p : StoredR → Bool) : ∀ (l : List StoredR) (i : Int), (idxP p l i = -1 ∧ l.filter (fun x => !p x) = l) ∨
    ∃ k : Nat, ∃ hk : k < l.length, idxP p l i = i + k ∧ p l[k] = true ∧ (l.take (k + 1)).filter (fun x => !p x) = l.take k
  | [], i => .inl ⟨rfl, rfl⟩
  | x :: l, i => by
    cases h : p x with
    | true => exact .inr ⟨0, by simp, by simp [idxP, h], by simpa using h, by simp [h]⟩
    | false =>
      rcases idxP_spec p l (i + 1) with ⟨e, ha⟩ | ⟨k, hk, e, ht, ha⟩
      · exact .inl ⟨by simp [idxP, h, e], by rw [List.filter_cons, if_pos (by simp [h]), ha]⟩
      · refine .inr ⟨k + 1, by simpa using hk, ?_, by simpa using ht, ?_⟩
        · simp only [idxP, h, Bool.false_eq_true, if_false, e]
          omega
        · rw [List.take_succ_cons, List.filter_cons, if_pos (by simp [h]), ha, List.take_succ_cons]
theorem set_skip {α : Type} (A L : List α) (hA : A.length = 8) (i r : Nat) (v : α) : (A ++ L).set ((i + 1) * 8 + r) v = A ++ L.set (i * 8 + r) v := by
  rw [List.set_append_right _ _ (by omega)]
  congr 2
  omega
theorem flat_set (z : StoredR) (rest : List Value) : ∀ (ys : List StoredR) (i : Nat), i < ys.length →
    ((((((((ys.flatMap StoredR.cells ++ rest).set (i * 8 + 0) (.int .i64 z.ev.id)).set (i * 8 + 1) (.string z.ev.type)).set (i * 8 + 2) (.string z.ev.data)).set (i * 8 + 3) (.float .f64 z.ev.value)).set (i * 8 + 4) (.string z.stream)).set (i * 8 + 5) (.int .i64 z.version)).set (i * 8 + 6) (.int .i64 z.position)).set (i * 8 + 7) (.int .i64 z.time) =
      (ys.set i z).flatMap StoredR.cells ++ rest
  | [], _, h => absurd h (Nat.not_lt_zero _)
  | y :: ys, 0, _ => by simp [StoredR.cells, EventR.cells]
  | y :: ys, i + 1, h => by
    have hl : y.cells.length = 8 := rfl
    rw [List.flatMap_cons, List.append_assoc]
    rw [set_skip _ _ hl, set_skip _ _ hl, set_skip _ _ hl, set_skip _ _ hl, set_skip _ _ hl, set_skip _ _ hl, set_skip _ _ hl, set_skip _ _ hl]
    rw [flat_set z rest ys i (by simpa using h), List.set_cons_succ, List.flatMap_cons, List.append_assoc]
theorem flat_take : ∀ (ys : List StoredR) (i : Nat), (ys.flatMap StoredR.cells).take (i * 8) = (ys.take i).flatMap StoredR.cells
  | [], i => by simp
  | y :: ys, 0 => by simp
  | y :: ys, i + 1 => by
    have hl : y.cells.length = 8 := rfl
    rw [List.flatMap_cons, List.take_succ_cons, List.flatMap_cons, List.take_append, hl, List.take_of_length_le (by omega), show (i + 1) * 8 - 8 = i * 8 by omega, flat_take ys i]
section
variable {w : World} {g : Nat} {t : TypeId} {cs : Array Value}
theorem Blk.sets : ∀ (zs : List Value) (o : Nat) {w : World} {cs : Array Value} (h : Blk w g t cs), ∃ cs', Blk (w.setCells g o zs) g t cs' ∧ cs'.size = cs.size ∧ ∀ j, j < o → cs'[j]? = cs[j]?
  | [], _, _, cs, h => ⟨cs, h, rfl, fun _ _ => rfl⟩
  | z :: zs, o, _, cs, h => by
    obtain ⟨cs', h1, h2, h3⟩ := Blk.sets zs (o + 1) (h.set o z)
    refine ⟨cs', h1, by rw [h2]; simp, fun j hj => ?_⟩
    rw [h3 j (by omega), Array.getElem?_setIfInBounds, if_neg (by omega)]
theorem Only.setCells {S : List Nat} {a : World} {g : Nat} (hg : g ∈ S ∨ a.heap.size ≤ g) : ∀ (zs : List Value) (o : Nat) {w : World}, Only S a w → Only S a (w.setCells g o zs)
  | [], _, _, h => h
  | z :: zs, o, _, h => Only.setCells hg zs (o + 1) (h.setCell hg z)
/-- Eight cells set: an element. -/
theorem blk_set8 (h : Blk w g t cs) {ys : List StoredR} {rest : List Value} (hc : cs.toList = ys.flatMap StoredR.cells ++ rest) {i : Nat} (hi : i < ys.length) (z : StoredR) :
    ∃ cs', Blk ((((((((w.setCell ⟨g, i * 8, none⟩ (.int .i64 z.ev.id)).setCell ⟨g, i * 8 + 1, none⟩ (.string z.ev.type)).setCell ⟨g, i * 8 + 2, none⟩ (.string z.ev.data)).setCell ⟨g, i * 8 + 3, none⟩ (.float .f64 z.ev.value)).setCell ⟨g, i * 8 + 4, none⟩ (.string z.stream)).setCell ⟨g, i * 8 + 5, none⟩ (.int .i64 z.version)).setCell ⟨g, i * 8 + 6, none⟩ (.int .i64 z.position)).setCell ⟨g, i * 8 + 7, none⟩ (.int .i64 z.time)) g t cs' ∧
      cs'.toList = (ys.set i z).flatMap StoredR.cells ++ rest := by
  refine ⟨_, (((((((h.set _ _).set _ _).set _ _).set _ _).set _ _).set _ _).set _ _).set _ _, ?_⟩
  simp only [Array.toList_setIfInBounds, hc]
  exact flat_set z rest ys i hi
theorem blk_elem (h : Blk w g t cs) {ys : List StoredR} {rest : List Value} (hc : cs.toList = ys.flatMap StoredR.cells ++ rest) {i : Nat} (hi : i < ys.length) {r : Nat} (hr : r < 8) : w.cell? ⟨g, i * 8 + r, none⟩ = (ys[i].cells)[r]? := by
  have hl := flat_len StoredR.cells 8 ys (fun _ _ => rfl)
  have hlt : i * 8 + r < (ys.flatMap StoredR.cells).length := by omega
  rw [h.cell, ← Array.getElem?_toList, hc, List.getElem?_append_left hlt]
  exact flat_get StoredR.cells 8 ys (fun _ _ => rfl) i r hi hr
end
/-- 'clear' of a slice of n > 0 elements of whatever type. -/
theorem run_clearK {P : Program} (w : World) (t e ty : TypeId) (z : Value) (ht : P.underlying t = some (.slice e)) (hv : ∀ w, (zeroValue e).run P w = .ok z w) (h1 : ∀ v ∈ z.cells.toList, v.oneCell' = true) (k : Nat) (hk : z.cells.size = k) (b o n c : Nat) (hn : 0 < n)
    (hc : ∀ j, j < n * k → (w.cell? ⟨b, o + j, none⟩).isSome = true) (hf : ∀ j, j < n * k → w.frozen? ⟨b, o + j, none⟩ = false) :
    (Builtin.clear_ #[t] ty #[.slice (some ⟨b, o, none⟩) n c]).run P w = .ok (.tuple #[]) (w.setCells b o (Builtin.zeroCells z.cells n).toList) := by
  have hl : (Builtin.zeroCells z.cells n).toList.length = n * k := by simp [Builtin.zeroCells, hk]
  have hst := run_storeCells_cells (P := P) b o (Builtin.zeroCells z.cells n).toList 0 w (by rw [hl]; simpa using hc) (by rw [hl]; simpa using hf) (by
    intro v hv'
    simp only [Builtin.zeroCells, Array.toList_map, List.mem_map] at hv'
    obtain ⟨i, hi, rfl⟩ := hv'
    rcases Nat.eq_zero_or_pos z.cells.size with q | q
    · simp [q] at hi
    · have hm := Nat.mod_lt i q
      rw [getElem!_pos z.cells (i % z.cells.size) hm]
      exact h1 _ (by simp))
  simp only [Nat.add_zero] at hst
  obtain ⟨m, rfl⟩ : ∃ m, n = m + 1 := ⟨n - 1, by omega⟩
  simp [Builtin.clear_, run_underlying ht, hv, hst]
/-! ## an own row as a block -/
theorem own_blk {w : World} {base : Nat} {v : Value} {xs : List StoredR} {e : TypeId} (h : w.ownsRow base e 8 v xs.length (xs.flatMap StoredR.cells)) : (v = .slice none 0 0 ∧ xs = []) ∨
    ∃ g cap cs rest, v = .slice (some ⟨g, 0, none⟩) xs.length cap ∧ base ≤ g ∧ Blk w g e cs ∧ xs.length ≤ cap ∧ cap ≤ maxLen ∧ cs.size = cap * 8 ∧ cs.toList = xs.flatMap StoredR.cells ++ rest := by
  obtain ⟨h1, h2⟩ := h
  rcases h2 with ⟨rfl, q⟩ | ⟨g, cap, cur, rfl, hb, hg, hn, hc, hs, ht⟩
  · exact .inl ⟨rfl, List.length_eq_zero_iff.1 q⟩
  · refine .inr ⟨g, cap, cur, cur.toList.drop (xs.length * 8), rfl, hb, hg, hn, hc, hs, ?_⟩
    rw [← ht]
    exact (List.take_append_drop _ _).symm
theorem blk_own {w : World} {base : Nat} {xs : List StoredR} {e : TypeId} {g cap : Nat} {cs : Array Value} (hb : base ≤ g) (hg : Blk w g e cs) (hn : xs.length ≤ cap) (hm : cap ≤ maxLen) (hs : cs.size = cap * 8) (ht : cs.toList.take (xs.length * 8) = xs.flatMap StoredR.cells) :
    w.ownsRow base e 8 (.slice (some ⟨g, 0, none⟩) xs.length cap) xs.length (xs.flatMap StoredR.cells) :=
  ⟨flat_len StoredR.cells 8 xs (fun _ _ => rfl), .inr ⟨g, cap, cs, rfl, hb, hg, hn, hm, hs, ht⟩⟩
/-- What stands at the head of a round: of ys the first i are the kept ones of the first j of xs, from j on it is xs. -/
structure KeptAt (p : StoredR → Bool) (xs ys : List StoredR) (i j : Nat) : Prop where
  len : ys.length = xs.length
  lt : i < j
  le : j ≤ xs.length
  done : ys.take i = (xs.take j).filter (fun x => !p x)
  rest : ys.drop j = xs.drop j
theorem KeptAt.get {p : StoredR → Bool} {xs ys : List StoredR} {i j : Nat} (h : KeptAt p xs ys i j) (hj : j < xs.length) : ∃ h2 : j < ys.length, ys[j] = xs[j] := by
  have h2 : j < ys.length := by rw [h.len]; exact hj
  refine ⟨h2, ?_⟩
  have := h.rest
  rw [List.drop_eq_getElem_cons hj, List.drop_eq_getElem_cons h2] at this
  exact (List.cons.inj this).1
theorem KeptAt.skip {p : StoredR → Bool} {xs ys : List StoredR} {i j : Nat} (h : KeptAt p xs ys i j) (hj : j < xs.length) (hp : p xs[j] = true) : KeptAt p xs ys i (j + 1) := by
  refine ⟨h.len, by have := h.lt; omega, hj, ?_, ?_⟩
  · rw [h.done, List.take_succ_eq_append_getElem hj, List.filter_append]
    simp [hp]
  · rw [← List.drop_drop, ← List.drop_drop, h.rest]
theorem KeptAt.keep {p : StoredR → Bool} {xs ys : List StoredR} {i j : Nat} (h : KeptAt p xs ys i j) (hj : j < xs.length) (hp : p xs[j] = false) : KeptAt p xs (ys.set i xs[j]) (i + 1) (j + 1) := by
  have hlt := h.lt
  have hlen := h.len
  refine ⟨by simpa using h.len, by omega, hj, ?_, ?_⟩
  · rw [List.take_succ_eq_append_getElem hj, List.filter_append, ← h.done, List.take_succ_eq_append_getElem (by simp; omega)]
    rw [List.take_set_of_le (Nat.le_refl _)]
    simp [hp]
  · rw [List.drop_set_of_lt (by omega), ← List.drop_drop, ← List.drop_drop, h.rest]
theorem KeptAt.start {p : StoredR → Bool} {xs : List StoredR} {k : Nat} (hk : k < xs.length) (h : (xs.take (k + 1)).filter (fun x => !p x) = xs.take k) : KeptAt p xs xs k (k + 1) := ⟨rfl, by omega, hk, h.symm, rfl⟩
end
section
open Go.RowKit
/-- What is asked of the predicate: in every world in which only these blocks turned. -/
def Judges (S : List Nat) (w : World) (cv : Value) (p : StoredR → Bool) : Prop := ∀ W, Only S w W → ∀ x : StoredR,
  Calls Tryz.prog 110 #[.agg #[.int .i64 x.ev.id, .string x.ev.type, .string x.ev.data, .float .f64 x.ev.value, .string x.stream, .int .i64 x.version, .int .i64 x.position, .int .i64 x.time], cv] W fun e W' => e = .returned (.bool (p x)) ∧ Only [] W W'
set_option maxRecDepth 100000 in
set_option maxHeartbeats 1000000 in
theorem indexSt_any {w : World} {v : Value} {l : List StoredR} {p : StoredR → Bool} {cv : Value} (hl : Slc w 8 v l.length (l.flatMap StoredR.cells)) (hb : l.length ≤ 1000000) (HP : Judges [] w cv p) :
    Calls Tryz.prog 141 #[v, .func (.func 110) #[] #[cv]] w fun e w' => e = .returned (.int .i64 (idxP p l 0)) ∧ Only [] w w' := by
  obtain ⟨A, cap, rfl, hnc, hcm, hel⟩ := hl.openE StoredR.cells (fun _ => rfl)
  unfold maxLen at hcm
  obtain ⟨R, hR⟩ : ∃ R, R = idxP p l 0 := ⟨_, rfl⟩
  rw [← hR]
  have HR := Lib.hid hR
  have HJ := Lib.hid HP
  clear hR HP
  go_enter Tryz.func141, Tryz.ntmps141
  go_wp2
  go_loopw [5, 8] (fun _ i wr => ∃ k : Nat, k ≤ l.length ∧ i = .int .i64 k ∧ Hid (R = idxP p (l.drop k) k) ∧ Only [] w wr) (fun _ i _ => l.length - (intOf i).toNat)
  case atStart => exact ⟨0, Nat.zero_le _, rfl, HR, Only.refl _ _⟩
  case round =>
    obtain ⟨k, hk, rfl, hT, hO⟩ := hrel
    by_cases hlt : k < l.length
    · obtain ⟨b, off, rfl, hbb, hcc⟩ := hel k hlt
      have hd := idxP_drop p l k hlt k
      obtain ⟨s, hs⟩ : ∃ s, s = l[k] := ⟨_, rfl⟩
      rw [← hs] at hcc hd
      have c0 : wr.cell? ⟨b, off + k * 8, none⟩ = some (.int .i64 s.ev.id) := (hO.cell hbb (by simp)).trans (hcc 0 (by omega))
      have c1 : wr.cell? ⟨b, off + k * 8 + 1, none⟩ = some (.string s.ev.type) := (hO.cell hbb (by simp)).trans (hcc 1 (by omega))
      have c2 : wr.cell? ⟨b, off + k * 8 + 2, none⟩ = some (.string s.ev.data) := (hO.cell hbb (by simp)).trans (hcc 2 (by omega))
      have c3 : wr.cell? ⟨b, off + k * 8 + 3, none⟩ = some (.float .f64 s.ev.value) := (hO.cell hbb (by simp)).trans (hcc 3 (by omega))
      have c4 : wr.cell? ⟨b, off + k * 8 + 4, none⟩ = some (.string s.stream) := (hO.cell hbb (by simp)).trans (hcc 4 (by omega))
      have c5 : wr.cell? ⟨b, off + k * 8 + 5, none⟩ = some (.int .i64 s.version) := (hO.cell hbb (by simp)).trans (hcc 5 (by omega))
      have c6 : wr.cell? ⟨b, off + k * 8 + 6, none⟩ = some (.int .i64 s.position) := (hO.cell hbb (by simp)).trans (hcc 6 (by omega))
      have c7 : wr.cell? ⟨b, off + k * 8 + 7, none⟩ = some (.int .i64 s.time) := (hO.cell hbb (by simp)).trans (hcc 7 (by omega))
      have hcall := HJ.out wr hO s
      have hsf := stF
      clear hcc hs hel
      cases hq : p s with
      | true =>
        rw [hq] at hcall hd
        have HN : Hid (R = k) := by unfold Hid; rw [hT.out, hd]; rfl
        have HC := Lib.hid hcall
        clear hcall hd hq hT
        go_wp2_with (go_at_call 110; refine HC.out.mono ?_; rintro e w1 ⟨rfl, ho1⟩)
        go_ret
        exact ⟨by rw [HN.out]; rfl, hO.trans ho1⟩
      | false =>
        rw [hq] at hcall hd
        have HN : Hid (R = idxP p (l.drop (k + 1)) ((k + 1 : Nat) : Int)) := by
          unfold Hid
          rw [hT.out, hd]
          simp
        have HC := Lib.hid hcall
        clear hcall hd hq hT
        go_wp2_with (go_at_call 110; refine HC.out.mono ?_; rintro e w1 ⟨rfl, ho1⟩)
        exact ⟨⟨k + 1, hlt, by simp, HN, hO.trans ho1⟩, by simp [intOf]; omega⟩
    · have HN : Hid (R = -1) := by unfold Hid; rw [hT.out, List.drop_of_length_le (by omega)]; rfl
      clear hel
      go_wp2
      go_ret
      exact ⟨by rw [HN.out]; rfl, hO⟩
theorem zeroStV (w : World) : (zeroValue 92).run Tryz.prog w = .ok (.agg #[.int .i64 0, .string ⟨#[]⟩, .string ⟨#[]⟩, .float .f64 0, .string ⟨#[]⟩, .int .i64 0, .int .i64 0, .int .i64 0]) w := by kernel_rfl
theorem zeroSt : (∀ v ∈ (Value.agg #[.int .i64 0, .string ⟨#[]⟩, .string ⟨#[]⟩, .float .f64 0, .string ⟨#[]⟩, .int .i64 0, .int .i64 0, .int .i64 0]).cells.toList, v.oneCell' = true) ∧ (Value.agg #[.int .i64 0, .string ⟨#[]⟩, .string ⟨#[]⟩, .float .f64 0, .string ⟨#[]⟩, .int .i64 0, .int .i64 0, .int .i64 0]).cells.size = 8 := by
  constructor
  · simp [Value.cells, Value.oneCell']
  · rfl
set_option maxRecDepth 100000 in
set_option maxHeartbeats 2000000 in
theorem deleteSt_any {w : World} {base : Nat} {v : Value} {l : List StoredR} {p : StoredR → Bool} {cv : Value} (hl : w.ownsRow base 92 8 v l.length (l.flatMap StoredR.cells)) (hb : l.length ≤ 1000000) (HP : Judges v.ownBlock.toList w cv p) :
    Calls Tryz.prog 108 #[v, .func (.func 110) #[] #[cv]] w fun e w' => ∃ v', e = .returned v' ∧ w'.ownsRow base 92 8 v' (l.filter (fun x => !p x)).length ((l.filter (fun x => !p x)).flatMap StoredR.cells) ∧ Only v.ownBlock.toList w w' := by
  have hix := indexSt_any (Slc.of_own hl).1 hb (p := p) (cv := cv) (fun W hW => HP W hW.of_nil)
  obtain ⟨j0, hj, hy0, hy1, hy2⟩ := info_parts infoSt
  have hsp := idxP_spec p l 0
  rcases hsp with ⟨e1, e2⟩ | ⟨k0, hk0, e1, ht, e2⟩
  · rw [e1] at hix
    rw [e2]
    obtain ⟨A, cap, rfl, _, _⟩ := own_form hl
    have HI := Lib.hid hix
    clear hix e1 e2
    go_enter Tryz.func108, Tryz.ntmps108
    go_wp2_with (go_at_call 141; refine HI.out.mono ?_; rintro e w1 ⟨rfl, ho1⟩)
    go_ret
    exact ⟨_, rfl, own_only hl ho1 (by simp), ho1.of_nil⟩
  · rw [e1, Int.zero_add] at hix
    rcases own_blk hl with ⟨rfl, rfl⟩ | ⟨g, cap, cs0, rest, rfl, hbg, hB0, hnc, hcm, hsz, hcs0⟩
    · exact absurd hk0 (Nat.not_lt_zero _)
    have hne : ((k0 : Int) == -1) = false := beq_eq_false_iff_ne.2 (by omega)
    have HI := Lib.hid hix
    have HJ := Lib.hid HP
    have hK0 := KeptAt.start (p := p) hk0 e2
    unfold maxLen at hcm
    obtain ⟨f, hf⟩ : ∃ f, f = l.filter (fun x => !p x) := ⟨_, rfl⟩
    rw [← hf]
    have HF := Lib.hid hf
    clear hix HP e1 e2 ht hf
    go_enter Tryz.func108, Tryz.ntmps108
    go_wp2_with (go_at_call 141; refine HI.out.mono ?_; rintro e w1 ⟨rfl, ho1⟩)
    go_loopw [5, 6, 7] (fun s5 s6 _ wr => ∃ (i j : Nat) (ys : List StoredR) (cs : Array Value), s5 = .int .i64 i ∧ s6 = .int .i64 j ∧ KeptAt p l ys i j ∧ Blk wr g 92 cs ∧ cs.toList = ys.flatMap StoredR.cells ++ rest ∧ Only [g] w wr) (fun _ j _ _ => l.length - (intOf j).toNat)
    case atStart => exact ⟨k0, k0 + 1, l, cs0, rfl, by simp, hK0, ho1.blk hB0 (by simp), hcs0, ho1.of_nil⟩
    case round =>
      obtain ⟨i, j, ys, cs, rfl, rfl, hK, hB, hcs, hO⟩ := hrel
      have hij := hK.lt
      have hjl := hK.le
      have hyl := hK.len
      have hcl : ∀ q, (cs.toList).length = q → q = cap * 8 := by
        intro q hq
        have h1 := flat_len StoredR.cells 8 ys (fun _ _ => rfl)
        have h2 := flat_len StoredR.cells 8 l (fun _ _ => rfl)
        have h3 : cs0.toList.length = cap * 8 := by simpa using hsz
        rw [hcs0] at h3
        rw [hcs] at hq
        simp only [List.length_append] at h3 hq
        omega
      have hcsz : cs.size = cap * 8 := hcl _ (by simp)
      by_cases hlt : j < l.length
      · obtain ⟨hjy, hyj⟩ := hK.get hlt
        have hskip := hK.skip hlt
        have hkeep := hK.keep hlt
        obtain ⟨s, hs⟩ : ∃ s, s = l[j] := ⟨_, rfl⟩
        rw [← hs] at hyj hskip hkeep
        have c0 : wr.cell? ⟨g, j * 8, none⟩ = some (.int .i64 s.ev.id) := (blk_elem hB hcs hjy (r := 0) (by omega)).trans (by rw [hyj]; rfl)
        have c1 : wr.cell? ⟨g, j * 8 + 1, none⟩ = some (.string s.ev.type) := (blk_elem hB hcs hjy (by omega)).trans (by rw [hyj]; rfl)
        have c2 : wr.cell? ⟨g, j * 8 + 2, none⟩ = some (.string s.ev.data) := (blk_elem hB hcs hjy (by omega)).trans (by rw [hyj]; rfl)
        have c3 : wr.cell? ⟨g, j * 8 + 3, none⟩ = some (.float .f64 s.ev.value) := (blk_elem hB hcs hjy (by omega)).trans (by rw [hyj]; rfl)
        have c4 : wr.cell? ⟨g, j * 8 + 4, none⟩ = some (.string s.stream) := (blk_elem hB hcs hjy (by omega)).trans (by rw [hyj]; rfl)
        have c5 : wr.cell? ⟨g, j * 8 + 5, none⟩ = some (.int .i64 s.version) := (blk_elem hB hcs hjy (by omega)).trans (by rw [hyj]; rfl)
        have c6 : wr.cell? ⟨g, j * 8 + 6, none⟩ = some (.int .i64 s.position) := (blk_elem hB hcs hjy (by omega)).trans (by rw [hyj]; rfl)
        have c7 : wr.cell? ⟨g, j * 8 + 7, none⟩ = some (.int .i64 s.time) := (blk_elem hB hcs hjy (by omega)).trans (by rw [hyj]; rfl)
        have hcall := fun (W : World) (hW : Only [g] w W) => HJ.out W (hW.mono (by simp [Value.ownBlock])) s
        have hsf := stF
        clear hs hyj
        cases hq : p s with
        | true =>
          rw [hq] at hcall
          have HC := Lib.hid hcall
          have HK := Lib.hid (hskip hq)
          clear hcall hskip hkeep hK hq
          go_wp2_with (go_at_call 110; refine (HC.out _ (hO.alloc _)).mono ?_; rintro e w2 ⟨rfl, ho2⟩)
          have hB2 := ho2.blk (((Only.refl [] _).alloc _).blk hB (by simp)) (by simp)
          exact ⟨⟨i, j + 1, ys, cs, rfl, by simp, HK.out, hB2, hcs, (hO.alloc _).trans ho2.of_nil⟩, by simp [intOf]; omega⟩
        | false =>
          rw [hq] at hcall
          have HC := Lib.hid hcall
          have HK := Lib.hid (hkeep hq)
          clear hcall hskip hkeep hK hq
          have hiy : i < ys.length := by omega
          have hset := fun (W : World) (hW : Blk W g 92 cs) => blk_set8 hW hcs hiy s
          have HSet := Lib.hid hset
          obtain ⟨o, ho⟩ : ∃ o, o = ys[i] := ⟨_, rfl⟩
          have HO := Lib.hid ho
          clear hset ho
          go_wp2_with (go_at_call 110; refine (HC.out _ (hO.alloc _)).mono ?_; rintro e w2 ⟨rfl, ho2⟩
                       have hB2 := ho2.blk (((Only.refl [] _).alloc _).blk hB (by simp)) (by simp)
                       have hX2 := ho2.blk (Blk.new wr 92 _) (by simp)
                       have e0 : w2.cell? ⟨g, i * 8, none⟩ = some (.int .i64 o.ev.id) := (blk_elem hB2 hcs hiy (r := 0) (by omega)).trans (by rw [← HO.out]; rfl)
                       have e1 : w2.cell? ⟨g, i * 8 + 1, none⟩ = some (.string o.ev.type) := (blk_elem hB2 hcs hiy (by omega)).trans (by rw [← HO.out]; rfl)
                       have e2 : w2.cell? ⟨g, i * 8 + 2, none⟩ = some (.string o.ev.data) := (blk_elem hB2 hcs hiy (by omega)).trans (by rw [← HO.out]; rfl)
                       have e3 : w2.cell? ⟨g, i * 8 + 3, none⟩ = some (.float .f64 o.ev.value) := (blk_elem hB2 hcs hiy (by omega)).trans (by rw [← HO.out]; rfl)
                       have e4 : w2.cell? ⟨g, i * 8 + 4, none⟩ = some (.string o.stream) := (blk_elem hB2 hcs hiy (by omega)).trans (by rw [← HO.out]; rfl)
                       have e5 : w2.cell? ⟨g, i * 8 + 5, none⟩ = some (.int .i64 o.version) := (blk_elem hB2 hcs hiy (by omega)).trans (by rw [← HO.out]; rfl)
                       have e6 : w2.cell? ⟨g, i * 8 + 6, none⟩ = some (.int .i64 o.position) := (blk_elem hB2 hcs hiy (by omega)).trans (by rw [← HO.out]; rfl)
                       have e7 : w2.cell? ⟨g, i * 8 + 7, none⟩ = some (.int .i64 o.time) := (blk_elem hB2 hcs hiy (by omega)).trans (by rw [← HO.out]; rfl)
                       have d2 := fun i => hB2.free i
                       have d3 := fun i => hX2.cell i)
          obtain ⟨cs2, hb2, hc2⟩ := HSet.out w2 hB2
          refine ⟨⟨i + 1, j + 1, ys.set i s, cs2, by simp, by simp, HK.out, hb2, hc2, ?hw⟩, by simp [intOf]; omega⟩
          case hw =>
            iterate 8 (refine Only.setCell ?_ (.inl (by simp)) _)
            exact (hO.alloc _).trans ho2.of_nil
      · have hje : j = l.length := by omega
        have hfin : (l.filter (fun x => !p x)) = ys.take i := by
          rw [hK.done, hje, List.take_length]
        have hfl : (ys.take i).length = i := by simp; omega
        have hclr : ∀ ty, (Builtin.clear_ #[28] ty #[.slice (some ⟨g, i * 8, none⟩) (l.length - i) (cap - i)]).run Tryz.prog wr = .ok (.tuple #[]) (wr.setCells g (i * 8) (Builtin.zeroCells (Value.agg #[.int .i64 0, .string ⟨#[]⟩, .string ⟨#[]⟩, .float .f64 0, .string ⟨#[]⟩, .int .i64 0, .int .i64 0, .int .i64 0]).cells (l.length - i)).toList) := fun ty =>
          run_clearK wr 28 92 ty _ Tryz.underlying28 zeroStV zeroSt.1 8 zeroSt.2 g (i * 8) _ _ (by omega) (fun q hq => by
            rw [hB.cell, Array.getElem?_eq_getElem (by omega)]
            rfl) (fun q hq => hB.free _)
        obtain ⟨cs2, hb2, hs2, hg2⟩ := hB.sets (Builtin.zeroCells (Value.agg #[.int .i64 0, .string ⟨#[]⟩, .string ⟨#[]⟩, .float .f64 0, .string ⟨#[]⟩, .int .i64 0, .int .i64 0, .int .i64 0]).cells (l.length - i)).toList (i * 8)
        have hfrm := HF.out
        rw [hfin] at hfrm
        have htk : cs2.toList.take ((ys.take i).length * 8) = (ys.take i).flatMap StoredR.cells := by
          rw [hfl, ← flat_take]
          apply List.ext_getElem?
          intro q
          by_cases hq : q < i * 8
          · have h1 := flat_len StoredR.cells 8 ys (fun _ _ => rfl)
            rw [List.getElem?_take_of_lt hq, List.getElem?_take_of_lt hq, Array.getElem?_toList, hg2 q hq, ← Array.getElem?_toList, hcs, List.getElem?_append_left (by omega)]
          · rw [List.getElem?_eq_none (by simp; omega), List.getElem?_eq_none (by simp; omega)]
        have hown : (wr.setCells g (i * 8) (Builtin.zeroCells (Value.agg #[.int .i64 0, .string ⟨#[]⟩, .string ⟨#[]⟩, .float .f64 0, .string ⟨#[]⟩, .int .i64 0, .int .i64 0, .int .i64 0]).cells (l.length - i)).toList).ownsRow base 92 8 (.slice (some ⟨g, 0, none⟩) i cap) f.length (f.flatMap StoredR.cells) := by
          have := blk_own (xs := ys.take i) (cap := cap) hbg hb2 (by omega) (by unfold maxLen; omega) (by omega) htk
          rw [hfl] at this
          rw [hfrm, hfl]
          exact this
        have hend : Only [g] w (wr.setCells g (i * 8) (Builtin.zeroCells (Value.agg #[.int .i64 0, .string ⟨#[]⟩, .string ⟨#[]⟩, .float .f64 0, .string ⟨#[]⟩, .int .i64 0, .int .i64 0, .int .i64 0]).cells (l.length - i)).toList) := hO.setCells (.inl (by simp)) _ _
        obtain ⟨WE, hWE⟩ : ∃ WE, WE = wr.setCells g (i * 8) (Builtin.zeroCells (Value.agg #[.int .i64 0, .string ⟨#[]⟩, .string ⟨#[]⟩, .float .f64 0, .string ⟨#[]⟩, .int .i64 0, .int .i64 0, .int .i64 0]).cells (l.length - i)).toList := ⟨_, rfl⟩
        rw [← hWE] at hclr hown hend
        clear hWE hfrm htk hg2 hs2 hb2 hfin hB hcs hK HF
        go_wp2
        go_ret
        exact ⟨_, rfl, hown, hend⟩
end
section
open Go.RowKit
theorem fwdGo_few (key : StoredR → Int) (f n : Int) : ∀ (l acc : List StoredR) (nx : Int), (fwdGo key f n l acc nx).events.length ≤ acc.length + l.length
  | [], acc, nx => by simp [fwdGo]
  | s :: l, acc, nx => by
    unfold fwdGo
    split
    · have := fwdGo_few key f n l acc nx
      simp
      omega
    · split
      · simp
      · have := fwdGo_few key f n l (acc ++ [s]) (key s + 1)
        simp at this ⊢
        omega
theorem forwardBy_few (key : StoredR → Int) (l : List StoredR) (f n : Int) : (forwardBy key l f n).1.events.length ≤ l.length := by
  unfold forwardBy
  split
  · simp [PageR.zero]
  · have := fwdGo_few key f n l [] f
    simpa using this
set_option maxRecDepth 100000 in
set_option maxHeartbeats 1000000 in
theorem forward_any {w : World} {v : Value} {l : List StoredR} {f n : Int} (hl : Slc w 8 v l.length (l.flatMap StoredR.cells)) (hb : l.length ≤ 1000000) (hk : ∀ s ∈ l, 0 ≤ s.position ∧ s.position ≤ 1000000000) :
    Calls Tryz.prog 113 #[v, .int .i64 f, .int .i64 n] w (PageRet w (forwardBy StoredR.position l f n)) := by
  have HFw := Lib.hid (fun (W : World) (hW : Only [] w W) => forwardP_any (f := f) (n := n) (hl.only0 hW) hb hk)
  obtain ⟨r, hr⟩ : ∃ r, r = forwardBy StoredR.position l f n := ⟨_, rfl⟩
  rw [← hr] at HFw ⊢
  obtain ⟨⟨revs, rnx, rend⟩, rerr⟩ := r
  clear hr hl hk
  go_enter Tryz.func113, Tryz.ntmps113
  go_wp2_with (go_at_call 117; refine (HFw.out _ ((Only.refl _ _).alloc _)).mono ?_; rintro e w3 ⟨v3, rfl, hown3, ho3⟩; obtain ⟨A3, cap3, rfl, _, _⟩ := own_form hown3
               have hp := ho3.blk (Blk.new w 57 _) (by simp)
               have hpc := fun i => hp.cell i
               have hpf := fun i => hp.free i)
  have hsz : w.heap.size < w3.heap.size := by have q1 := ho3.size; simp at q1; omega
  refine bodyPost_ret (v := .tuple #[.agg #[.slice A3 revs.length cap3, .int .i64 rnx, .bool rend], .int .i64 rerr]) (by simp [results, Tryz.results113, go_sem, hpc]) rfl ⟨_, rfl, ?own, ?hw⟩
  case own =>
    refine own_only (own_base hown3 (by simp)) (S := [w.heap.size]) ?_ (fun g hg => by have := (hown3.lt g hg).1; simp at this ⊢; omega)
    iterate 3 (refine Only.setCell ?_ (.inl (by simp)) _)
    exact Only.refl _ _
  case hw =>
    iterate 3 (refine Only.setCell ?_ (.inr (Nat.le_refl _)) _)
    exact ((Only.refl [] w).alloc _).trans ho3
section
variable {a w : World} {R E : List Nat} {sb mb N : Nat} {s : MS}
set_option maxRecDepth 100000 in
theorem all1_any {hb : Nat} (h : HasS a w R E sb mb s N) (hN : N ≤ 100000) (hB : Blk w hb 25 #[.pointer (some ⟨sb, 0, none⟩)]) (x : StoredR) :
    Calls Tryz.prog 110 #[.agg #[.int .i64 x.ev.id, .string x.ev.type, .string x.ev.data, .float .f64 x.ev.value, .string x.stream, .int .i64 x.version, .int .i64 x.position, .int .i64 x.time], .pointer (some ⟨hb, 0, none⟩)] w
      fun e w' => e = .returned (.bool (!s.seenAt x.position)) ∧ Only [] w w' := by
  have HS := Lib.hid (fun (W : World) (hW : Only [] w W) => has_seen (h.keep hW) hN x.position)
  have k0 := fun o => (((Only.refl [] w).alloc o).blk hB (by simp)).cell 0
  clear h hB
  go_enter Tryz.func110, Tryz.ntmps110
  go_wp2_with (go_at_call 111; refine (HS.out _ ((Only.refl _ _).alloc _)).mono ?_; rintro e w1 ⟨rfl, ho1⟩)
  go_ret
  exact ⟨rfl, ((Only.refl [] w).alloc _).trans ho1⟩
set_option maxRecDepth 100000 in
set_option maxHeartbeats 2000000 in
theorem has_all (h : HasS a w R E sb mb s N) (hN : N ≤ 100000) (f n : Int) :
    Calls Tryz.prog 79 #[.pointer (some ⟨sb, 0, none⟩), .int .i64 f, .int .i64 n, .bool false] w (PageRet w (forwardBy StoredR.position s.seenAll f n)) := by
  have hlen : s.all.length ≤ 1000000 := by have := h.ok.all; omega
  have hsl : s.seenAll.length ≤ 1000000 := by
    have : s.seenAll.length ≤ s.all.length := List.length_filter_le _ _
    omega
  have hfil : s.all.filter (fun x => !(!s.seenAt x.position)) = s.seenAll := by
    unfold MS.seenAll
    congr 1
    funext x
    simp
  have hpos : ∀ e ∈ s.seenAll, 0 ≤ e.position ∧ e.position ≤ 1000000000 := fun e he => by
    obtain ⟨i, hi, rfl⟩ := List.mem_iff_getElem.1 (List.mem_filter.1 he).1
    rw [h.inv.pos i hi]
    omega
  obtain ⟨W0, hW0⟩ : ∃ W0, W0 = (w.alloc (.cells #[.pointer (some ⟨sb, 0, none⟩)] 25)).alloc (.cells #[.slice none 0 0, .int .i64 0, .bool false] 57) := ⟨_, rfl⟩
  have hO0 : Only [] w W0 := by rw [hW0]; exact ((Only.refl [] w).alloc _).alloc _
  have hb1 : Blk W0 w.heap.size 25 #[.pointer (some ⟨sb, 0, none⟩)] := by rw [hW0]; exact ((Only.refl [] _).alloc _).blk (Blk.new w _ _) (by simp)
  have hb2 : Blk W0 (w.heap.size + 1) 57 #[.slice none 0 0, .int .i64 0, .bool false] := by
    rw [hW0]
    have := Blk.new (w.alloc (.cells #[.pointer (some ⟨sb, 0, none⟩)] 25)) 57 #[.slice none 0 0, .int .i64 0, .bool false]
    simpa using this
  have hsz0 : W0.heap.size = w.heap.size + 2 := by rw [hW0]; simp
  have hc0 := hb1.cell 0
  have h0 := h.keep hO0
  have HE := Lib.hid (has_every h0 hN)
  have HFo := Lib.hid (fun (W : World) (v : Value) (hl : Slc W 8 v s.seenAll.length (s.seenAll.flatMap StoredR.cells)) => forward_any (f := f) (n := n) hl hsl hpos)
  obtain ⟨r, hr⟩ : ∃ r, r = forwardBy StoredR.position s.seenAll f n := ⟨_, rfl⟩
  rw [← hr] at HFo ⊢
  obtain ⟨⟨revs, rnx, rend⟩, rerr⟩ := r
  clear hr hpos
  have HW := Lib.hid hW0
  clear hW0
  go_enter Tryz.func79, Tryz.ntmps79
  go_wp2_with fail
  rw [← HW.out]
  refine HE.out.mono ?_
  rintro e w1 ⟨v1, rfl, hown1, ho1⟩
  have h1 := h0.ownR ho1 hown1
  have hlt1 := hown1.lt
  obtain ⟨V1, hV1⟩ : ∃ V1, V1 = v1.ownBlock.toList := ⟨_, rfl⟩
  have hge : ∀ g ∈ V1, W0.heap.size ≤ g := fun g hg => (hlt1 g (by rw [hV1] at hg; simpa using hg)).1
  have n1 : w.heap.size ∉ V1 := fun q => by have := hge _ q; omega
  have n2 : w.heap.size + 1 ∉ V1 := fun q => by have := hge _ q; omega
  have hJ : Judges V1 w1 (.pointer (some ⟨w.heap.size, 0, none⟩)) (fun x => !s.seenAt x.position) := fun W hW x =>
    all1_any (h1.turn hW (fun g hg => by rw [hV1] at hg; simp at hg ⊢; exact .inl hg)) hN (hW.blk (ho1.blk hb1 (by simp)) n1) x
  rw [hV1] at hJ
  have hD := deleteSt_any hown1 hlen hJ
  rw [hfil, ← hV1] at hD
  have HD := Lib.hid hD
  have hb3 := ho1.blk hb2 (by simp)
  clear hD hJ h1 HE h0 hc0 hb1 hlt1 hown1
  go_wp2_with fail
  refine HD.out.mono ?_
  rintro e w2 ⟨v2, rfl, hown2, ho2⟩
  have hb4 := ho2.blk hb3 n2
  have hs2 := (Slc.of_own hown2).1
  have HF2 := Lib.hid (HFo.out w2 v2 hs2)
  clear hs2
  go_wp2_with (go_at_call 113; refine HF2.out.mono ?_; rintro e w3 ⟨v3, rfl, hown3, ho3⟩; obtain ⟨A3, cap3, rfl, _, _⟩ := own_form hown3
               have hp := ho3.blk hb4 (by simp)
               have hpc := fun i => hp.cell i
               have hpf := fun i => hp.free i)
  have z1 := ho1.size
  have z2 := ho2.size
  refine bodyPost_ret (v := .tuple #[.agg #[.slice A3 revs.length cap3, .int .i64 rnx, .bool rend], .int .i64 rerr]) (by simp [results, Tryz.results79, go_sem, hpc]) rfl ⟨_, rfl, ?own, ?hw⟩
  case own =>
    refine own_only (own_base hown3 (by omega)) (S := [w.heap.size + 1]) ?_ (fun g hg => by have := (hown3.lt g hg).1; simp; omega)
    iterate 3 (refine Only.setCell ?_ (.inl (by simp)) _)
    exact Only.refl _ _
  case hw =>
    iterate 3 (refine Only.setCell ?_ (.inr (by simp)) _)
    exact ((hO0.trans ho1).step ho2 (fun g hg => .inr (by have := hge g hg; omega))).trans ho3
end
end
section
open Go.RowKit
theorem run_append_nothing {P : Program} (w : World) (t e ty : TypeId) (A : Option Addr) (size n cap c : Nat) (ht : P.underlying t = some (.slice e)) (hs : (Go.sizeOf e).run P w = .ok size w) (hnc : n ≤ cap) :
    (Builtin.append_ #[t, t] ty #[.slice A n cap, .slice none 0 c]).run P w = .ok (.slice A n cap) w := by
  cases A <;> simp [Builtin.append_, run_underlying ht, hs, hnc, Builtin.lenOf, Builtin.firstCells, storeCells]
section
variable {a w : World} {R E : List Nat} {sb mb N : Nat} {s : MS}
end
end
end Go.Proofs.YteinoiicnmemhaaGreatDoor
