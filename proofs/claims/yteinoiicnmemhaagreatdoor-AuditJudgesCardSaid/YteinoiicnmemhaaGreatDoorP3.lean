/- Proved here: contracts of functions and plain laws, part 3 of one proof. Conditions: each theorem names its own. -/
import Derived.Test.YteinoiicnmemhaaGreatDoorP2
import Derived.Deep.DeepCutAuto
import Derived.Sort.Walk0
import Derived.Test.YteinoiicnmemhaaGreatDoorProg
import Derived.Deep.AppendLies
import Derived.Lib.AppendZeros
import Derived.Lib.QuietBelow
/- Contract: the laws' walk over all pages. -/
set_option linter.unusedVariables false
set_option linter.unusedSimpArgs false
namespace Go.Proofs.YteinoiicnmemhaaGreatDoor
open Go.RowKit
theorem run_append_nothing {P : Program} (w : World) (t e ty : TypeId) (A : Option Addr) (size n cap c : Nat) (ht : P.underlying t = some (.slice e)) (hs : (Go.sizeOf e).run P w = .ok size w) (hnc : n ≤ cap) :
    (Builtin.append_ #[t, t] ty #[.slice A n cap, .slice none 0 c]).run P w = .ok (.slice A n cap) w := by
  cases A <;> simp [Builtin.append_, run_underlying ht, hs, hnc, Builtin.lenOf, Builtin.firstCells, storeCells]
section
variable {a w : World} {R E : List Nat} {sb mb N : Nat} {s : MS}
end
end Go.Proofs.YteinoiicnmemhaaGreatDoor
/- What is seen of the document's state, its streams, its pages, is what is seen of the program's. No program is named. -/
set_option linter.unusedVariables false
set_option linter.unusedSimpArgs false
namespace Go.Proofs.YteinoiicnmemhaaGreatDoor
open Go.RowKit
/-! ## names, rising -/
def ltB (x y : ByteArray) : Bool := Go.Op.bytesLess x.toList y.toList
theorem ltB_iff {x y : ByteArray} : ltB x y = true ↔ x.data.toList < y.data.toList := by
  unfold ltB
  rw [ByteArray.toList_eq, ByteArray.toList_eq, Go.Proofs.bytesLess_eq]
  simp
def RisingB (l : List ByteArray) : Prop := l.Pairwise (fun a b => a.data.toList < b.data.toList)
theorem ba_inj {a b : ByteArray} (h : a.data.toList = b.data.toList) : a = b := by
  cases a; cases b
  simp only [ByteArray.mk.injEq]
  exact Array.toList_inj.1 h
theorem rising_ext : ∀ (l m : List ByteArray), RisingB l → RisingB m → (∀ x, x ∈ l ↔ x ∈ m) → l = m
  | [], [], _, _, _ => rfl
  | [], y :: m, _, _, h => by have := (h y).2 (by simp); cases this
  | x :: l, [], _, _, h => by have := (h x).1 (by simp); cases this
  | x :: l, y :: m, h1, h2, h => by
    obtain ⟨a1, b1⟩ := List.pairwise_cons.1 h1
    obtain ⟨a2, b2⟩ := List.pairwise_cons.1 h2
    have hxy : x = y := by
      apply Classical.byContradiction
      intro e
      have p1 := (h x).1 (by simp)
      have p2 := (h y).2 (by simp)
      rcases List.mem_cons.1 p1 with q | q
      · exact e q
      · rcases List.mem_cons.1 p2 with q2 | q2
        · exact e q2.symm
        · exact absurd (List.lt_trans (a1 y q2) (a2 x q)) (List.lt_irrefl _)
    subst hxy
    congr 1
    refine rising_ext l m b1 b2 (fun z => ?_)
    have hz := h z
    simp only [List.mem_cons] at hz
    constructor
    · intro q
      rcases hz.1 (.inr q) with e | e
      · subst e; exact absurd (a1 z q) (List.lt_irrefl _)
      · exact e
    · intro q
      rcases hz.2 (.inr q) with e | e
      · subst e; exact absurd (a2 z q) (List.lt_irrefl _)
      · exact e
def placeS (out : List ByteArray) (s : ByteArray) : Nat := out.findIdx (fun x => !ltB x s)
def insS (out : List ByteArray) (s : ByteArray) : List ByteArray := if out[placeS out s]? = some s then out else out.take (placeS out s) ++ s :: out.drop (placeS out s)
def streamsD (l : List StoredR) : List ByteArray := l.foldl (fun out e => insS out e.stream) []
theorem insS_spec {l : List ByteArray} (h : RisingB l) (s : ByteArray) : RisingB (insS l s) ∧ ∀ x, x ∈ insS l s ↔ x = s ∨ x ∈ l := by
  unfold insS
  obtain ⟨k, hk⟩ : ∃ k, k = placeS l s := ⟨_, rfl⟩
  rw [← hk]
  split
  · rename_i q
    have hs : s ∈ l := List.mem_of_getElem? q
    exact ⟨h, fun x => ⟨.inr, fun e => e.elim (fun e => by rw [e]; exact hs) id⟩⟩
  · rename_i q
    have h1 : ∀ x ∈ l.take k, x.data.toList < s.data.toList := fun x hx => by
      obtain ⟨j, hj, rfl⟩ := List.getElem_of_mem hx
      have hj2 : j < k := by simp at hj; omega
      rw [List.getElem_take]
      have := List.not_of_lt_findIdx (by unfold placeS at hk; rw [← hk]; exact hj2)
      simp at this
      exact ltB_iff.1 this
    have h2 : ∀ x ∈ l.drop k, s.data.toList < x.data.toList := fun x hx => by
      have hkl : k < l.length := by
        rcases Nat.lt_or_ge k l.length with q | q
        · exact q
        · rw [List.drop_of_length_le q] at hx; cases hx
      have hk0 := List.findIdx_getElem (p := fun x => !ltB x s) (xs := l) (w := by unfold placeS at hk; rw [← hk]; exact hkl)
      have hk' : List.findIdx (fun x => !ltB x s) l = k := hk.symm
      simp only [hk'] at hk0
      have hk1 : ¬ l[k].data.toList < s.data.toList := fun q => by
        have := ltB_iff.2 q
        rw [this] at hk0
        cases hk0
      have hk2 : s.data.toList < l[k].data.toList := by
        rcases List.le_iff_lt_or_eq.1 (List.not_lt.1 hk1) with q3 | q3
        · exact q3
        · exact absurd (by rw [List.getElem?_eq_getElem hkl, ba_inj q3]) q
      rw [List.drop_eq_getElem_cons hkl] at hx
      rcases List.mem_cons.1 hx with e | hx
      · rw [e]; exact hk2
      · obtain ⟨j, hj, rfl⟩ := List.getElem_of_mem hx
        have hj2 : k + 1 + j < l.length := by simp at hj; omega
        have h9 := List.pairwise_iff_getElem.1 h k (k + 1 + j) hkl hj2 (by omega)
        rw [List.getElem_drop]
        exact List.lt_trans hk2 h9
    refine ⟨?_, fun x => ?_⟩
    · refine List.pairwise_append.2 ⟨h.sublist (List.take_sublist _ _), List.pairwise_cons.2 ⟨h2, h.sublist (List.drop_sublist _ _)⟩, fun a ha b hb => ?_⟩
      rcases List.mem_cons.1 hb with e | hb
      · rw [e]; exact h1 a ha
      · exact List.lt_trans (h1 a ha) (h2 b hb)
    · rw [List.mem_append, List.mem_cons]
      have e : x ∈ l ↔ x ∈ l.take k ∨ x ∈ l.drop k := by rw [← List.mem_append, List.take_append_drop]
      rw [e]
      constructor
      · rintro (q | q | q)
        · exact .inr (.inl q)
        · exact .inl q
        · exact .inr (.inr q)
      · rintro (q | q | q)
        · exact .inr (.inl q)
        · exact .inl q
        · exact .inr (.inr q)
theorem streamsGo : ∀ (l : List StoredR) (out : List ByteArray), RisingB out → RisingB (l.foldl (fun out e => insS out e.stream) out) ∧ ∀ x, x ∈ l.foldl (fun out e => insS out e.stream) out ↔ (∃ e ∈ l, e.stream = x) ∨ x ∈ out
  | [], out, h => ⟨h, fun x => by simp⟩
  | e :: l, out, h => by
    obtain ⟨a, b⟩ := insS_spec h e.stream
    obtain ⟨c, d⟩ := streamsGo l (insS out e.stream) a
    refine ⟨c, fun x => ?_⟩
    rw [List.foldl_cons, d x, b x]
    constructor
    · rintro (⟨f, hf, q⟩ | q | q)
      · exact .inl ⟨f, by simp [hf], q⟩
      · exact .inl ⟨e, by simp, q.symm⟩
      · exact .inr q
    · rintro (⟨f, hf, q⟩ | q)
      · rcases List.mem_cons.1 hf with e2 | hf
        · subst e2; exact .inr (.inl q.symm)
        · exact .inl ⟨f, hf, q⟩
      · exact .inr (.inr q)
def sortB (l : List ByteArray) : List ByteArray := ((l.map fun s => s.data.toList).mergeSort (fun x y => decide (x ≤ y))).map fun l => ⟨l.toArray⟩
theorem sortB_mem (l : List ByteArray) (x : ByteArray) : x ∈ sortB l ↔ x ∈ l := by
  unfold sortB
  rw [List.mem_map]
  constructor
  · rintro ⟨z, hz, rfl⟩
    have hz := (List.mergeSort_perm _ _).mem_iff.1 hz
    obtain ⟨y, hy, rfl⟩ := List.mem_map.1 hz
    simpa using hy
  · intro h
    exact ⟨x.data.toList, (List.mergeSort_perm _ _).mem_iff.2 (List.mem_map.2 ⟨x, h, rfl⟩), by simp⟩
theorem sortB_rising {l : List ByteArray} (h : l.Nodup) : RisingB (sortB l) := by
  unfold sortB RisingB
  rw [List.pairwise_map]
  have hs : ((l.map fun s => s.data.toList).mergeSort (fun x y => decide (x ≤ y))).Pairwise (fun x y => decide (x ≤ y) = true) :=
    List.pairwise_mergeSort (fun a b c h1 h2 => by simp at *; exact List.le_trans h1 h2) (fun a b => by simp; exact List.le_total a b) _
  have hd : ((l.map fun s => s.data.toList).mergeSort (fun x y => decide (x ≤ y))).Nodup := by
    refine (List.mergeSort_perm _ _).nodup_iff.2 ?_
    exact List.Pairwise.map _ (fun a b hab q => hab (ba_inj q)) h
  refine (hs.and hd).imp ?_
  rintro a b ⟨h1, h2⟩
  simp only [List.toList_toArray]
  exact (List.le_iff_lt_or_eq.1 (by simpa using h1)).resolve_right h2
/-- The program's streams. -/
def MS.streamsP (s : MS) : List ByteArray := (sortB (s.m.map (·.1))).filter (fun n => !decide ((s.find n).places.length = 0))
section
variable {s : MS} {r : RS} {N : Nat} {n : ByteArray}
theorem Alike.streams (h : Alike s r) (h2 : s.Inv2) (hn : (s.m.map (·.1)).Nodup) : streamsD r.l = s.streamsP := by
  obtain ⟨a, b⟩ := streamsGo r.l [] List.Pairwise.nil
  refine rising_ext _ _ a ((sortB_rising hn).filter _) (fun x => ?_)
  rw [show streamsD r.l = r.l.foldl (fun out e => insS out e.stream) [] from rfl, b x]
  unfold MS.streamsP
  rw [List.mem_filter, sortB_mem]
  have hpl := h2.1 x
  constructor
  · rintro (⟨e, he, hx⟩ | q)
    · have hf : e ∈ s.all.filter (fun e => decide (e.stream = x)) := List.mem_filter.2 ⟨by rw [← h.l]; exact he, by simpa using hx⟩
      rw [← hpl] at hf
      have hl : (s.find x).places.length ≠ 0 := fun q => by
        rw [List.length_eq_zero_iff] at q
        rw [q] at hf
        cases hf
      refine ⟨?_, by simpa using hl⟩
      cases hq : aget s.m x with
      | none =>
        refine absurd ?_ hl
        unfold MS.find
        rw [hq]
        rfl
      | some v => exact List.mem_map.2 ⟨(x, v), aget_mem hq, rfl⟩
    · cases q
  · rintro ⟨_, hl⟩
    left
    have hl : (s.find x).places.length ≠ 0 := by simpa using hl
    have hne : (s.find x).places.map (evAt s.all) ≠ [] := fun q => hl (by rw [List.map_eq_nil_iff] at q; rw [q]; rfl)
    rw [hpl] at hne
    obtain ⟨e, he⟩ := List.exists_mem_of_ne_nil _ hne
    obtain ⟨h3, h4⟩ := List.mem_filter.1 he
    exact ⟨e, by rw [h.l]; exact h3, by simpa using h4⟩
/-! ## what is seen -/
def RS.seenP (r : RS) (n : ByteArray) (e : StoredR) : Bool := (decide (n.toList = []) || decide (e.stream = n)) && !(r.get e.stream).deleted && decide (r.floor e.stream ≤ e.version)
def RS.seenD (r : RS) (n : ByteArray) : List StoredR := r.l.filter (r.seenP n)
def RS.wantSeen (r : RS) (i : Int) : Bool := if i < 0 ∨ (r.l.length : Int) ≤ i then false else !(r.get (evAt r.l i).stream).deleted && decide (r.floor (evAt r.l i).stream ≤ (evAt r.l i).version)
theorem Alike.seen (h : Alike s r) (h2 : s.Inv2) (i : Int) : r.wantSeen i = s.seenAt i := by
  unfold RS.wantSeen MS.seenAt
  rw [h.l, h.del, h.floor h2]
theorem Alike.seenAll (h : Alike s r) (hi : s.Inv) (h2 : s.Inv2) (hn : n.toList = []) : r.seenD n = s.seenAll := by
  unfold RS.seenD MS.seenAll
  rw [h.l]
  refine List.filter_congr fun e he => ?_
  rw [seenAt_of hi he]
  unfold RS.seenP
  rw [h.del, h.floor h2, decide_eq_true hn]
  simp
theorem Alike.seenS (h : Alike s r) (hi : s.Inv) (h2 : s.Inv2) (hn : n.toList ≠ []) : r.seenD n = s.seenL n := by
  rw [seenL_filter hi h2]
  unfold RS.seenD MS.seenAll
  rw [List.filter_filter, h.l]
  refine List.filter_congr fun e he => ?_
  rw [seenAt_of hi he]
  unfold RS.seenP
  rw [h.del, h.floor h2, decide_eq_false hn]
  simp [Bool.and_assoc]
/-! ## pages -/
def bwdGo (key : StoredR → Int) (f n : Int) : List StoredR → List StoredR → Int → PageR
  | [], acc, nx => ⟨acc, nx, true⟩
  | s :: l, acc, nx => if f < key s then bwdGo key f n l acc nx else if (acc.length : Int) = n then ⟨acc, nx, false⟩ else bwdGo key f n l (acc ++ [s]) (max (key s) 0 - 1)
def pageBy (key : StoredR → Int) (l : List StoredR) (f n : Int) (back : Bool) : PageR × Int :=
  if wrongP f n then (PageR.zero, 1) else (if back then bwdGo key f n l.reverse [] f else fwdGo key f n l [] f, 0)
def MS.readP (s : MS) (n : ByteArray) (f k : Int) (back : Bool) : PageR × Int :=
  if (nameOk n && decide (0 ≤ f) && decide (1 ≤ k) && decide (k ≤ 100)) = false then (PageR.zero, 1) else if (s.find n).deleted then (PageR.zero, 23) else if (s.find n).places.length = 0 then (PageR.zero, 8) else pageBy StoredR.version (s.seenL n) f k back
def RS.readD (r : RS) (n : ByteArray) (f k : Int) (back : Bool) : PageR × Int :=
  if (nameOk n && decide (0 ≤ f) && decide (1 ≤ k) && decide (k ≤ 100)) = false then (PageR.zero, 1) else if (r.get n).deleted then (PageR.zero, 23) else if (r.of n).length = 0 then (PageR.zero, 8) else pageBy StoredR.version (r.seenD n) f k back
theorem name_some {n : ByteArray} (h : nameOk n = true) : n.toList ≠ [] := fun q => by
  unfold nameOk at h
  simp only [Bool.and_eq_true, decide_eq_true_eq] at h
  have h1 := h.1.1
  rw [ByteArray.toList_eq] at q
  have : n.size = n.data.toList.length := by simp
  rw [this, q] at h1
  simp at h1
theorem Alike.read (h : Alike s r) (hi : s.Inv) (h2 : s.Inv2) (f k : Int) (back : Bool) : r.readD n f k back = s.readP n f k back := by
  unfold RS.readD MS.readP
  rw [h.del, h.len h2]
  cases hq : (nameOk n && decide (0 ≤ f) && decide (1 ≤ k) && decide (k ≤ 100)) with
  | false => rfl
  | true =>
    have hn : nameOk n = true := by
      cases hb : nameOk n with
      | true => rfl
      | false => rw [hb] at hq; simp at hq
    rw [h.seenS hi h2 (name_some hn)]
/-! ## one event -/
end
end Go.Proofs.YteinoiicnmemhaaGreatDoor
/- The document's state in memory; the base of its contracts: rows, appends, blocks that turn. -/
set_option linter.unusedVariables false
set_option linter.unusedSimpArgs false
namespace Go.Proofs.YteinoiicnmemhaaGreatDoor
open Go Go.RowKit Go.Sort
theorem slc_new1 {w : World} {e : TypeId} {size : Nat} {cs : List Value} (hs : cs.length = 1 * size) : Slc (w.alloc (.cells cs.toArray e)) size (.slice (some ⟨w.heap.size, 0, none⟩) 1 1) 1 cs := by
  have hb := Blk.new w e cs.toArray
  refine ⟨_, 1, rfl, hs, Nat.le_refl _, by simp [maxLen], fun _ => ⟨w.heap.size, 0, rfl, hb.lt, fun j hj => ?_⟩⟩
  rw [Nat.zero_add, hb.cell j]
  simp
theorem slc_take {w : World} {size n cap k : Nat} {A : Option Addr} {cs : List Value} (h : Slc w size (.slice A n cap) n cs) (hk : k ≤ n) : Slc w size (.slice A k cap) k (cs.take (k * size)) := by
  obtain ⟨A', cap', e, h1, h2, h3, h4⟩ := h
  injection e with e1 e2 e3
  subst e1 e3
  have hm : k * size ≤ n * size := Nat.mul_le_mul_right _ hk
  refine ⟨A, cap, rfl, by rw [List.length_take, h1]; omega, by omega, h3, fun hn => ?_⟩
  obtain ⟨b, off, rfl, hb, hc⟩ := h4 (by omega)
  refine ⟨b, off, rfl, hb, fun j hj => ?_⟩
  rw [List.length_take] at hj
  rw [hc j (by omega), List.getElem?_take, if_pos (by omega)]
theorem run_append_zero {P : Program} (w : World) (t e ty : TypeId) (A B : Option Addr) (size n cap c : Nat) (ht : P.underlying t = some (.slice e)) (hs : (Go.sizeOf e).run P w = .ok size w) (hnc : n ≤ cap) :
    (Builtin.append_ #[t, t] ty #[.slice A n cap, .slice B 0 c]).run P w = .ok (.slice A n cap) w := by
  cases A <;> cases B <;> simp [Builtin.append_, run_underlying ht, hs, hnc, Builtin.lenOf, Builtin.firstCells, storeCells, loadCells, loadCellsFrom]
theorem run_app {P : Program} {w : World} (t ty : TypeId) (base : Nat) (e : TypeId) (z : Value) (size bytes : Nat) (ht : P.underlying t = some (.slice e)) (hi : (P.info? e).map (fun i => (i.zero, i.size, i.bytes)) = some (some z, size, bytes))
    (hzs : z.cells.size = size) (hsz : 0 < size) {v : Value} {n : Nat} {xs : List Value} (hown : w.ownsRow base e size v n xs) {u : Value} {m : Nat} {cells : List Value} (hsl : Slc w size u m cells)
    (h1 : ∀ u ∈ cells, u.oneCell' = true) (hb : (n + m) * bytes ≤ 140737488355328) (hm : n + m ≤ maxLen) (hbase : base ≤ w.heap.size) :
    ∃ A cap w', (Builtin.append_ #[t, t] ty #[v, u]).run P w = .ok (.slice A (n + m) cap) w' ∧ w'.ownsRow base e size (.slice A (n + m) cap) (n + m) (xs ++ cells) ∧ Only v.ownBlock.toList w w' ∧
      ∀ g, (Value.slice A (n + m) cap).ownBlock = some g → v.ownBlock = some g ∨ w.heap.size ≤ g := by
  obtain ⟨i, hi1, hi2, hi3, hi4⟩ := info_parts hi
  obtain ⟨B, c, rfl, hl, hc1, hc2, hc⟩ := hsl
  by_cases h0 : m = 0
  · subst h0
    have hcn : cells = [] := List.eq_nil_of_length_eq_zero (by rw [hl]; simp)
    subst hcn
    obtain ⟨A, cap, rfl, hnc, _⟩ := own_form hown
    have hs : (Go.sizeOf e).run P w = .ok size w := by simp [Go.sizeOf, typeInfo, hi1, hi3]
    exact ⟨A, cap, w, run_append_zero w t e ty A B size n cap c ht hs hnc, by simpa using hown, Only.refl _ _, fun g hg => .inl hg⟩
  · obtain ⟨b, off, rfl, hb1, hcc⟩ := hc (by omega)
    obtain ⟨g, cap, w', hr, h2, h3, h4, _⟩ := run_append_lies (P := P) w t ty base e i z size bytes ht hi1 hi2 hi3 hi4 hzs hsz v n xs hown ⟨b, off, none⟩ m c cells hl (fun j x hx => by
      have hj : j < cells.length := (List.getElem?_eq_some_iff.1 hx).1
      rw [show ((⟨b, off, none⟩ : Addr).add j) = ⟨b, off + j, none⟩ by simp [Addr.add], hcc j hj, hx]) h1 (by omega) hm hb hbase w.heap.size rfl
    refine ⟨_, cap, w', hr, h2, (Only.refl _ _).grown h3 (fun k hk => .inl (by simp [hk])), fun x hx => ?_⟩
    have hx' : g = x := by simpa [Value.ownBlock] using hx
    subst hx'
    rcases h4 with h4 | h4
    · exact .inl h4
    · exact .inr (by omega)
theorem toList_decJ (a b : ByteArray) : (a.toList == b.toList) = decide (a = b) := by
  rw [ByteArray.toList_eq, ByteArray.toList_eq]
  by_cases h : a = b
  · rw [h]; simp
  · rw [decide_eq_false h, beq_eq_false_iff_ne]
    exact fun e => h (ba_inj e)
/-- From w to w' only blocks of H turned; those of H' are of H or new. -/
structure Stepped (w w' : World) (H H' : List Nat) : Prop where
  only : ∃ S, Only S w w' ∧ ∀ b ∈ S, b ∈ H
  blk : ∀ b ∈ H', b ∈ H ∨ w.heap.size ≤ b
section
variable {a w w' w'' : World} {H H' H'' : List Nat}
theorem Stepped.refl (w : World) (H : List Nat) : Stepped w w H H := ⟨⟨[], Only.refl _ _, by simp⟩, fun b hb => .inl hb⟩
theorem Stepped.size (h : Stepped w w' H H') : w.heap.size ≤ w'.heap.size := by
  obtain ⟨⟨S, h1, _⟩, _⟩ := h
  exact h1.size
theorem Stepped.trans (h : Stepped w w' H H') (k : Stepped w' w'' H' H'') : Stepped w w'' H H'' := by
  have hz := h.size
  obtain ⟨⟨S, h1, h2⟩, h3⟩ := h
  obtain ⟨⟨T, k1, k2⟩, k3⟩ := k
  refine ⟨⟨S ++ T.filter (fun b => decide (b < w.heap.size)), ?_, fun b hb => ?_⟩, fun b hb => ?_⟩
  · refine (h1.mono (fun b hb => List.mem_append_left _ hb)).step k1 (fun b hb => ?_)
    by_cases q : b < w.heap.size
    · exact .inl (List.mem_append_right _ (List.mem_filter.2 ⟨hb, by simpa using q⟩))
    · exact .inr (by omega)
  · rcases List.mem_append.1 hb with q | q
    · exact h2 b q
    · obtain ⟨q1, q2⟩ := List.mem_filter.1 q
      rcases h3 b (k2 b q1) with q3 | q3
      · exact q3
      · have : b < w.heap.size := by simpa using q2
        omega
  · rcases k3 b hb with q | q
    · exact h3 b q
    · exact .inr (by omega)
theorem Stepped.then0 (h : Stepped w w' H H') (k : Only [] w' w'') : Stepped w w'' H H' := h.trans ⟨⟨[], k, by simp⟩, fun b hb => .inl hb⟩
theorem Stepped.first0 (k : Only [] w w') (h : Stepped w' w'' H H') : Stepped w w'' H H' := Stepped.trans ⟨⟨[], k, by simp⟩, fun b hb => .inl hb⟩ h
theorem Stepped.of {S : List Nat} (k : Only S w w') (hS : ∀ b ∈ S, b ∈ H) (hb : ∀ b ∈ H', b ∈ H ∨ w.heap.size ≤ b) : Stepped w w' H H' := ⟨⟨S, k, hS⟩, hb⟩
/-- Above the world a. -/
theorem Stepped.above (h : Stepped w w' H H') (ha : Only [] a w) (hH : ∀ b ∈ H, a.heap.size ≤ b) : Only [] a w' ∧ ∀ b ∈ H', a.heap.size ≤ b := by
  obtain ⟨⟨S, h1, h2⟩, h3⟩ := h
  refine ⟨ha.step h1 (fun b hb => .inr (hH b (h2 b hb))), fun b hb => ?_⟩
  rcases h3 b hb with q | q
  · exact hH b q
  · exact Nat.le_trans ha.size q
end
theorem infoDs : (Tryz.prog.info? 82).map (fun i => (i.zero, i.size, i.bytes)) = some (some (.agg #[.string ⟨#[]⟩, .int .i64 0, .int .i64 0, .int .i64 0, .int .i64 0, .bool false]), 6, 56) := by kernel_rfl
def DStr.cells (x : DStr) : List Value := [.string x.name, .int .i64 x.mt.maxCount, .int .i64 x.mt.maxAge, .int .i64 x.mt.before, .int .i64 x.kept, .bool x.deleted]
def dcells (l : List DStr) : List Value := l.flatMap DStr.cells
theorem dcells_one (l : List DStr) : ∀ u ∈ dcells l, u.oneCell' = true := by
  intro u hu
  obtain ⟨x, _, hx⟩ := List.mem_flatMap.1 hu
  simp [DStr.cells] at hx
  rcases hx with rfl | rfl | rfl | rfl | rfl | rfl <;> rfl
/-- The document's state r lies in block rb, its events in vl, its streams in vs. -/
structure DocAt (w : World) (rb : Nat) (vl vs : Value) (r : RS) : Prop where
  blk : Blk w rb 31 #[vl, vs, .int .i64 r.now, .int .i64 r.done]
  l : w.ownsRow 0 92 8 vl r.l.length (r.l.flatMap StoredR.cells)
  s : w.ownsRow 0 82 6 vs r.s.length (dcells r.s)
def hD (rb : Nat) (vl vs : Value) : List Nat := rb :: (vl.ownBlock.toList ++ vs.ownBlock.toList)
structure HasD (a w : World) (H : List Nat) (rb : Nat) (r : RS) : Prop where
  din : ∃ vl vs, DocAt w rb vl vs r ∧ H = hD rb vl vs
  only : Only [] a w
  above : ∀ b ∈ H, a.heap.size ≤ b
def DTo (a w : World) (H : List Nat) (rb : Nat) (r : RS) (w' : World) : Prop := ∃ H', HasD a w' H' rb r ∧ Stepped w w' H H'
section
variable {a w w' w'' : World} {H H' S : List Nat} {rb : Nat} {vl vs : Value} {r : RS}
theorem DocAt.lt (h : DocAt w rb vl vs r) : ∀ b ∈ hD rb vl vs, b < w.heap.size := by
  intro b hb
  simp only [hD, List.mem_cons, List.mem_append, Option.mem_toList] at hb
  rcases hb with rfl | q | q
  · exact h.blk.lt
  · exact (h.l.lt b q).2
  · exact (h.s.lt b q).2
theorem DocAt.only (h : DocAt w rb vl vs r) (k : Only S w w') (hd : ∀ b ∈ hD rb vl vs, b ∉ S) : DocAt w' rb vl vs r :=
  ⟨k.blk h.blk (hd rb (by simp [hD])), own_only h.l k (fun g hg => hd g (by simp [hD, hg])), own_only h.s k (fun g hg => hd g (by simp [hD, hg]))⟩
theorem DocAt.only0 (h : DocAt w rb vl vs r) (k : Only [] w w') : DocAt w' rb vl vs r := h.only k (by simp)
theorem DocAt.ne (h : DocAt w rb vl vs r) : (∀ g, vl.ownBlock = some g → g ≠ rb) ∧ (∀ g, vs.ownBlock = some g → g ≠ rb) ∧ ∀ g, vl.ownBlock = some g → vs.ownBlock ≠ some g := by
  refine ⟨fun g hg => ?_, fun g hg => ?_, fun g hg q => ?_⟩
  · obtain ⟨cur, hc⟩ := own_type h.l hg
    exact hc.other h.blk (by decide)
  · obtain ⟨cur, hc⟩ := own_type h.s hg
    exact hc.other h.blk (by decide)
  · obtain ⟨c1, hc1⟩ := own_type h.l hg
    obtain ⟨c2, hc2⟩ := own_type h.s q
    exact hc1.other hc2 (by decide) rfl
theorem HasD.lt (h : HasD a w H rb r) : ∀ b ∈ H, b < w.heap.size := by
  obtain ⟨⟨vl, vs, h1, rfl⟩, _⟩ := h
  exact h1.lt
theorem HasD.keep (h : HasD a w H rb r) (k : Only S w w') (ha : ∀ b ∈ S, a.heap.size ≤ b) (hS : ∀ b ∈ H, b ∉ S) : HasD a w' H rb r := by
  obtain ⟨⟨vl, vs, h1, rfl⟩, ho, hab⟩ := h
  exact ⟨⟨vl, vs, h1.only k hS, rfl⟩, ho.step k (fun i hi => .inr (ha i hi)), hab⟩
theorem HasD.keep0 (h : HasD a w H rb r) (k : Only [] w w') : HasD a w' H rb r := h.keep k (by simp) (by simp)
theorem DTo.refl (h : HasD a w H rb r) : DTo a w H rb r w := ⟨H, h, Stepped.refl _ _⟩
theorem DTo.trans (h : Stepped w w' H H') (k : DTo a w' H' rb r w'') : DTo a w H rb r w'' := by
  obtain ⟨H2, k1, k2⟩ := k
  exact ⟨H2, k1, h.trans k2⟩
theorem hasD_of {r' : RS} {vl' vs' : Value} (h : HasD a w H rb r) (h1 : DocAt w' rb vl' vs' r') (k : Stepped w w' H (hD rb vl' vs')) : DTo a w H rb r' w' := by
  obtain ⟨q1, q2⟩ := k.above h.only h.above
  exact ⟨_, ⟨⟨vl', vs', h1, rfl⟩, q1, q2⟩, k⟩
/-- What is read of a state: its fields, each event, each stream. -/
theorem DocAt.open (h : DocAt w rb vl vs r) : ∃ Al cl As cs, vl = .slice Al r.l.length cl ∧ vs = .slice As r.s.length cs ∧ r.l.length ≤ cl ∧ cl ≤ maxLen ∧ r.s.length ≤ cs ∧ cs ≤ maxLen ∧
    (∀ j (hj : j < r.l.length), ∃ b off, Al = some ⟨b, off, none⟩ ∧ b < w.heap.size ∧ ∀ i, i < 8 → w.cell? ⟨b, off + j * 8 + i, none⟩ = (r.l[j].cells)[i]?) ∧
    (∀ j (hj : j < r.s.length), ∃ b off, As = some ⟨b, off, none⟩ ∧ b < w.heap.size ∧ ∀ i, i < 6 → w.cell? ⟨b, off + j * 6 + i, none⟩ = (r.s[j].cells)[i]?) := by
  obtain ⟨Al, cl, e1, q1, q2, q3⟩ := (Slc.of_own h.l).1.openE StoredR.cells (fun _ => rfl)
  obtain ⟨As, cs, e2, q4, q5, q6⟩ := (Slc.of_own h.s).1.openE DStr.cells (fun _ => rfl)
  exact ⟨Al, cl, As, cs, e1, e2, q1, q2, q4, q5, q3, q6⟩
end
end Go.Proofs.YteinoiicnmemhaaGreatDoor
/- Contracts of the document's state: fits, stream, Get, Of. -/
set_option linter.unusedVariables false
set_option linter.unusedSimpArgs false
namespace Go.Proofs.YteinoiicnmemhaaGreatDoor
open Go Go.RowKit Go.Sort
theorem eqD_t {x s : ByteArray} (h : x = s) : (x.toList == s.toList) = true := by rw [h]; simp
theorem eqD_f {x s : ByteArray} (h : ¬ x = s) : (x.toList == s.toList) = false := by rw [toList_decJ, decide_eq_false h]
theorem dfits_any (want : Int) (count : Nat) (w : World) (hc : count ≤ 1000000) : Calls Tryz.prog 30 #[.int .i64 want, .int .i64 count] w fun e w' => e = .returned (.bool (fitsD want count)) ∧ w = w' := by
  by_cases h1 : want = -2
  · subst h1
    go_enter Tryz.func30, Tryz.ntmps30
    go_wp2
    go_ret
    exact ⟨ret_b (by simp [fitsD]), rfl⟩
  · have b1 : (want == -2) = false := by simpa using h1
    by_cases h2 : want = -1
    · subst h2
      obtain ⟨bb, hbb⟩ : ∃ bb, ((count : Int) == 0) = bb := ⟨_, rfl⟩
      have hr : fitsD (-1) count = bb := by rw [← hbb]; unfold fitsD; rw [if_neg (by decide), if_pos rfl]; rfl
      rw [hr]
      clear hr
      go_enter Tryz.func30, Tryz.ntmps30
      go_wp2
      go_ret
      exact ⟨rfl, rfl⟩
    · have b2 : (want == -1) = false := by simpa using h2
      by_cases h4 : want = -4
      · subst h4
        have hr : fitsD (-4) count = decide (0 < count) := by unfold fitsD; rw [if_neg (by decide), if_neg (by decide), if_pos rfl]; congr 1; apply propext; constructor <;> intro <;> omega
        rw [hr]
        clear hr
        go_enter Tryz.func30, Tryz.ntmps30
        go_wp2
        go_ret
        exact ⟨rfl, rfl⟩
      · have b4 : (want == -4) = false := by simpa using h4
        have hr : Hid (fitsD want count = (decide (want = (count : Int) - 1) && decide ((0 : Int) < count))) := by unfold Hid fitsD; rw [if_neg h1, if_neg h2, if_neg h4]
        have e1 := IntWalk.i64_in ((count : Int) - 1) ⟨by omega, by omega⟩
        clear h1 h2 h4
        by_cases h5 : want = (count : Int) - 1
        · have b5 : (want == (count : Int) - 1) = true := by simpa using h5
          have hr' : Hid (fitsD want count = decide (0 < count)) := by
            unfold Hid
            rw [hr.out, decide_eq_true h5, Bool.true_and]
            congr 1
            apply propext
            constructor <;> intro <;> omega
          clear h5
          rw [hr'.out]
          go_enter Tryz.func30, Tryz.ntmps30
          go_wp2
          go_ret
          exact ⟨rfl, rfl⟩
        · have b5 : (want == (count : Int) - 1) = false := by simpa using h5
          have hr' : Hid (fitsD want count = false) := by unfold Hid; rw [hr.out, decide_eq_false h5]; rfl
          clear h5
          rw [hr'.out]
          go_enter Tryz.func30, Tryz.ntmps30
          go_wp2
          go_ret
          exact ⟨rfl, rfl⟩
def dIx (l : List DStr) (n : ByteArray) : Int := if l.findIdx (fun x => decide (x.name = n)) < l.length then (l.findIdx (fun x => decide (x.name = n)) : Int) else -1
theorem dIx_hit {l : List DStr} {n : ByteArray} {j : Nat} (hj : j < l.length) (hb : ∀ k (hk : k < j) (hl : k < l.length), ¬ l[k].name = n) (h : l[j].name = n) : dIx l n = j ∧ l.find? (fun x => decide (x.name = n)) = some l[j] := by
  have hi : l.findIdx (fun x => decide (x.name = n)) = j := by
    refine (List.findIdx_eq hj).2 ⟨by simpa using h, fun k hk => by simpa using hb k hk (by omega)⟩
  refine ⟨by unfold dIx; rw [hi, if_pos hj], ?_⟩
  refine List.find?_eq_some_iff_getElem.2 ⟨by simpa using h, j, hj, rfl, fun k hk => by simpa using hb k hk (by omega)⟩
theorem dIx_end {l : List DStr} {n : ByteArray} (hb : ∀ k (hl : k < l.length), ¬ l[k].name = n) : dIx l n = -1 ∧ l.find? (fun x => decide (x.name = n)) = none := by
  have hf : l.find? (fun x => decide (x.name = n)) = none := List.find?_eq_none.2 (fun x hx => by
    obtain ⟨k, hk, rfl⟩ := List.getElem_of_mem hx
    simpa using hb k hk)
  refine ⟨?_, hf⟩
  unfold dIx
  rw [if_neg]
  intro q
  have h1 := List.findIdx_getElem (p := fun x : DStr => decide (x.name = n)) (xs := l) (w := q)
  exact hb _ q (by simpa using h1)
section
variable {a w : World} {H : List Nat} {rb : Nat} {r : RS}
set_option maxRecDepth 100000 in
set_option maxHeartbeats 1000000 in
theorem dstream_any (h : HasD a w H rb r) (n : ByteArray) :
    Calls Tryz.prog 68 #[.pointer (some ⟨rb, 0, none⟩), .string n] w fun e w' => e = .returned (.int .i64 (dIx r.s n)) ∧ Only [] w w' := by
  obtain ⟨⟨vl, vs, hA, rfl⟩, -, -⟩ := h
  obtain ⟨Al, cl, As, cs, rfl, rfl, -, -, hm1, hm2, -, hS⟩ := hA.open
  unfold maxLen at hm2
  have f1 : w.cell? ⟨rb, 1, none⟩ = some (.slice As r.s.length cs) := hA.blk.cell 1
  have hrb := hA.blk.lt
  have HS := Lib.hid hS
  clear hS hA
  go_enter Tryz.func68, Tryz.ntmps68
  go_wp2
  go_loopw [5] (fun iv wr => ∃ j : Nat, j ≤ r.s.length ∧ iv = .int .i64 j ∧ Only [] w wr ∧ Hid (∀ k (hk : k < j) (hl : k < r.s.length), ¬ r.s[k].name = n)) (fun iv _ => r.s.length - (intOf iv).toNat)
  case atStart => exact ⟨0, Nat.zero_le _, rfl, Only.refl _ _, fun k hk => absurd hk (Nat.not_lt_zero _)⟩
  case round =>
    obtain ⟨j, hj, rfl, hO, hs⟩ := hrel
    have g1 : wr.cell? ⟨rb, 1, none⟩ = some (.slice As r.s.length cs) := (hO.cell hrb (by simp)).trans f1
    by_cases hlt : j < r.s.length
    · obtain ⟨b, off, rfl, hb, hcell⟩ := HS.out j hlt
      obtain ⟨x, hx⟩ : ∃ x, x = r.s[j] := ⟨_, rfl⟩
      have c0 : wr.cell? ⟨b, off + j * 6, none⟩ = some (.string x.name) := (hO.cell (p := ⟨b, off + j * 6, none⟩) hb (by simp)).trans (by have := hcell 0 (by omega); rw [← hx] at this; exact this)
      by_cases he : x.name = n
      · have hf := (dIx_hit hlt hs.out (by rw [← hx]; exact he)).1
        have he2 := eqD_t he
        clear hcell hx he
        go_wp2
        go_ret
        rw [hf]
        exact ⟨rfl, hO⟩
      · have hs2 : Hid (∀ k (hk : k < j + 1) (hl : k < r.s.length), ¬ r.s[k].name = n) := fun k hk hl => by
          by_cases e : k = j
          · subst e
            rw [← hx]
            exact he
          · exact hs.out k (by omega) hl
        have he2 := eqD_f he
        clear hcell hx hs he
        go_wp2
        go_round
        case rel => exact ⟨j + 1, hlt, by simp, hO, hs2⟩
        case measure => simp [intOf]; omega
    · have hf := (dIx_end (fun k hl => hs.out k (by omega) hl)).1
      clear hs
      go_wp2
      go_ret
      rw [hf]
      exact ⟨rfl, hO⟩
theorem stored_one (l : List StoredR) : ∀ u ∈ l.flatMap StoredR.cells, u.oneCell' = true := by
  intro u hu
  obtain ⟨x, _, hx⟩ := List.mem_flatMap.1 hu
  simp [StoredR.cells, EventR.cells] at hx
  rcases hx with rfl | rfl | rfl | rfl | rfl | rfl | rfl | rfl <;> rfl
theorem app8 {W : World} {base : Nat} {v : Value} {l : List StoredR} (hown : W.ownsRow base 92 8 v l.length (l.flatMap StoredR.cells)) (hb : base ≤ W.heap.size) (hl : l.length ≤ 1000000) (x : StoredR) :
    ∃ A cap w', (Builtin.append_ #[28, 28] 28 #[v, .slice (some ⟨W.heap.size, 0, none⟩) 1 1]).run Tryz.prog (W.alloc (.cells #[.int .i64 x.ev.id, .string x.ev.type, .string x.ev.data, .float .f64 x.ev.value, .string x.stream, .int .i64 x.version, .int .i64 x.position, .int .i64 x.time] 92)) = .ok (.slice A (l.length + 1) cap) w' ∧ w'.ownsRow base 92 8 (.slice A (l.length + 1) cap) (l ++ [x]).length ((l ++ [x]).flatMap StoredR.cells) ∧ Only v.ownBlock.toList (W.alloc (.cells #[.int .i64 x.ev.id, .string x.ev.type, .string x.ev.data, .float .f64 x.ev.value, .string x.stream, .int .i64 x.version, .int .i64 x.position, .int .i64 x.time] 92)) w' := by
  obtain ⟨A, cap, w', h1, h2, h3, _⟩ := run_app (P := Tryz.prog) (w := W.alloc (.cells #[.int .i64 x.ev.id, .string x.ev.type, .string x.ev.data, .float .f64 x.ev.value, .string x.stream, .int .i64 x.version, .int .i64 x.position, .int .i64 x.time] 92)) 28 28 base 92 (.agg #[.int .i64 0, .string ⟨#[]⟩, .string ⟨#[]⟩, .float .f64 0, .string ⟨#[]⟩, .int .i64 0, .int .i64 0, .int .i64 0]) 8 88 Tryz.underlying28 infoSt rfl (by decide) (hown.alloc _) (slc_new1 (w := W) (e := 92) (size := 8) (cs := x.cells) rfl) (by simpa using stored_one [x]) (by omega) (by unfold maxLen; omega) (Nat.le_trans hb (by simp))
  refine ⟨A, cap, w', h1, ?_, h3⟩
  rw [List.length_append]
  simpa using h2
theorem of_succ (l : List StoredR) (n : ByteArray) {k : Nat} (h : k < l.length) : (l.take (k + 1)).filter (fun e => decide (e.stream = n)) = (l.take k).filter (fun e => decide (e.stream = n)) ++ if l[k].stream = n then [l[k]] else [] := by
  rw [List.take_succ_eq_append_getElem h, List.filter_append]
  congr 1
  by_cases q : l[k].stream = n
  · simp [q]
  · simp [q]
set_option maxRecDepth 100000 in
set_option maxHeartbeats 2000000 in
theorem dof_any (h : HasD a w H rb r) (hl : r.l.length ≤ 1000000) (n : ByteArray) :
    Calls Tryz.prog 28 #[.pointer (some ⟨rb, 0, none⟩), .string n] w fun e w' => ∃ v', e = .returned v' ∧ w'.ownsRow w.heap.size 92 8 v' (r.of n).length ((r.of n).flatMap StoredR.cells) ∧ Only [] w w' := by
  obtain ⟨⟨vl, vs, hA, rfl⟩, -, -⟩ := h
  obtain ⟨Al, cl, As, cs, rfl, rfl, -, hcm1, -, -, hel1, -⟩ := hA.open
  unfold maxLen at hcm1
  have f0 : w.cell? ⟨rb, 0, none⟩ = some (.slice Al r.l.length cl) := hA.blk.cell 0
  have hrb := hA.blk.lt
  have hsf := stF
  obtain ⟨l, hle⟩ : ∃ l, r.l = l := ⟨_, rfl⟩
  have hof : r.of n = l.filter (fun e => decide (e.stream = n)) := by rw [← hle]; rfl
  rw [hof]
  rw [hle] at hel1 f0 hl
  clear hA hof hle
  go_enter Tryz.func28, Tryz.ntmps28
  go_wp2
  go_loopw [5, 6] (fun o i wr => ∃ (k : Nat) (A : Option Addr) (cap : Nat), k ≤ l.length ∧ i = .int .i64 k ∧ o = .slice A ((l.take k).filter (fun e => decide (e.stream = n))).length cap ∧ wr.ownsRow w.heap.size 92 8 (.slice A ((l.take k).filter (fun e => decide (e.stream = n))).length cap) ((l.take k).filter (fun e => decide (e.stream = n))).length (((l.take k).filter (fun e => decide (e.stream = n))).flatMap StoredR.cells) ∧ Only [] w wr) (fun _ i _ => l.length - (intOf i).toNat)
  case atStart => exact ⟨0, none, 0, Nat.zero_le _, rfl, rfl, World.ownsRow_nil _ _ _ _, Only.refl _ _⟩
  case round =>
    obtain ⟨k, A, cap, hk, rfl, rfl, hown, hO⟩ := hrel
    have g0 : wr.cell? ⟨rb, 0, none⟩ = some (.slice Al l.length cl) := (hO.cell hrb (by simp)).trans f0
    have hfew : ((l.take k).filter (fun e => decide (e.stream = n))).length ≤ k := Nat.le_trans (List.length_filter_le _ _) (by rw [List.length_take]; omega)
    by_cases hlt : k < l.length
    · obtain ⟨b, off, rfl, hbb, hcc⟩ := hel1 k hlt
      have hnx := of_succ l n hlt
      obtain ⟨x, hx⟩ : ∃ x, x = l[k] := ⟨_, rfl⟩
      rw [← hx] at hcc hnx
      have c0 : wr.cell? ⟨b, off + k * 8, none⟩ = some (.int .i64 x.ev.id) := (hO.cell hbb (by simp)).trans (hcc 0 (by omega))
      have c1 : wr.cell? ⟨b, off + k * 8 + 1, none⟩ = some (.string x.ev.type) := (hO.cell hbb (by simp)).trans (hcc 1 (by omega))
      have c2 : wr.cell? ⟨b, off + k * 8 + 2, none⟩ = some (.string x.ev.data) := (hO.cell hbb (by simp)).trans (hcc 2 (by omega))
      have c3 : wr.cell? ⟨b, off + k * 8 + 3, none⟩ = some (.float .f64 x.ev.value) := (hO.cell hbb (by simp)).trans (hcc 3 (by omega))
      have c4 : wr.cell? ⟨b, off + k * 8 + 4, none⟩ = some (.string x.stream) := (hO.cell hbb (by simp)).trans (hcc 4 (by omega))
      have c5 : wr.cell? ⟨b, off + k * 8 + 5, none⟩ = some (.int .i64 x.version) := (hO.cell hbb (by simp)).trans (hcc 5 (by omega))
      have c6 : wr.cell? ⟨b, off + k * 8 + 6, none⟩ = some (.int .i64 x.position) := (hO.cell hbb (by simp)).trans (hcc 6 (by omega))
      have c7 : wr.cell? ⟨b, off + k * 8 + 7, none⟩ = some (.int .i64 x.time) := (hO.cell hbb (by simp)).trans (hcc 7 (by omega))
      obtain ⟨L, hL⟩ : ∃ L, L = (l.take k).filter (fun e => decide (e.stream = n)) := ⟨_, rfl⟩
      rw [← hL] at hown hfew hnx ⊢
      clear hcc hx hel1 hL
      by_cases he : x.stream = n
      · rw [if_pos he] at hnx
        have HNX := Lib.hid hnx
        have he2 := eqD_t he
        obtain ⟨A4, c4', w4, hr4, hown4, hO4⟩ := app8 (W := wr) (base := w.heap.size) hown hO.size (by omega) x
        have HR4 := Lib.hid hr4
        clear hr4 hnx he
        go_wp2_with (at_builtin; refine Lib.wpList_append_run _ rfl (.tmp 26) (.tmp 34) 28 28 rfl _ _ rfl rfl _ _ HR4.out ?_)
        have hb3 := fun g hg => (World.ownsRow.lt hown g hg).1
        have hO5 : Only [] w w4 := (hO.alloc _).step hO4 (fun g hg => .inr (by have := hb3 g (by simpa using hg); omega))
        go_round
        case rel =>
          refine ⟨k + 1, A4, c4', hlt, by simp, ?_, ?_, hO5⟩
          · rw [HNX.out, List.length_append]
            rfl
          · rw [HNX.out]
            simpa using hown4
        case measure => simp [intOf]; omega
      · rw [if_neg he, List.append_nil] at hnx
        have HNX := Lib.hid hnx
        have he2 := eqD_f he
        clear hnx he
        go_wp2
        go_round
        case rel =>
          refine ⟨k + 1, A, cap, hlt, by simp, ?_, ?_, hO⟩
          · rw [HNX.out]
          · rw [HNX.out]
            exact hown
        case measure => simp [intOf]; omega
    · have hkl : k = l.length := by omega
      subst hkl
      rw [List.take_length] at hown ⊢
      obtain ⟨L, hL⟩ : ∃ L, L = l.filter (fun e => decide (e.stream = n)) := ⟨_, rfl⟩
      rw [← hL] at hown ⊢
      have HL := Lib.hid hL
      clear hel1 hL
      go_wp2
      go_ret
      refine ⟨_, rfl, ?_, hO⟩
      rw [← HL.out]
      exact hown
def DStr.val (x : DStr) : Value := .agg #[.string x.name, .int .i64 x.mt.maxCount, .int .i64 x.mt.maxAge, .int .i64 x.mt.before, .int .i64 x.kept, .bool x.deleted]
set_option maxRecDepth 100000 in
set_option maxHeartbeats 2000000 in
theorem dget_any (h : HasD a w H rb r) (n : ByteArray) :
    Calls Tryz.prog 26 #[.pointer (some ⟨rb, 0, none⟩), .string n] w fun e w' => e = .returned (r.get n).val ∧ Only [] w w' := by
  have HIx := Lib.hid fun (W : World) (k : Only [] w W) => dstream_any (h.keep0 k) n
  obtain ⟨⟨vl, vs, hA, rfl⟩, -, -⟩ := h
  obtain ⟨Al, cl, As, cs, rfl, rfl, -, -, hm1, hm2, -, hS⟩ := hA.open
  unfold maxLen at hm2
  have f1 : w.cell? ⟨rb, 1, none⟩ = some (.slice As r.s.length cs) := hA.blk.cell 1
  have hrb := hA.blk.lt
  by_cases hin : ∃ j, ∃ hj : j < r.s.length, (∀ k (hk : k < j) (hl : k < r.s.length), ¬ r.s[k].name = n) ∧ r.s[j].name = n
  · obtain ⟨j, hj, hb, he⟩ := hin
    obtain ⟨h1, h2⟩ := dIx_hit hj hb he
    have hget : r.get n = r.s[j] := by unfold RS.get; rw [h2]; rfl
    rw [hget]
    rw [h1] at HIx
    obtain ⟨b, off, rfl, hbb, hcc⟩ := hS j hj
    obtain ⟨x, hx⟩ : ∃ x, r.s[j] = x := ⟨_, rfl⟩
    rw [hx] at hcc ⊢
    clear h1 h2 hget hb he hx hS hA
    go_enter Tryz.func26, Tryz.ntmps26
    go_wp2_with fail
    refine (HIx.out _ ((Only.refl _ _).alloc _)).mono ?_
    rintro e1 w1 ⟨rfl, k1⟩
    have hk := k1.blk (Blk.new w 82 #[.string ⟨#[]⟩, .int .i64 0, .int .i64 0, .int .i64 0, .int .i64 0, .bool false]) (by simp)
    have hO1 : Only [] w w1 := ((Only.refl _ _).alloc _).trans k1
    have hf := hk.free
    have hc := hk.cell
    have g1 : w1.cell? ⟨rb, 1, none⟩ = some (.slice (some ⟨b, off, none⟩) r.s.length cs) := (hO1.cell (p := ⟨rb, 1, none⟩) hrb (by simp)).trans f1
    have d0 : w1.cell? ⟨b, off + j * 6, none⟩ = some (.string x.name) := (hO1.cell (p := ⟨b, off + j * 6, none⟩) hbb (by simp)).trans (hcc 0 (by omega))
    have d1 : w1.cell? ⟨b, off + j * 6 + 1, none⟩ = some (.int .i64 x.mt.maxCount) := (hO1.cell (p := ⟨b, off + j * 6 + 1, none⟩) hbb (by simp)).trans (hcc 1 (by omega))
    have d2 : w1.cell? ⟨b, off + j * 6 + 2, none⟩ = some (.int .i64 x.mt.maxAge) := (hO1.cell (p := ⟨b, off + j * 6 + 2, none⟩) hbb (by simp)).trans (hcc 2 (by omega))
    have d3 : w1.cell? ⟨b, off + j * 6 + 3, none⟩ = some (.int .i64 x.mt.before) := (hO1.cell (p := ⟨b, off + j * 6 + 3, none⟩) hbb (by simp)).trans (hcc 3 (by omega))
    have d4 : w1.cell? ⟨b, off + j * 6 + 4, none⟩ = some (.int .i64 x.kept) := (hO1.cell (p := ⟨b, off + j * 6 + 4, none⟩) hbb (by simp)).trans (hcc 4 (by omega))
    have d5 : w1.cell? ⟨b, off + j * 6 + 5, none⟩ = some (.bool x.deleted) := (hO1.cell (p := ⟨b, off + j * 6 + 5, none⟩) hbb (by simp)).trans (hcc 5 (by omega))
    clear hcc
    go_wp2
    have hS6 := (((((hk.set 0 (.string x.name)).set 1 (.int .i64 x.mt.maxCount)).set 2 (.int .i64 x.mt.maxAge)).set 3 (.int .i64 x.mt.before)).set 4 (.int .i64 x.kept)).set 5 (.bool x.deleted)
    have hO6 : Only [] w ((((((w1.setCell ⟨w.heap.size, 0, none⟩ (.string x.name)).setCell ⟨w.heap.size, 1, none⟩ (.int .i64 x.mt.maxCount)).setCell ⟨w.heap.size, 2, none⟩ (.int .i64 x.mt.maxAge)).setCell ⟨w.heap.size, 3, none⟩ (.int .i64 x.mt.before)).setCell ⟨w.heap.size, 4, none⟩ (.int .i64 x.kept)).setCell ⟨w.heap.size, 5, none⟩ (.bool x.deleted)) := by
      iterate 6 (refine Only.setCell ?_ (.inr (Nat.le_refl _)) _)
      exact hO1
    obtain ⟨W3, hW3⟩ : ∃ W3, ((((((w1.setCell ⟨w.heap.size, 0, none⟩ (.string x.name)).setCell ⟨w.heap.size, 1, none⟩ (.int .i64 x.mt.maxCount)).setCell ⟨w.heap.size, 2, none⟩ (.int .i64 x.mt.maxAge)).setCell ⟨w.heap.size, 3, none⟩ (.int .i64 x.mt.before)).setCell ⟨w.heap.size, 4, none⟩ (.int .i64 x.kept)).setCell ⟨w.heap.size, 5, none⟩ (.bool x.deleted)) = W3 := ⟨_, rfl⟩
    rw [hW3] at hS6 hO6 ⊢
    have hc6 := hS6.cell
    refine bodyPost_ret (v := .agg #[.string x.name, .int .i64 x.mt.maxCount, .int .i64 x.mt.maxAge, .int .i64 x.mt.before, .int .i64 x.kept, .bool x.deleted]) (by simp [results, Tryz.results26, go_sem, hc6]) rfl ⟨rfl, hO6⟩
  · have hall : ∀ k (hl : k < r.s.length), ¬ r.s[k].name = n := by
      intro k
      induction k using Nat.strongRecOn with
      | _ k ih => exact fun hl q => hin ⟨k, hl, fun i hi hil => ih i hi hil, q⟩
    obtain ⟨h1, h2⟩ := dIx_end hall
    have hget : r.get n = ⟨n, MetaR.zero, 0, false⟩ := by unfold RS.get; rw [h2]; rfl
    rw [hget]
    rw [h1] at HIx
    clear h1 h2 hget hall hin hS hA
    go_enter Tryz.func26, Tryz.ntmps26
    go_wp2_with fail
    refine (HIx.out _ ((Only.refl _ _).alloc _)).mono ?_
    rintro e1 w1 ⟨rfl, k1⟩
    have hk := k1.blk (Blk.new w 82 #[.string ⟨#[]⟩, .int .i64 0, .int .i64 0, .int .i64 0, .int .i64 0, .bool false]) (by simp)
    have hO1 : Only [] w w1 := ((Only.refl _ _).alloc _).trans k1
    have hf := hk.free
    have hc := hk.cell
    go_wp2
    have hS6 := (((((hk.set 0 (.string n)).set 1 (.int .i64 0)).set 2 (.int .i64 0)).set 3 (.int .i64 0)).set 4 (.int .i64 0)).set 5 (.bool false)
    have hO6 : Only [] w ((((((w1.setCell ⟨w.heap.size, 0, none⟩ (.string n)).setCell ⟨w.heap.size, 1, none⟩ (.int .i64 0)).setCell ⟨w.heap.size, 2, none⟩ (.int .i64 0)).setCell ⟨w.heap.size, 3, none⟩ (.int .i64 0)).setCell ⟨w.heap.size, 4, none⟩ (.int .i64 0)).setCell ⟨w.heap.size, 5, none⟩ (.bool false)) := by
      iterate 6 (refine Only.setCell ?_ (.inr (Nat.le_refl _)) _)
      exact hO1
    obtain ⟨W3, hW3⟩ : ∃ W3, ((((((w1.setCell ⟨w.heap.size, 0, none⟩ (.string n)).setCell ⟨w.heap.size, 1, none⟩ (.int .i64 0)).setCell ⟨w.heap.size, 2, none⟩ (.int .i64 0)).setCell ⟨w.heap.size, 3, none⟩ (.int .i64 0)).setCell ⟨w.heap.size, 4, none⟩ (.int .i64 0)).setCell ⟨w.heap.size, 5, none⟩ (.bool false)) = W3 := ⟨_, rfl⟩
    rw [hW3] at hS6 hO6 ⊢
    have hc6 := hS6.cell
    refine bodyPost_ret (v := .agg #[.string n, .int .i64 0, .int .i64 0, .int .i64 0, .int .i64 0, .bool false]) (by simp [results, Tryz.results26, go_sem, hc6]) rfl ⟨rfl, hO6⟩
end
end Go.Proofs.YteinoiicnmemhaaGreatDoor
/- Contracts of the document's state: a floor. -/
set_option linter.unusedVariables false
set_option linter.unusedSimpArgs false
namespace Go.Proofs.YteinoiicnmemhaaGreatDoor
open Go Go.RowKit Go.Sort
theorem stagesFirst3 {P : Program} {C : World → Prop} {Q : Exit → Act → World → Prop} {l : List Oper} {H A : List Nat} {r : List (List Nat × List Nat)} {K : Act → World → Prop} {a : Act} {w : World} (h : wpQuiet P l.toArray C (fun a' => wpT1 P l.toArray C Q (opsAt l A) (wpStages P l C Q K r) a' w) (opsAt l H) a) : wpStages P l C Q K ((H, A) :: r) a w := h
theorem stagesDoneD {P : Program} {C : World → Prop} {Q : Exit → Act → World → Prop} {l : List Oper} {a : Act} {w : World} (h : Q .normal a w) : wpT1 P l.toArray C Q (opsAt l []) (wpStages P l C Q (fun a w => wpList P l.toArray Q (opsAt l []) a w) []) a w := h
set_option maxRecDepth 100000 in
set_option maxHeartbeats 2000000 in
theorem dfloorP_any {w : World} {v : Value} {ts : List Int} (m : MetaR) (f now : Int) (hm : m.ok = true) (hf : -1000000000000 ≤ f ∧ f ≤ 1000000000000) (hn : 0 ≤ now ∧ now ≤ 1099511627776) (hv : Slc w 1 v ts.length (ints ts)) (hl : ts.length ≤ 1000000) :
    Calls Tryz.prog 101 #[.agg #[.int .i64 m.maxCount, .int .i64 m.maxAge, .int .i64 m.before], .int .i64 f, .int .i64 now, v] w fun e w' => e = .returned (.int .i64 (floorE m f now ts)) ∧ Only [] w w' := by
  obtain ⟨A, cap, rfl, -, hcm, hel⟩ := hv.openI
  unfold maxLen at hcm
  clear hv
  obtain ⟨mc, age, bf⟩ := m
  have hmb : (0 ≤ mc ∧ mc ≤ 1099511627776) ∧ (0 ≤ age ∧ age ≤ 1099511627776) ∧ (0 ≤ bf ∧ bf ≤ 1099511627776) := by
    unfold MetaR.ok within at hm
    simp only [Bool.and_eq_true, decide_eq_true_eq] at hm
    omega
  clear hm
  dsimp only
  obtain ⟨W0, hW⟩ : ∃ W0, w.alloc (.cells #[.int .i64 mc, .int .i64 age, .int .i64 bf] 38) = W0 := ⟨_, rfl⟩
  have hB : Blk W0 w.heap.size 38 #[.int .i64 mc, .int .i64 age, .int .i64 bf] := by rw [← hW]; exact Blk.new _ _ _
  have hOw : Only [] w W0 := by rw [← hW]; exact (Only.refl _ _).alloc _
  have hc1 : W0.cell? ⟨w.heap.size, 1, none⟩ = some (.int .i64 age) := hB.cell 1
  have hbl := hB.lt
  have hW0 := hOw.size
  have e9 := IntWalk.i64_in ((ts.length : Int) - mc) ⟨by omega, by omega⟩
  have HW := Lib.hid hW
  have HO := Lib.hid hOw
  clear hW hB
  by_cases q5 : 0 < mc
  · have q6 : decide (0 < mc) = true := decide_eq_true q5
    by_cases q7 : 0 < age
    · have q8 : decide (0 < age) = true := decide_eq_true q7
      have HFl : Hid (floorE ⟨mc, age, bf⟩ f now ts = min (max (max (max (max f 0) bf) ((ts.length : Int) - mc)) (young age now ts)) ts.length) := by unfold Hid floorE; dsimp only; rw [if_pos q5, if_pos q7]
      go_enter Tryz.func101, Tryz.ntmps101
      go_wp2_with fail
      rw [HW.out]
      go_loopw [10] (fun i wr => ∃ j : Nat, j ≤ ts.length ∧ i = .int .i64 j ∧ Only [] W0 wr ∧ Hid (young age now ts = j + young age now (ts.drop j))) (fun i _ => ts.length - (intOf i).toNat)
      case atStart => exact ⟨0, Nat.zero_le _, rfl, Only.refl _ _, Lib.hid (by simp)⟩
      case round =>
        obtain ⟨j, hj, rfl, hO, hy⟩ := hrel
        have g1 := Within.cell (S := []) ((hO.cell (p := ⟨w.heap.size, 1, none⟩) hbl (by simp)).trans hc1) (by simp)
        have e1 := IntWalk.i64_in (-9223372036854775808 + age) ⟨by omega, by omega⟩
        have e2 := IntWalk.i64_in (now - age) ⟨by omega, by omega⟩
        have q1 : decide (now < -9223372036854775808 + age) = false := decide_eq_false (by omega)
        by_cases hlt : j < ts.length
        · obtain ⟨b, off, rfl, hb, hcell⟩ := hel j hlt
          have hyd := young_drop age now ts j hlt
          obtain ⟨t, ht⟩ : ∃ t, ts[j] = t := ⟨_, rfl⟩
          rw [ht] at hcell hyd
          have g2 := Within.cell (S := []) ((hO.cell (p := ⟨b, off + j, none⟩) (Nat.lt_of_lt_of_le hb hW0) (by simp)).trans ((HO.out.cell (p := ⟨b, off + j, none⟩) hb (by simp)).trans hcell)) (by simp)
          have q2 : decide ((j : Int) < (ts.length : Int)) = true := decide_eq_true (by omega)
          by_cases hg : t > now - age
          · have q3 : decide (t > now - age) = true := decide_eq_true hg
            rw [if_pos (by omega)] at hyd
            have HY : Hid (young age now ts = j) := by unfold Hid; rw [hy.out, hyd]; omega
            clear hyd ht hcell hy
            go_wp2_with fail
            refine wp_region_stages (C := fun W => ∃ p : Within [] wr, W = p.W) [([0, 1, 2, 3, 4, 5, 6, 7, 8, 9, 10, 11, 12, 13, 14, 15, 16, 17, 18, 19, 20, 21, 22], [])] [] (by kernel_rfl) (by kernel_rfl) (by intro c d u a w h; cases d <;> exact h) ⟨⟨_, (Only.refl _ _).drew⟩, rfl⟩ ?_
            refine stagesFirst3 ?_
            show wpQuiet _ _ _ _ [_, _, _, _, _, _, _, _, _, _, _, _, _, _, _, _, _, _, _, _, _, _, _] _
            repeat (go_big_quiet_step (fail))
            refine wpQuiet_nil ?_
            refine stagesDoneD ?_
            go_wp2
            go_ret
            exact ⟨by rw [HFl.out, HY.out]; exact ret_i (by omega), (HO.out.trans hO).drew⟩
          · have q3 : decide (t > now - age) = false := decide_eq_false hg
            rw [if_neg (by omega)] at hyd
            have HY : Hid (young age now ts = ((j + 1 : Nat) : Int) + young age now (ts.drop (j + 1))) := by unfold Hid; rw [hy.out, hyd]; omega
            clear hyd ht hcell hy
            go_wp2_with fail
            refine wp_region_stages (C := fun W => ∃ p : Within [] wr, W = p.W) [([0, 1, 2, 3, 4, 5, 6, 7, 8, 9, 10, 11, 12, 13, 14, 15, 16, 17, 18, 19, 20, 21, 22], [])] [] (by kernel_rfl) (by kernel_rfl) (by intro c d u a w h; cases d <;> exact h) ⟨⟨_, (Only.refl _ _).drew⟩, rfl⟩ ?_
            refine stagesFirst3 ?_
            show wpQuiet _ _ _ _ [_, _, _, _, _, _, _, _, _, _, _, _, _, _, _, _, _, _, _, _, _, _, _] _
            repeat (go_big_quiet_step (fail))
            refine wpQuiet_nil ?_
            refine stagesDoneD ?_
            go_wp2
            go_round
            case rel => exact ⟨j + 1, hlt, by simp, hO.drew, HY⟩
            case measure => simp [intOf]; omega
        · have hje : j = ts.length := by omega
          have q2 : decide ((j : Int) < (ts.length : Int)) = false := decide_eq_false (by omega)
          have HY : Hid (young age now ts = j) := by unfold Hid; rw [hy.out, hje, List.drop_length]; simp [young]
          clear hy hje
          go_wp2_with fail
          refine wp_region_stages (C := fun W => ∃ p : Within [] wr, W = p.W) [([0, 1, 2, 3, 4, 5, 6, 7, 8, 9, 10, 11, 12, 13, 14, 15, 16, 17, 18, 19, 20, 21, 22], [])] [] (by kernel_rfl) (by kernel_rfl) (by intro c d u a w h; cases d <;> exact h) ⟨⟨_, (Only.refl _ _).drew⟩, rfl⟩ ?_
          refine stagesFirst3 ?_
          show wpQuiet _ _ _ _ [_, _, _, _, _, _, _, _, _, _, _, _, _, _, _, _, _, _, _, _, _, _, _] _
          repeat (go_big_quiet_step (fail))
          refine wpQuiet_nil ?_
          refine stagesDoneD ?_
          go_wp2
          go_ret
          exact ⟨by rw [HFl.out, HY.out]; exact ret_i (by omega), (HO.out.trans hO).drew⟩
    · have q8 : decide (0 < age) = false := decide_eq_false q7
      have HFl : Hid (floorE ⟨mc, age, bf⟩ f now ts = min (max (max (max f 0) bf) ((ts.length : Int) - mc)) ts.length) := by unfold Hid floorE; dsimp only; rw [if_pos q5, if_neg q7]
      clear hel
      go_enter Tryz.func101, Tryz.ntmps101
      go_wp2
      go_ret
      exact ⟨by rw [HFl.out]; exact ret_i (by omega), (Only.refl _ _).alloc _⟩
  · have q6 : decide (0 < mc) = false := decide_eq_false q5
    by_cases q7 : 0 < age
    · have q8 : decide (0 < age) = true := decide_eq_true q7
      have HFl : Hid (floorE ⟨mc, age, bf⟩ f now ts = min (max (max (max f 0) bf) (young age now ts)) ts.length) := by unfold Hid floorE; dsimp only; rw [if_neg q5, if_pos q7]
      go_enter Tryz.func101, Tryz.ntmps101
      go_wp2_with fail
      rw [HW.out]
      go_loopw [10] (fun i wr => ∃ j : Nat, j ≤ ts.length ∧ i = .int .i64 j ∧ Only [] W0 wr ∧ Hid (young age now ts = j + young age now (ts.drop j))) (fun i _ => ts.length - (intOf i).toNat)
      case atStart => exact ⟨0, Nat.zero_le _, rfl, Only.refl _ _, Lib.hid (by simp)⟩
      case round =>
        obtain ⟨j, hj, rfl, hO, hy⟩ := hrel
        have g1 := Within.cell (S := []) ((hO.cell (p := ⟨w.heap.size, 1, none⟩) hbl (by simp)).trans hc1) (by simp)
        have e1 := IntWalk.i64_in (-9223372036854775808 + age) ⟨by omega, by omega⟩
        have e2 := IntWalk.i64_in (now - age) ⟨by omega, by omega⟩
        have q1 : decide (now < -9223372036854775808 + age) = false := decide_eq_false (by omega)
        by_cases hlt : j < ts.length
        · obtain ⟨b, off, rfl, hb, hcell⟩ := hel j hlt
          have hyd := young_drop age now ts j hlt
          obtain ⟨t, ht⟩ : ∃ t, ts[j] = t := ⟨_, rfl⟩
          rw [ht] at hcell hyd
          have g2 := Within.cell (S := []) ((hO.cell (p := ⟨b, off + j, none⟩) (Nat.lt_of_lt_of_le hb hW0) (by simp)).trans ((HO.out.cell (p := ⟨b, off + j, none⟩) hb (by simp)).trans hcell)) (by simp)
          have q2 : decide ((j : Int) < (ts.length : Int)) = true := decide_eq_true (by omega)
          by_cases hg : t > now - age
          · have q3 : decide (t > now - age) = true := decide_eq_true hg
            rw [if_pos (by omega)] at hyd
            have HY : Hid (young age now ts = j) := by unfold Hid; rw [hy.out, hyd]; omega
            clear hyd ht hcell hy
            go_wp2_with fail
            refine wp_region_stages (C := fun W => ∃ p : Within [] wr, W = p.W) [([0, 1, 2, 3, 4, 5, 6, 7, 8, 9, 10, 11, 12, 13, 14, 15, 16, 17, 18, 19, 20, 21, 22], [])] [] (by kernel_rfl) (by kernel_rfl) (by intro c d u a w h; cases d <;> exact h) ⟨⟨_, (Only.refl _ _).drew⟩, rfl⟩ ?_
            refine stagesFirst3 ?_
            show wpQuiet _ _ _ _ [_, _, _, _, _, _, _, _, _, _, _, _, _, _, _, _, _, _, _, _, _, _, _] _
            repeat (go_big_quiet_step (fail))
            refine wpQuiet_nil ?_
            refine stagesDoneD ?_
            go_wp2
            go_ret
            exact ⟨by rw [HFl.out, HY.out]; exact ret_i (by omega), (HO.out.trans hO).drew⟩
          · have q3 : decide (t > now - age) = false := decide_eq_false hg
            rw [if_neg (by omega)] at hyd
            have HY : Hid (young age now ts = ((j + 1 : Nat) : Int) + young age now (ts.drop (j + 1))) := by unfold Hid; rw [hy.out, hyd]; omega
            clear hyd ht hcell hy
            go_wp2_with fail
            refine wp_region_stages (C := fun W => ∃ p : Within [] wr, W = p.W) [([0, 1, 2, 3, 4, 5, 6, 7, 8, 9, 10, 11, 12, 13, 14, 15, 16, 17, 18, 19, 20, 21, 22], [])] [] (by kernel_rfl) (by kernel_rfl) (by intro c d u a w h; cases d <;> exact h) ⟨⟨_, (Only.refl _ _).drew⟩, rfl⟩ ?_
            refine stagesFirst3 ?_
            show wpQuiet _ _ _ _ [_, _, _, _, _, _, _, _, _, _, _, _, _, _, _, _, _, _, _, _, _, _, _] _
            repeat (go_big_quiet_step (fail))
            refine wpQuiet_nil ?_
            refine stagesDoneD ?_
            go_wp2
            go_round
            case rel => exact ⟨j + 1, hlt, by simp, hO.drew, HY⟩
            case measure => simp [intOf]; omega
        · have hje : j = ts.length := by omega
          have q2 : decide ((j : Int) < (ts.length : Int)) = false := decide_eq_false (by omega)
          have HY : Hid (young age now ts = j) := by unfold Hid; rw [hy.out, hje, List.drop_length]; simp [young]
          clear hy hje
          go_wp2_with fail
          refine wp_region_stages (C := fun W => ∃ p : Within [] wr, W = p.W) [([0, 1, 2, 3, 4, 5, 6, 7, 8, 9, 10, 11, 12, 13, 14, 15, 16, 17, 18, 19, 20, 21, 22], [])] [] (by kernel_rfl) (by kernel_rfl) (by intro c d u a w h; cases d <;> exact h) ⟨⟨_, (Only.refl _ _).drew⟩, rfl⟩ ?_
          refine stagesFirst3 ?_
          show wpQuiet _ _ _ _ [_, _, _, _, _, _, _, _, _, _, _, _, _, _, _, _, _, _, _, _, _, _, _] _
          repeat (go_big_quiet_step (fail))
          refine wpQuiet_nil ?_
          refine stagesDoneD ?_
          go_wp2
          go_ret
          exact ⟨by rw [HFl.out, HY.out]; exact ret_i (by omega), (HO.out.trans hO).drew⟩
    · have q8 : decide (0 < age) = false := decide_eq_false q7
      have HFl : Hid (floorE ⟨mc, age, bf⟩ f now ts = min (max (max f 0) bf) ts.length) := by unfold Hid floorE; dsimp only; rw [if_neg q5, if_neg q7]
      clear hel
      go_enter Tryz.func101, Tryz.ntmps101
      go_wp2
      go_ret
      exact ⟨by rw [HFl.out]; exact ret_i (by omega), (Only.refl _ _).alloc _⟩
end Go.Proofs.YteinoiicnmemhaaGreatDoor
/- Contracts of the document's state: Floor, put, keep. -/
set_option linter.unusedVariables false
set_option linter.unusedSimpArgs false
namespace Go.Proofs.YteinoiicnmemhaaGreatDoor
open Go Go.RowKit Go.Sort
theorem appI {W : World} {base : Nat} {v : Value} {l : List Int} (hown : W.ownsRow base 3 1 v l.length (ints l)) (hb : base ≤ W.heap.size) (hl : l.length ≤ 1000000) (x : Int) :
    ∃ A cap w', (Builtin.append_ #[48, 48] 48 #[v, .slice (some ⟨W.heap.size, 0, none⟩) 1 1]).run Tryz.prog (W.alloc (.cells #[.int .i64 x] 3)) = .ok (.slice A (l.length + 1) cap) w' ∧ w'.ownsRow base 3 1 (.slice A (l.length + 1) cap) (l ++ [x]).length (ints (l ++ [x])) ∧ Only v.ownBlock.toList (W.alloc (.cells #[.int .i64 x] 3)) w' := by
  obtain ⟨A, cap, w', h1, h2, h3, _⟩ := run_app (P := Tryz.prog) (w := W.alloc (.cells #[.int .i64 x] 3)) 48 48 base 3 (.int .i64 0) 1 8 Tryz.underlying48 infoI rfl (by decide) (hown.alloc _) (slc_new1 (w := W) (e := 3) (size := 1) (cs := ints [x]) rfl) (by intro u hu; simp [ints] at hu; subst hu; rfl) (by omega) (by unfold maxLen; omega) (Nat.le_trans hb (by simp))
  refine ⟨A, cap, w', h1, ?_, h3⟩
  rw [List.length_append]
  simpa [ints] using h2
section
variable {a w : World} {H : List Nat} {rb : Nat} {r : RS}
set_option maxRecDepth 100000 in
set_option maxHeartbeats 2000000 in
theorem dfloor_any (h : HasD a w H rb r) (n : ByteArray) (hl : r.l.length ≤ 1000000) (hm : (r.get n).mt.ok = true) (hk : 0 ≤ (r.get n).kept ∧ (r.get n).kept ≤ 1000000000) (hn : 0 ≤ r.now ∧ r.now ≤ 1099511627776) :
    Calls Tryz.prog 69 #[.pointer (some ⟨rb, 0, none⟩), .string n] w fun e w' => e = .returned (.int .i64 (r.floor n)) ∧ Only [] w w' := by
  have HOf := Lib.hid (dof_any h hl n)
  have HGt := Lib.hid fun (W : World) (k : Only [] w W) => dget_any (h.keep0 k) n
  have hofl : (r.of n).length ≤ 1000000 := Nat.le_trans (List.length_filter_le _ _) hl
  obtain ⟨⟨vl, vs, hA, rfl⟩, -, -⟩ := h
  have f2 : w.cell? ⟨rb, 2, none⟩ = some (.int .i64 r.now) := hA.blk.cell 2
  have hrb := hA.blk.lt
  obtain ⟨L, hL⟩ : ∃ L, r.of n = L := ⟨_, rfl⟩
  obtain ⟨x, hx⟩ : ∃ x, r.get n = x := ⟨_, rfl⟩
  have hfl : r.floor n = floorE x.mt x.kept r.now (L.map (·.time)) := by unfold RS.floor; rw [hL, hx]
  rw [hfl]
  rw [hL] at HOf hofl
  rw [hx] at HGt hm hk
  unfold DStr.val at HGt
  have HFp := Lib.hid fun (W : World) (v : Value) (hv : Slc W 1 v (L.map (·.time)).length (ints (L.map (·.time)))) => dfloorP_any (w := W) x.mt x.kept r.now hm (by omega) hn hv (by rw [List.length_map]; exact hofl)
  obtain ⟨nw, hnw⟩ : ∃ nw, r.now = nw := ⟨_, rfl⟩
  rw [hnw] at HFp f2 ⊢
  have htl : (L.map (·.time)).length = L.length := List.length_map ..
  clear hA hL hx hfl hm hk hn hl hnw
  go_enter Tryz.func69, Tryz.ntmps69
  go_wp2_with fail
  refine HOf.out.mono ?_
  rintro e1 w1 ⟨v1, rfl, hown1, k1⟩
  obtain ⟨A1, c1, rfl, -, -, hel⟩ := (Slc.of_own hown1).1.openE StoredR.cells (fun _ => rfl)
  clear hown1
  go_wp2_with fail
  go_loopw [6, 7] (fun o i wr => ∃ (k : Nat) (A : Option Addr) (cap : Nat), k ≤ L.length ∧ i = .int .i64 k ∧ o = .slice A k cap ∧ wr.ownsRow w1.heap.size 3 1 (.slice A k cap) k (ints ((L.map (·.time)).take k)) ∧ Only [] w1 wr) (fun _ i _ => L.length - (intOf i).toNat)
  case atStart => exact ⟨0, none, 0, Nat.zero_le _, rfl, rfl, by rw [List.take_zero]; exact World.ownsRow_nil _ _ _ _, Only.refl _ _⟩
  case round =>
    obtain ⟨k, A, cap, hk, rfl, rfl, hown, hO⟩ := hrel
    by_cases hlt : k < L.length
    · obtain ⟨b, off, rfl, hbb, hcc⟩ := hel k hlt
      have htk : (L.map (·.time)).take (k + 1) = (L.map (·.time)).take k ++ [L[k].time] := by rw [List.take_succ_eq_append_getElem (by simpa using hlt), List.getElem_map]
      obtain ⟨t, ht⟩ : ∃ t, L[k].time = t := ⟨_, rfl⟩
      have hc7 : w1.cell? ⟨b, off + k * 8 + 7, none⟩ = some (.int .i64 t) := by rw [← ht]; exact hcc 7 (by omega)
      have c7 : wr.cell? ⟨b, off + k * 8 + 7, none⟩ = some (.int .i64 t) := (hO.cell (p := ⟨b, off + k * 8 + 7, none⟩) hbb (by simp)).trans hc7
      rw [ht] at htk
      have hkl : ((L.map (·.time)).take k).length = k := by rw [List.length_take, List.length_map]; omega
      obtain ⟨A4, c4', w4, hr4, hown4, hO4⟩ := appI (W := wr) (base := w1.heap.size) (v := .slice A k cap) (l := (L.map (·.time)).take k) (by rw [hkl]; exact hown) hO.size (by rw [hkl]; omega) t
      have hkl2 : ((L.map (·.time)).take k ++ [t]).length = k + 1 := by rw [List.length_append, hkl]; rfl
      rw [hkl] at hr4
      rw [hkl, hkl2, ← htk] at hown4
      have HR4 := Lib.hid hr4
      have HW4 := Lib.hid hown4
      have hb3 := fun g hg => (World.ownsRow.lt hown g hg).1
      have hO5 : Only [] w1 w4 := (hO.alloc _).step hO4 (fun g hg => .inr (by have := hb3 g (by simpa using hg); omega))
      have HO5 := Lib.hid hO5
      clear hcc hr4 hown4 htk ht hc7 hkl hkl2 hO4 hO5 hb3
      go_wp2_with (at_builtin; refine Lib.wpList_append_run _ rfl (.tmp 18) (.tmp 24) 48 48 rfl _ _ rfl rfl _ _ HR4.out ?_)
      go_round
      case rel => exact ⟨k + 1, A4, c4', hlt, by simp, rfl, HW4.out, HO5.out⟩
      case measure => simp [intOf]; omega
    · have hkl : k = L.length := by omega
      subst hkl
      rw [← htl, List.take_length] at hown
      have hts := (Slc.of_own hown).1
      rw [htl] at hts
      have HTs := Lib.hid hts
      have hwr : Only [] w wr := k1.trans hO
      clear hown hel hts
      go_wp2_with fail
      refine (HGt.out _ hwr).mono ?_
      rintro e2 w2 ⟨rfl, k2⟩
      have hw2 : Only [] w w2 := hwr.trans k2
      obtain ⟨W3, hW3⟩ : ∃ W3, w2.alloc (.cells #[.string x.name, .int .i64 x.mt.maxCount, .int .i64 x.mt.maxAge, .int .i64 x.mt.before, .int .i64 x.kept, .bool x.deleted] 82) = W3 := ⟨_, rfl⟩
      have hB3 : Blk W3 w2.heap.size 82 #[.string x.name, .int .i64 x.mt.maxCount, .int .i64 x.mt.maxAge, .int .i64 x.mt.before, .int .i64 x.kept, .bool x.deleted] := by rw [← hW3]; exact Blk.new _ _ _
      have hw3 : Only [] w W3 := by rw [← hW3]; exact hw2.alloc _
      have hwr3 : Only [] wr W3 := by rw [← hW3]; exact k2.alloc _
      have d1 := Within.cell (S := []) (show W3.cell? ⟨w2.heap.size, 1, none⟩ = some (.int .i64 x.mt.maxCount) from hB3.cell 1) (by simp)
      have d2 := Within.cell (S := []) (show W3.cell? ⟨w2.heap.size, 2, none⟩ = some (.int .i64 x.mt.maxAge) from hB3.cell 2) (by simp)
      have d3 := Within.cell (S := []) (show W3.cell? ⟨w2.heap.size, 3, none⟩ = some (.int .i64 x.mt.before) from hB3.cell 3) (by simp)
      have d4 := Within.cell (S := []) (show W3.cell? ⟨w2.heap.size, 4, none⟩ = some (.int .i64 x.kept) from hB3.cell 4) (by simp)
      have d6 := Within.cell (S := []) ((hw3.cell (p := ⟨rb, 2, none⟩) hrb (by simp)).trans f2) (by simp)
      go_wp2_with fail
      refine wp_region_in [] [0, 1, 2, 3, 4, 5, 6, 7, 8] [9] [10] (by kernel_rfl) (by kernel_rfl) (by intro c d u a w h; cases d <;> exact h) ?_
      show wpQuiet _ _ _ _ [_, _, _, _, _, _, _, _, _] _
      repeat (go_big_quiet_step (fail))
      refine wpQuiet_nil ?_
      show wpList _ _ _ [_] _ _
      have kd : Only [] W3 W3.drew := (Only.refl _ _).drew
      go_wp2_with (go_at_call 101; refine (HFp.out _ _ (by rw [htl]; exact HTs.out.only0 (hwr3.trans kd))).mono ?_; rintro e3 w4 ⟨rfl, k4⟩)
      refine check_of (S := []) (kd.trans k4) ?_
      show wpList _ _ _ [_] _ _
      go_wp2
      go_ret
      exact ⟨rfl, hw3.trans (kd.trans k4)⟩
end
end Go.Proofs.YteinoiicnmemhaaGreatDoor
/- Contract of the document's Seen. -/
set_option linter.unusedVariables false
set_option linter.unusedSimpArgs false
namespace Go.Proofs.YteinoiicnmemhaaGreatDoor
open Go Go.RowKit Go.Sort
/-- What the contracts ask of the document's state. -/
structure RS.Fine (r : RS) : Prop where
  few : r.l.length ≤ 1000000
  mt : ∀ n, (r.get n).mt.ok = true
  kept : ∀ n, 0 ≤ (r.get n).kept ∧ (r.get n).kept ≤ 1000000000
  now : 0 ≤ r.now ∧ r.now ≤ 1099511627776
theorem fldD3 (W : World) (a b c d e f : Value) : Sem.run Tryz.prog (Instr.field 82 (.agg #[a, b, c, d, e, f]) 3) W = .ok f W := by kernel_rfl
section
variable {a w : World} {H : List Nat} {rb : Nat} {r : RS}
end
end Go.Proofs.YteinoiicnmemhaaGreatDoor
/- Contract of the document's page, forward. -/
set_option linter.unusedVariables false
set_option linter.unusedSimpArgs false
namespace Go.Proofs.YteinoiicnmemhaaGreatDoor
open Go Go.RowKit Go.Sort
end Go.Proofs.YteinoiicnmemhaaGreatDoor
/- Contract of the document's page, backward. -/
set_option linter.unusedVariables false
set_option linter.unusedSimpArgs false
namespace Go.Proofs.YteinoiicnmemhaaGreatDoor
open Go Go.RowKit Go.Sort
end Go.Proofs.YteinoiicnmemhaaGreatDoor
/- Contracts of the document's Page and All. -/
set_option linter.unusedVariables false
set_option linter.unusedSimpArgs false
namespace Go.Proofs.YteinoiicnmemhaaGreatDoor
open Go Go.RowKit Go.Sort
end Go.Proofs.YteinoiicnmemhaaGreatDoor
/- Contract of the document's All. -/
set_option linter.unusedVariables false
set_option linter.unusedSimpArgs false
namespace Go.Proofs.YteinoiicnmemhaaGreatDoor
open Go Go.RowKit Go.Sort
section
variable {a w : World} {H : List Nat} {rb : Nat} {r : RS}
end
end Go.Proofs.YteinoiicnmemhaaGreatDoor
/- Contracts of the document's state: put, keep. -/
set_option linter.unusedVariables false
set_option linter.unusedSimpArgs false
namespace Go.Proofs.YteinoiicnmemhaaGreatDoor
open Go Go.RowKit Go.Sort
theorem putD_new : ∀ (l : List DStr) (x : DStr), (∀ k (hl : k < l.length), ¬ l[k].name = x.name) → putD l x = l ++ [x]
  | [], x, _ => rfl
  | y :: l, x, h => by
    unfold putD
    rw [if_neg (show ¬ y.name = x.name from h 0 (by simp)), putD_new l x (fun k hl => h (k + 1) (by simpa using hl))]
    rfl
theorem putD_old : ∀ (l : List DStr) (x : DStr) (j : Nat) (hj : j < l.length), (∀ k (hk : k < j) (hl : k < l.length), ¬ l[k].name = x.name) → l[j].name = x.name → putD l x = l.set j x
  | [], x, j, hj, _, _ => by simp at hj
  | y :: l, x, 0, _, _, he => by
    unfold putD
    rw [if_pos (by simpa using he)]
    rfl
  | y :: l, x, j + 1, hj, h, he => by
    unfold putD
    rw [if_neg (show ¬ y.name = x.name from h 0 (by omega) (by simp)), putD_old l x j (by simpa using hj) (fun k hk hl => h (k + 1) (by omega) (by simpa using hl)) (by simpa using he)]
    rfl
theorem dflat_set : ∀ (l : List DStr) (j : Nat) (x : DStr), j < l.length → ((((((dcells l).set (j * 6) (.string x.name)).set (j * 6 + 1) (.int .i64 x.mt.maxCount)).set (j * 6 + 2) (.int .i64 x.mt.maxAge)).set (j * 6 + 3) (.int .i64 x.mt.before)).set (j * 6 + 4) (.int .i64 x.kept)).set (j * 6 + 5) (.bool x.deleted) = dcells (l.set j x)
  | [], j, x, h => by simp at h
  | y :: l, 0, x, h => by simp [dcells, DStr.cells]
  | y :: l, j + 1, x, h => by
    have ih := dflat_set l j x (by simpa using h)
    have e : dcells (y :: l) = DStr.cells y ++ dcells l := by simp [dcells]
    have e2 : dcells ((y :: l).set (j + 1) x) = DStr.cells y ++ dcells (l.set j x) := by simp [dcells]
    rw [e2, ← ih, e]
    have hs : ∀ (k : Nat) (L : List Value) (v : Value), (DStr.cells y ++ L).set (k + 6) v = DStr.cells y ++ L.set k v := fun k L v => by
      rw [List.set_append_right _ _ (by simp [DStr.cells])]
      simp [DStr.cells]
    rw [show (j + 1) * 6 = j * 6 + 6 by omega, show j * 6 + 6 + 1 = j * 6 + 1 + 6 by omega, show j * 6 + 6 + 2 = j * 6 + 2 + 6 by omega, show j * 6 + 6 + 3 = j * 6 + 3 + 6 by omega, show j * 6 + 6 + 4 = j * 6 + 4 + 6 by omega, show j * 6 + 6 + 5 = j * 6 + 5 + 6 by omega]
    rw [hs, hs, hs, hs, hs, hs]
theorem appD {W : World} {base : Nat} {v u : Value} {l m : List DStr} (hown : W.ownsRow base 82 6 v l.length (dcells l)) (hu : Slc W 6 u m.length (dcells m)) (hb : base ≤ W.heap.size) (hl : l.length + m.length ≤ 1000000) :
    ∃ A cap w', (Builtin.append_ #[29, 29] 29 #[v, u]).run Tryz.prog W = .ok (.slice A (l.length + m.length) cap) w' ∧ w'.ownsRow base 82 6 (.slice A (l.length + m.length) cap) (l ++ m).length (dcells (l ++ m)) ∧ Only v.ownBlock.toList W w' := by
  obtain ⟨A, cap, w', h1, h2, h3, _⟩ := run_app (P := Tryz.prog) (w := W) 29 29 base 82 _ 6 56 Tryz.underlying29 infoDs rfl (by decide) hown hu (dcells_one m) (by omega) (by unfold maxLen; omega) hb
  refine ⟨A, cap, w', h1, ?_, h3⟩
  have e : dcells (l ++ m) = dcells l ++ dcells m := by simp [dcells]
  rw [List.length_append, e]
  exact h2
section
variable {a w : World} {H : List Nat} {rb : Nat} {r : RS}
theorem DTo.setS {vl vs v' : Value} {w5 : World} {base : Nat} {s' : List DStr} (h : HasD a w (hD rb vl vs) rb r) (hA : DocAt w rb vl vs r) (k : Only [] w w5) (hown : w5.ownsRow base 82 6 v' s'.length (dcells s')) (hb : w.heap.size ≤ base) :
    DTo a w (hD rb vl vs) rb { r with s := s' } (w5.setCell ⟨rb, 1, none⟩ v') := by
  have hne := hA.ne
  have hrb := hA.blk.lt
  have ks : Only [rb] w5 (w5.setCell ⟨rb, 1, none⟩ v') := (Only.refl _ _).setCell (.inl (by simp)) _
  refine hasD_of h ⟨(k.blk hA.blk (by simp)).set 1 v', ?_, ?_⟩ ?_
  · exact own_only (own_only hA.l k (by simp)) ks (fun g hg hm => hne.1 g hg (List.mem_singleton.1 hm))
  · exact own_only (own_base hown (Nat.zero_le _)) ks (fun g hg hm => by
      have := (hown.lt g hg).1
      rw [List.mem_singleton.1 hm] at this
      omega)
  · refine Stepped.of (S := [rb]) (k.of_nil.trans ks) (fun b hb => by rw [List.mem_singleton.1 hb]; simp [hD]) (fun b hb2 => ?_)
    simp only [hD, List.mem_cons, List.mem_append, Option.mem_toList] at hb2 ⊢
    rcases hb2 with e | e | e
    · exact .inl (.inl e)
    · exact .inl (.inr (.inl e))
    · have := (hown.lt b e).1
      exact .inr (by omega)
set_option maxRecDepth 100000 in
set_option maxHeartbeats 2000000 in
theorem dput_any (h : HasD a w H rb r) (x : DStr) (hs : r.s.length + 1 ≤ 1000000) :
    Calls Tryz.prog 29 #[.pointer (some ⟨rb, 0, none⟩), .agg #[.string x.name, .int .i64 x.mt.maxCount, .int .i64 x.mt.maxAge, .int .i64 x.mt.before, .int .i64 x.kept, .bool x.deleted]] w fun e w' => e = .returned (.tuple #[]) ∧ DTo a w H rb (r.put x) w' := by
  have hH := h
  have HIx := Lib.hid fun (W : World) (k : Only [] w W) => dstream_any (h.keep0 k) x.name
  obtain ⟨⟨vl, vs, hA, rfl⟩, -, -⟩ := h
  obtain ⟨Al, cl, As, cs, rfl, rfl, -, -, hm1, hm2, -, hS⟩ := hA.open
  unfold maxLen at hm2
  have f1 : w.cell? ⟨rb, 1, none⟩ = some (.slice As r.s.length cs) := hA.blk.cell 1
  have hrb := hA.blk.lt
  have hvs := (Slc.of_own hA.s).1
  have HAt := Lib.hid hA
  have HHH := Lib.hid hH
  obtain ⟨W1, hW1⟩ : ∃ W1, w.alloc (.cells #[.string x.name, .int .i64 x.mt.maxCount, .int .i64 x.mt.maxAge, .int .i64 x.mt.before, .int .i64 x.kept, .bool x.deleted] 82) = W1 := ⟨_, rfl⟩
  have hB1 : Blk W1 w.heap.size 82 #[.string x.name, .int .i64 x.mt.maxCount, .int .i64 x.mt.maxAge, .int .i64 x.mt.before, .int .i64 x.kept, .bool x.deleted] := by rw [← hW1]; exact Blk.new _ _ _
  have hO1 : Only [] w W1 := by rw [← hW1]; exact (Only.refl _ _).alloc _
  have b0 : W1.cell? ⟨w.heap.size, 0, none⟩ = some (.string x.name) := hB1.cell 0
  clear hS hA hH
  by_cases hin : ∃ j, ∃ hj : j < r.s.length, (∀ k (hk : k < j) (hl : k < r.s.length), ¬ r.s[k].name = x.name) ∧ r.s[j].name = x.name
  · obtain ⟨j, hj, hb, he⟩ := hin
    have h1 := (dIx_hit hj hb he).1
    have hput : r.put x = { r with s := r.s.set j x } := by unfold RS.put; rw [putD_old _ _ j hj hb he]
    rw [hput]
    rw [h1] at HIx
    clear hb he h1 hput
    go_enter Tryz.func29, Tryz.ntmps29
    go_wp2_with fail
    refine (HIx.out _ hO1).mono ?_
    rintro e2 w2 ⟨rfl, k2⟩
    have hO2 : Only [] w w2 := hO1.trans k2
    have hB2 := k2.blk hB1 (by simp)
    have g1 := (hO2.cell (p := ⟨rb, 1, none⟩) hrb (by simp)).trans f1
    obtain ⟨A3, c3, w3, hr3, hown3, hO3⟩ := appD (W := w2) (base := w2.heap.size) (v := .slice none 0 0) (l := []) (m := r.s) (World.ownsRow_nil _ _ _ _) (hvs.only0 hO2) (Nat.le_refl _) (by show 0 + r.s.length ≤ _; omega)
    rw [show ([] : List DStr).length + r.s.length = r.s.length from Nat.zero_add _] at hr3 hown3
    rw [show ([] : List DStr) ++ r.s = r.s from rfl] at hown3
    have hO3' : Only [] w2 w3 := hO3
    have hB3 := hO3'.blk hB2 (by simp)
    have HR3 := Lib.hid hr3
    have hO03 : Only [] w w3 := hO2.trans hO3'
    clear hr3 hO3
    obtain ⟨g3, cp3, cur3, hv3, hg3, hB3'⟩ := own_some hown3 (by omega)
    injection hv3 with z1 z2 z3
    subst z1
    obtain ⟨A9, c9, hv9, -, -, hel9⟩ := (Slc.of_own hown3).1.openE DStr.cells (fun _ => rfl)
    injection hv9 with z4 z5 z6
    obtain ⟨b9, o9, e9, hb9, hcc9⟩ := hel9 j hj
    rw [← z4] at e9
    injection e9 with e9
    injection e9 with e10 e11
    subst e10 e11
    simp only [Nat.zero_add] at hcc9
    obtain ⟨y, hy⟩ : ∃ y, r.s[j] = y := ⟨_, rfl⟩
    rw [hy] at hcc9
    have y0 : w3.cell? ⟨g3, j * 6, none⟩ = some (.string y.name) := hcc9 0 (by omega)
    have y1 : w3.cell? ⟨g3, j * 6 + 1, none⟩ = some (.int .i64 y.mt.maxCount) := hcc9 1 (by omega)
    have y2 : w3.cell? ⟨g3, j * 6 + 2, none⟩ = some (.int .i64 y.mt.maxAge) := hcc9 2 (by omega)
    have y3 : w3.cell? ⟨g3, j * 6 + 3, none⟩ = some (.int .i64 y.mt.before) := hcc9 3 (by omega)
    have y4 : w3.cell? ⟨g3, j * 6 + 4, none⟩ = some (.int .i64 y.kept) := hcc9 4 (by omega)
    have y5 : w3.cell? ⟨g3, j * 6 + 5, none⟩ = some (.bool y.deleted) := hcc9 5 (by omega)
    have c0 : w3.cell? ⟨w.heap.size, 0, none⟩ = some (.string x.name) := hB3.cell 0
    have c1 : w3.cell? ⟨w.heap.size, 1, none⟩ = some (.int .i64 x.mt.maxCount) := hB3.cell 1
    have c2 : w3.cell? ⟨w.heap.size, 2, none⟩ = some (.int .i64 x.mt.maxAge) := hB3.cell 2
    have c3' : w3.cell? ⟨w.heap.size, 3, none⟩ = some (.int .i64 x.mt.before) := hB3.cell 3
    have c4 : w3.cell? ⟨w.heap.size, 4, none⟩ = some (.int .i64 x.kept) := hB3.cell 4
    have c5 : w3.cell? ⟨w.heap.size, 5, none⟩ = some (.bool x.deleted) := hB3.cell 5
    have hjl : (j : Int) < (r.s.length : Int) := by omega
    have HOw := Lib.hid hown3
    have fr : ∀ i, w3.frozen? ⟨g3, i, none⟩ = false := fun i => hB3'.free i
    have fb : w3.frozen? ⟨rb, 1, none⟩ = false := (hO03.blk HAt.out.blk (by simp)).free 1
    have gb := (hO03.cell (p := ⟨rb, 1, none⟩) hrb (by simp)).trans f1
    have hgr : g3 ≠ rb := by have := hO2.size; omega
    have hgr2 : rb ≠ g3 := fun e => hgr e.symm
    have hj0 : decide ((j : Int) < 0) = false := decide_eq_false (by omega)
    subst z4
    clear hel9 hcc9 z2 z3 z5 z6 hown3 hy
    go_wp2_with (at_builtin; refine Lib.wpList_append_run _ rfl (.const (.slice none 0 0)) (.tmp 13) 29 29 rfl _ _ rfl rfl _ _ HR3.out ?_)
    go_end0
    have hown5 := ((((((HOw.out.stored (j * 6) (.string x.name)).1.stored (j * 6 + 1) (.int .i64 x.mt.maxCount)).1.stored (j * 6 + 2) (.int .i64 x.mt.maxAge)).1.stored (j * 6 + 3) (.int .i64 x.mt.before)).1.stored (j * 6 + 4) (.int .i64 x.kept)).1.stored (j * 6 + 5) (.bool x.deleted)).1
    rw [dflat_set r.s j x hj] at hown5
    have K5 : Only [] w ((((((w3.setCell ⟨g3, j * 6, none⟩ (.string x.name)).setCell ⟨g3, j * 6 + 1, none⟩ (.int .i64 x.mt.maxCount)).setCell ⟨g3, j * 6 + 2, none⟩ (.int .i64 x.mt.maxAge)).setCell ⟨g3, j * 6 + 3, none⟩ (.int .i64 x.mt.before)).setCell ⟨g3, j * 6 + 4, none⟩ (.int .i64 x.kept)).setCell ⟨g3, j * 6 + 5, none⟩ (.bool x.deleted)) := by
      have hg3' : w.heap.size ≤ g3 := Nat.le_trans hO2.size hg3
      iterate 6 (refine Only.setCell ?_ (.inr hg3') _)
      exact hO03
    have hl : (r.s.set j x).length = r.s.length := List.length_set
    rw [← hl] at hown5
    have hres := DTo.setS (s' := r.s.set j x) HHH.out HAt.out K5 hown5 hO2.size
    rw [hl] at hres
    exact ⟨rfl, hres⟩
  · have hall : ∀ k (hl : k < r.s.length), ¬ r.s[k].name = x.name := by
      intro k
      induction k using Nat.strongRecOn with
      | _ k ih => exact fun hl q => hin ⟨k, hl, fun i hi hil => ih i hi hil, q⟩
    have h1 := (dIx_end hall).1
    have hput : r.put x = { r with s := r.s ++ [x] } := by unfold RS.put; rw [putD_new _ _ hall]
    rw [hput]
    rw [h1] at HIx
    clear hall hin h1 hput
    go_enter Tryz.func29, Tryz.ntmps29
    go_wp2_with fail
    refine (HIx.out _ hO1).mono ?_
    rintro e2 w2 ⟨rfl, k2⟩
    have hO2 : Only [] w w2 := hO1.trans k2
    have hB2 := k2.blk hB1 (by simp)
    have g1 := (hO2.cell (p := ⟨rb, 1, none⟩) hrb (by simp)).trans f1
    obtain ⟨A3, c3, w3, hr3, hown3, hO3⟩ := appD (W := w2) (base := w2.heap.size) (v := .slice none 0 0) (l := []) (m := r.s) (World.ownsRow_nil _ _ _ _) (hvs.only0 hO2) (Nat.le_refl _) (by show 0 + r.s.length ≤ _; omega)
    rw [show ([] : List DStr).length + r.s.length = r.s.length from Nat.zero_add _] at hr3 hown3
    rw [show ([] : List DStr) ++ r.s = r.s from rfl] at hown3
    have hO3' : Only [] w2 w3 := hO3
    have hB3 := hO3'.blk hB2 (by simp)
    have HR3 := Lib.hid hr3
    have hO03 : Only [] w w3 := hO2.trans hO3'
    clear hr3 hO3
    have c0 : w3.cell? ⟨w.heap.size, 0, none⟩ = some (.string x.name) := hB3.cell 0
    have c1 : w3.cell? ⟨w.heap.size, 1, none⟩ = some (.int .i64 x.mt.maxCount) := hB3.cell 1
    have c2 : w3.cell? ⟨w.heap.size, 2, none⟩ = some (.int .i64 x.mt.maxAge) := hB3.cell 2
    have c3 : w3.cell? ⟨w.heap.size, 3, none⟩ = some (.int .i64 x.mt.before) := hB3.cell 3
    have c4 : w3.cell? ⟨w.heap.size, 4, none⟩ = some (.int .i64 x.kept) := hB3.cell 4
    have c5 : w3.cell? ⟨w.heap.size, 5, none⟩ = some (.bool x.deleted) := hB3.cell 5
    have k4 : Only [] w3 (w3.alloc (.cells #[.string x.name, .int .i64 x.mt.maxCount, .int .i64 x.mt.maxAge, .int .i64 x.mt.before, .int .i64 x.kept, .bool x.deleted] 82)) := (Only.refl _ _).alloc _
    obtain ⟨A5, cp5, w5, hr5, hown5, hO5⟩ := appD (base := w2.heap.size) (m := [x]) (u := .slice (some ⟨w3.heap.size, 0, none⟩) 1 1) (own_only hown3 k4 (by simp)) (slc_new1 (w := w3) (e := 82) (size := 6) (cs := dcells [x]) rfl) (Nat.le_trans hO3'.size k4.size) (by simpa using hs)
    have hO35 : Only [] w2 w5 := (hO3'.trans k4).step hO5 (fun g hg => .inr (hown3.lt g (by simpa using hg)).1)
    have HR5 := Lib.hid hr5
    have HO5 := Lib.hid (hown5)
    have hO05 : Only [] w w5 := hO2.trans hO35
    have f5 : w5.frozen? ⟨rb, 1, none⟩ = false := (hO05.blk HAt.out.blk (by simp)).free 1
    have cc5 := (hO05.cell (p := ⟨rb, 1, none⟩) hrb (by simp)).trans f1
    clear hr5 hown5 hO5 hown3
    go_wp2_with (first
      | (at_builtin; refine Lib.wpList_append_run _ rfl (.const (.slice none 0 0)) (.tmp 13) 29 29 rfl _ _ rfl rfl _ _ HR3.out ?_)
      | (at_builtin; refine Lib.wpList_append_run _ rfl (.tmp 17) (.tmp 19) 29 29 rfl _ _ rfl rfl _ _ HR5.out ?_))
    go_end0
    exact ⟨rfl, DTo.setS HHH.out HAt.out hO05 HO5.out hO2.size⟩
set_option maxRecDepth 100000 in
set_option maxHeartbeats 2000000 in
theorem dkeep_any (h : HasD a w H rb r) (n : ByteArray) (hl : r.l.length ≤ 1000000) (hs : r.s.length + 1 ≤ 1000000) (hm : (r.get n).mt.ok = true) (hk : 0 ≤ (r.get n).kept ∧ (r.get n).kept ≤ 1000000000) (hn : 0 ≤ r.now ∧ r.now ≤ 1099511627776) :
    Calls Tryz.prog 27 #[.pointer (some ⟨rb, 0, none⟩), .string n] w fun e w' => e = .returned (.tuple #[]) ∧ DTo a w H rb (r.keep n) w' := by
  have HGt := Lib.hid (dget_any h n)
  have HFl := Lib.hid fun (W : World) (k : Only [] w W) => dfloor_any (h.keep0 k) n hl hm hk hn
  have HPt := Lib.hid fun (W : World) (k : Only [] w W) => dput_any (h.keep0 k) { r.get n with kept := r.floor n } hs
  have hkp : r.keep n = r.put { r.get n with kept := r.floor n } := rfl
  rw [hkp]
  obtain ⟨x, hx⟩ : ∃ x, r.get n = x := ⟨_, rfl⟩
  obtain ⟨f, hf⟩ : ∃ f, r.floor n = f := ⟨_, rfl⟩
  rw [hx] at HGt HPt ⊢
  rw [hf] at HFl HPt ⊢
  unfold DStr.val at HGt
  dsimp only at HPt ⊢
  have HX := Lib.hid (h.lt)
  clear hl hs hm hk hn hkp hx hf h
  go_enter Tryz.func27, Tryz.ntmps27
  go_wp2_with fail
  refine HGt.out.mono ?_
  rintro e1 w1 ⟨rfl, k1⟩
  have hB := Blk.new w1 82 #[.string x.name, .int .i64 x.mt.maxCount, .int .i64 x.mt.maxAge, .int .i64 x.mt.before, .int .i64 x.kept, .bool x.deleted]
  have hO1 : Only [] w (w1.alloc (.cells #[.string x.name, .int .i64 x.mt.maxCount, .int .i64 x.mt.maxAge, .int .i64 x.mt.before, .int .i64 x.kept, .bool x.deleted] 82)) := k1.alloc _
  go_wp2_with fail
  refine (HFl.out _ hO1).mono ?_
  rintro e2 w2 ⟨rfl, k2⟩
  have hB2 := k2.blk hB (by simp)
  have hf2 := hB2.free
  have hc2 := hB2.cell
  have hO2 := hO1.trans k2
  have hB3 := hB2.set 4 (.int .i64 f)
  have hO3 : Only [] w (w2.setCell ⟨w1.heap.size, 4, none⟩ (.int .i64 f)) := hO2.setCell (.inr k1.size) _
  have y0 : (w2.setCell ⟨w1.heap.size, 4, none⟩ (.int .i64 f)).cell? ⟨w1.heap.size, 0, none⟩ = some (.string x.name) := hB3.cell 0
  have y1 : (w2.setCell ⟨w1.heap.size, 4, none⟩ (.int .i64 f)).cell? ⟨w1.heap.size, 1, none⟩ = some (.int .i64 x.mt.maxCount) := hB3.cell 1
  have y2 : (w2.setCell ⟨w1.heap.size, 4, none⟩ (.int .i64 f)).cell? ⟨w1.heap.size, 2, none⟩ = some (.int .i64 x.mt.maxAge) := hB3.cell 2
  have y3 : (w2.setCell ⟨w1.heap.size, 4, none⟩ (.int .i64 f)).cell? ⟨w1.heap.size, 3, none⟩ = some (.int .i64 x.mt.before) := hB3.cell 3
  have y4 : (w2.setCell ⟨w1.heap.size, 4, none⟩ (.int .i64 f)).cell? ⟨w1.heap.size, 4, none⟩ = some (.int .i64 f) := hB3.cell 4
  have y5 : (w2.setCell ⟨w1.heap.size, 4, none⟩ (.int .i64 f)).cell? ⟨w1.heap.size, 5, none⟩ = some (.bool x.deleted) := hB3.cell 5
  go_wp2_with fail
  refine (HPt.out _ hO3).mono ?_
  rintro e3 w3 ⟨rfl, k3⟩
  go_wp2_with fail
  go_end0
  exact ⟨rfl, DTo.trans (Stepped.first0 hO3 (Stepped.refl _ _)) k3⟩
end
end Go.Proofs.YteinoiicnmemhaaGreatDoor
/- Contracts: the document's Of, Canon; SamePage of pages that are the same. -/
set_option linter.unusedVariables false
set_option linter.unusedSimpArgs false
namespace Go.Proofs.YteinoiicnmemhaaGreatDoor
open Go Go.RowKit Go.Sort
theorem nan_nan : isNaN 9221120237041090560 = true := by kernel_rfl
set_option maxRecDepth 100000 in
theorem r1of_any (b : Nat) (w : World) : Calls Tryz.prog 70 #[.int .u64 (b : Int)] w fun e w' => e = .returned (.float .f64 (canon b)) ∧ w = w' := by
  have hf := fun W => from_run (b : Int) W
  have hf2 := fun W => from_run 9221120237041090560 W
  simp only [Int.toNat_natCast] at hf
  cases hb : isNaN b
  · have hr : Hid (canon b = b) := by unfold Hid canon; rw [hb]; rfl
    unfold isNaN at hb
    go_enter Tryz.func70, Tryz.ntmps70
    go_wp2
    go_ret
    exact ⟨by rw [hr.out]; rfl, rfl⟩
  · have hr : Hid (canon b = 9221120237041090560) := by unfold Hid canon; rw [hb]; rfl
    unfold isNaN at hb
    go_enter Tryz.func70, Tryz.ntmps70
    go_wp2
    go_ret
    exact ⟨by rw [hr.out]; rfl, rfl⟩
theorem canon_bits (b : Nat) : canon (bitsOf b) = canon b := by
  unfold canon bitsOf
  cases hb : isNaN b
  · simp [hb]
  · simp [nan_nan]
set_option maxRecDepth 100000 in
theorem r1canon_any (b : Nat) (w : World) : Calls Tryz.prog 31 #[.float .f64 b] w fun e w' => e = .returned (.float .f64 (canon b)) ∧ w = w' := by
  have HB := Lib.hid fun (W : World) => r1bits_any b W
  have HO := Lib.hid fun (W : World) => r1of_any (bitsOf b) W
  rw [canon_bits] at HO
  go_enter Tryz.func31, Tryz.ntmps31
  go_wp2_with (first
    | (go_at_call 71; refine (HB.out _).mono ?_; rintro e1 w1 ⟨rfl, rfl⟩)
    | (go_at_call 70; refine (HO.out _).mono ?_; rintro e2 w2 ⟨rfl, rfl⟩))
  go_ret
  exact ⟨rfl, rfl⟩
end Go.Proofs.YteinoiicnmemhaaGreatDoor
/- Opening []api.Command. -/
set_option linter.unusedVariables false
set_option linter.unusedSimpArgs false
namespace Go.Proofs.YteinoiicnmemhaaGreatDoor
open Go.ChangeShapes Go.WideShapes Go.ChangeAt Go.RowKit Go.WideElems Go.ChangeMaps Go.Deep Go.Sort
/-- A command, and the slice of its events. -/
structure CmdV where
  c : Cmd
  ev : Value
def CmdV.cells (x : CmdV) : List Value := [.int .i64 x.c.kind, .int .i64 x.c.time, .string x.c.stream, .int .i64 x.c.expected, x.ev, .int .i64 x.c.mt.maxCount, .int .i64 x.c.mt.maxAge, .int .i64 x.c.mt.before]
structure CmdV.Ok (W : World) (x : CmdV) : Prop where
  ok : CmdOk x.c
  slc : Slc W 4 x.ev x.c.events.length (x.c.events.flatMap EventR.cells)
  own : ∀ g, x.ev.ownBlock = some g → g < W.heap.size ∨ x.c.events = []
theorem cellsI : Tryz.prog.cellsOf 3 = 1 := by kernel_rfl
theorem cellsS : Tryz.prog.cellsOf 9 = 1 := by kernel_rfl
theorem cellsF : Tryz.prog.cellsOf 88 = 1 := by kernel_rfl
theorem cellsEv : Tryz.prog.cellsOf 90 = 4 := by kernel_rfl
theorem cellsEvs : Tryz.prog.cellsOf 36 = 1 := by kernel_rfl
theorem cellsMt : Tryz.prog.cellsOf 38 = 3 := by kernel_rfl
theorem cellsCmd : Tryz.prog.cellsOf 40 = 8 := by kernel_rfl
section
variable {H : Type} {enc : TypeId × Value → H} {W : World}
theorem trod_float {P : Program} {base : Nat} {spare : Nat → Bool} {held : Bool} {fuel : Nat} {t : TypeId} {cs : List Value} {x : DataW H × List MemPlace} (ht : P.underlying t = some (.float .f64)) (h : DataW.trod enc P W base spare held fuel t cs = some x) : ∃ b, cs = [.float .f64 b] := by
  cases fuel with
  | zero => simp [DataW.trod] at h
  | succ n =>
    unfold DataW.trod at h
    rw [ht] at h
    split at h <;> simp_all
theorem one_at {cs : List Value} {i : Nat} {v : Value} (h : (cs.drop i).take 1 = [v]) : cs[i]? = some v := by
  have : ((cs.drop i).take 1)[0]? = some v := by rw [h]; rfl
  rw [List.getElem?_take] at this
  simpa using this
theorem open_ev (n : Nat) (cs : List Value) (x : DataW H × List MemPlace) (h : DataW.trod enc Tryz.prog W 0 (fun _ => true) true n 90 cs = some x) (hlt : ∀ y ∈ x.2, y.block < W.heap.size) :
    ∃ e : EventR, cs = e.cells ∧ (e.type.size ≤ maxLen ∧ e.data.size ≤ maxLen) := by
  obtain ⟨xs, m, _, hx, hl, hlen, hf⟩ := DataW.trod_struct Tryz.underlying90 h
  rw [cellsEv] at hl
  have g0 : DataW.trod enc Tryz.prog W 0 (fun _ => true) true m 3 ((cs.drop 0).take (Tryz.prog.cellsOf 3)) = xs[0]? := hf 0 _ rfl
  have g1 : DataW.trod enc Tryz.prog W 0 (fun _ => true) true m 9 ((cs.drop 1).take (Tryz.prog.cellsOf 9)) = xs[1]? := hf 1 _ rfl
  have g2 : DataW.trod enc Tryz.prog W 0 (fun _ => true) true m 9 ((cs.drop 2).take (Tryz.prog.cellsOf 9)) = xs[2]? := hf 2 _ rfl
  have g3 : DataW.trod enc Tryz.prog W 0 (fun _ => true) true m 88 ((cs.drop 3).take (Tryz.prog.cellsOf 88)) = xs[3]? := hf 3 _ rfl
  rw [cellsI] at g0
  rw [cellsS] at g1 g2
  rw [cellsF] at g3
  clear hf
  match xs, hlen with
  | [y0, y1, y2, y3], _ =>
    simp only [List.getElem?_cons_zero, List.getElem?_cons_succ] at g0 g1 g2 g3
    obtain ⟨k, c0, _, w0⟩ := DataW.trod_int Tryz.underlying3 g0
    obtain ⟨s1, c1, _, w1⟩ := DataW.trod_string Tryz.underlying9 g1
    obtain ⟨s2, c2, _, w2⟩ := DataW.trod_string Tryz.underlying9 g2
    obtain ⟨b, c3⟩ := trod_float Tryz.underlying88 g3
    refine ⟨⟨k, s1, s2, b⟩, ?_, w1, w2⟩
    apply List.ext_getElem?
    intro i
    unfold EventR.cells
    have a0 := one_at c0
    have a1 := one_at c1
    have a2 := one_at c2
    have a3 := one_at c3
    match i with
    | 0 => exact a0
    | 1 => exact a1
    | 2 => exact a2
    | 3 => exact a3
    | i + 4 => simp; omega
theorem open_mt (n : Nat) (cs : List Value) (x : DataW H × List MemPlace) (h : DataW.trod enc Tryz.prog W 0 (fun _ => true) true n 38 cs = some x) : ∃ m : MetaR, cs = m.cells := by
  obtain ⟨xs, m, _, hx, hl, hlen, hf⟩ := DataW.trod_struct Tryz.underlying38 h
  rw [cellsMt] at hl
  have g0 : DataW.trod enc Tryz.prog W 0 (fun _ => true) true m 3 ((cs.drop 0).take (Tryz.prog.cellsOf 3)) = xs[0]? := hf 0 _ rfl
  have g1 : DataW.trod enc Tryz.prog W 0 (fun _ => true) true m 3 ((cs.drop 1).take (Tryz.prog.cellsOf 3)) = xs[1]? := hf 1 _ rfl
  have g2 : DataW.trod enc Tryz.prog W 0 (fun _ => true) true m 3 ((cs.drop 2).take (Tryz.prog.cellsOf 3)) = xs[2]? := hf 2 _ rfl
  rw [cellsI] at g0 g1 g2
  clear hf
  match xs, hlen with
  | [y0, y1, y2], _ =>
    simp only [List.getElem?_cons_zero, List.getElem?_cons_succ] at g0 g1 g2
    obtain ⟨k0, c0, _, _⟩ := DataW.trod_int Tryz.underlying3 g0
    obtain ⟨k1, c1, _, _⟩ := DataW.trod_int Tryz.underlying3 g1
    obtain ⟨k2, c2, _, _⟩ := DataW.trod_int Tryz.underlying3 g2
    refine ⟨⟨k0, k1, k2⟩, ?_⟩
    apply List.ext_getElem?
    intro i
    unfold MetaR.cells
    have a0 := one_at c0
    have a1 := one_at c1
    have a2 := one_at c2
    match i with
    | 0 => exact a0
    | 1 => exact a1
    | 2 => exact a2
    | i + 3 => simp; omega
theorem open_cmd (n : Nat) (cs : List Value) (x : DataW H × List MemPlace) (h : DataW.trod enc Tryz.prog W 0 (fun _ => true) true n 40 cs = some x) (hlt : ∀ y ∈ x.2, y.block < W.heap.size) :
    ∃ o : CmdV, cs = o.cells ∧ o.Ok W := by
  obtain ⟨xs, m, _, hx, hl, hlen, hf⟩ := DataW.trod_struct Tryz.underlying40 h
  rw [cellsCmd] at hl
  have g0 : DataW.trod enc Tryz.prog W 0 (fun _ => true) true m 3 ((cs.drop 0).take (Tryz.prog.cellsOf 3)) = xs[0]? := hf 0 _ rfl
  have g1 : DataW.trod enc Tryz.prog W 0 (fun _ => true) true m 3 ((cs.drop 1).take (Tryz.prog.cellsOf 3)) = xs[1]? := hf 1 _ rfl
  have g2 : DataW.trod enc Tryz.prog W 0 (fun _ => true) true m 9 ((cs.drop 2).take (Tryz.prog.cellsOf 9)) = xs[2]? := hf 2 _ rfl
  have g3 : DataW.trod enc Tryz.prog W 0 (fun _ => true) true m 3 ((cs.drop 3).take (Tryz.prog.cellsOf 3)) = xs[3]? := hf 3 _ rfl
  have g4 : DataW.trod enc Tryz.prog W 0 (fun _ => true) true m 36 ((cs.drop 4).take (Tryz.prog.cellsOf 36)) = xs[4]? := hf 4 _ rfl
  have g5 : DataW.trod enc Tryz.prog W 0 (fun _ => true) true m 38 ((cs.drop 5).take (Tryz.prog.cellsOf 38)) = xs[5]? := hf 5 _ rfl
  rw [cellsI] at g0 g1 g3
  rw [cellsS] at g2
  rw [cellsEvs] at g4
  rw [cellsMt] at g5
  clear hf
  match xs, hlen with
  | [y0, y1, y2, y3, y4, y5], _ =>
    simp only [List.getElem?_cons_zero, List.getElem?_cons_succ] at g0 g1 g2 g3 g4 g5
    obtain ⟨k, c0, _, w0⟩ := DataW.trod_int Tryz.underlying3 g0
    obtain ⟨tm, c1, _, w1⟩ := DataW.trod_int Tryz.underlying3 g1
    obtain ⟨s2, c2, _, w2⟩ := DataW.trod_string Tryz.underlying9 g2
    obtain ⟨ex, c3, _, w3⟩ := DataW.trod_int Tryz.underlying3 g3
    obtain ⟨v, es, c4, q1, q2, q3⟩ := open_rows_at Tryz.underlying36 cellsEv (by omega) EventR.cells (fun e => e.type.size ≤ maxLen ∧ e.data.size ≤ maxLen) open_ev g4 (fun y hy => hlt y (by rw [hx]; simp; right; right; right; right; left; exact hy))
    obtain ⟨mt, c5⟩ := open_mt _ _ _ g5
    refine ⟨⟨⟨k, tm, s2, ex, es, mt⟩, v⟩, ?_, ⟨⟨w2, fun e he => (q2 e he).1⟩, q1, q3⟩⟩
    apply List.ext_getElem?
    intro i
    unfold CmdV.cells
    have a0 := one_at c0
    have a1 := one_at c1
    have a2 := one_at c2
    have a3 := one_at c3
    have a4 := one_at c4
    have b : ∀ j, j < 3 → cs[5 + j]? = mt.cells[j]? := fun j hj => by
      rw [← c5, List.getElem?_take, if_pos hj, List.getElem?_drop]
    match i with
    | 0 => exact a0
    | 1 => exact a1
    | 2 => exact a2
    | 3 => exact a3
    | 4 => exact a4
    | 5 => exact b 0 (by omega)
    | 6 => exact b 1 (by omega)
    | 7 => exact b 2 (by omega)
    | i + 8 => simp; omega
set_option maxRecDepth 100000 in
theorem open_cmds {base : Nat} {v : Value} {d : DataW H} {ps : List MemPlace} (hval : Value.okWide Tryz.prog W .any base 22 v) (hd : DataW.Trod enc Tryz.prog W 0 (fun _ => true) true 22 v d ps) (hlt : ∀ x ∈ ps, x.block < W.heap.size) :
    ∃ os : List CmdV, Slc W 8 v os.length (os.flatMap CmdV.cells) ∧ (∀ o ∈ os, o.Ok W ∧ o.cells.length = 8) ∧ ∀ g, v.ownBlock = some g → g < W.heap.size ∨ os = [] :=
  open_rows Tryz.underlying22 cellsCmd (by omega) CmdV.cells (CmdV.Ok W) open_cmd hval hd hlt
end
/-- Commands that lie below the world a. -/
structure CmdsAt (a w : World) (v : Value) (l : List CmdV) : Prop where
  slc : Slc w 8 v l.length (l.flatMap CmdV.cells)
  own : ∀ g, v.ownBlock = some g → g < a.heap.size ∨ l = []
  cmd : ∀ x ∈ l, CmdOk x.c ∧ Slc w 4 x.ev x.c.events.length (x.c.events.flatMap EventR.cells) ∧ ∀ g, x.ev.ownBlock = some g → g < a.heap.size ∨ x.c.events = []
section
variable {a w w' : World} {R : List Nat} {v : Value} {l : List CmdV}
theorem CmdsAt.of {W : World} (h1 : Slc W 8 v l.length (l.flatMap CmdV.cells)) (h2 : ∀ o ∈ l, o.Ok W ∧ o.cells.length = 8) (h3 : ∀ g, v.ownBlock = some g → g < W.heap.size ∨ l = []) : CmdsAt W W v l :=
  ⟨h1, h3, fun x hx => ⟨(h2 x hx).1.ok, (h2 x hx).1.slc, (h2 x hx).1.own⟩⟩
theorem Keeps.slcE {size n : Nat} {u : Value} {cs : List Value} {E : Type} {os : List E} (h : Keeps a R w w') (hn : n = os.length) (hs : Slc w size u n cs) (hg : ∀ g, u.ownBlock = some g → g < a.heap.size ∨ os = []) : Slc w' size u n cs := by
  by_cases h0 : os = []
  · subst h0
    subst hn
    exact hs.empty
  · exact h.slc hs (fun g q => .inl ((hg g q).resolve_right h0))
theorem CmdsAt.keep (h : CmdsAt a w v l) (k : Keeps a R w w') : CmdsAt a w' v l :=
  ⟨k.slcE rfl h.slc h.own, h.own, fun x hx => ⟨(h.cmd x hx).1, k.slcE rfl (h.cmd x hx).2.1 (h.cmd x hx).2.2, (h.cmd x hx).2.2⟩⟩
theorem CmdsAt.keep0 (h : CmdsAt a w v l) (k : Only [] w w') : CmdsAt a w' v l := h.keep (R := []) (.of0 k)
theorem CmdsAt.ev (h : CmdsAt a w v l) {E : List Nat} {x : CmdV} (hx : x ∈ l) : EvIn a w E x.ev x.c.events := ⟨(h.cmd x hx).2.1, fun g hg => by
  rcases (h.cmd x hx).2.2 g hg with q | q
  · exact .inl (.inl q)
  · exact .inr (by rw [q]; rfl)⟩
/-- The cells of the command at j. -/
theorem CmdsAt.cells (h : CmdsAt a w v l) : ∃ A cap, v = .slice A l.length cap ∧ l.length ≤ cap ∧ cap ≤ maxLen ∧ ∀ j (hj : j < l.length), ∃ b off, A = some ⟨b, off, none⟩ ∧ b < w.heap.size ∧ b < a.heap.size ∧ ∀ r, r < 8 → w.cell? ⟨b, off + j * 8 + r, none⟩ = (l[j].cells)[r]? := by
  obtain ⟨A, cap, rfl, h1, h2, h3⟩ := h.slc.openE CmdV.cells (fun _ => rfl)
  refine ⟨A, cap, rfl, h1, h2, fun j hj => ?_⟩
  obtain ⟨b, off, rfl, q1, q2⟩ := h3 j hj
  refine ⟨b, off, rfl, q1, ?_, q2⟩
  rcases h.own b rfl with q | q
  · exact q
  · rw [q] at hj
    simp at hj
end
end Go.Proofs.YteinoiicnmemhaaGreatDoor
/- Small, Light, run. -/
set_option linter.unusedVariables false
set_option linter.unusedSimpArgs false
namespace Go.Proofs.YteinoiicnmemhaaGreatDoor
open Go.RowKit Go.Sort
def RetB (e : Ending) (Q : Bool → Prop) : Prop := ∃ b : Bool, e = .returned (.bool b) ∧ Q b
theorem RetB.mk {b : Bool} {Q : Bool → Prop} (h : Q b) : RetB (.returned (.bool b)) Q := ⟨b, rfl, h⟩
section
variable {a w : World} {v : Value} {l : List CmdV}
def runS (s : MS) (l : List CmdV) : MS := l.foldl (fun s x => (s.do x.c).2) s
theorem runS_take (s : MS) (l : List CmdV) (k : Nat) (h : k < l.length) : runS s (l.take (k + 1)) = ((runS s (l.take k)).do l[k].c).2 := by
  unfold runS
  rw [List.take_succ_eq_append_getElem h, List.foldl_append]
  rfl
variable {R E : List Nat} {sb mb N : Nat} {s : MS}
end
end Go.Proofs.YteinoiicnmemhaaGreatDoor
/- Contracts: the document's Check, of an append of one event. -/
set_option linter.unusedVariables false
set_option linter.unusedSimpArgs false
namespace Go.Proofs.YteinoiicnmemhaaGreatDoor
open Go.RowKit Go.Sort
set_option maxHeartbeats 800000 in
theorem r1stream_any (s : ByteArray) (w : World) (hs : s.size ≤ maxLen) : Calls Tryz.prog 65 #[.string s] w fun e w' => e = .returned (.bool (nameOk s)) ∧ w = w' := by
  unfold maxLen at hs
  by_cases h1 : s.size < 1
  · go_enter Tryz.func65, Tryz.ntmps65
    go_wp2
    go_ret
    exact ⟨ret_b (by simp [nameOk]; omega), rfl⟩
  · by_cases h2 : 60 < s.size
    · go_enter Tryz.func65, Tryz.ntmps65
      go_wp2
      go_ret
      exact ⟨ret_b (by simp [nameOk]; omega), rfl⟩
    · have hn : Hid (nameOk s = s.data.toList.all okByte) := by
        unfold Hid nameOk
        rw [decide_eq_true (by omega : 1 ≤ s.size), decide_eq_true (by omega : s.size ≤ 60)]
        simp
      go_enter Tryz.func65, Tryz.ntmps65
      go_wp2
      go_loop [3] (fun i => ∃ k : Nat, k ≤ s.size ∧ i = .int .i64 k ∧ Hid ((s.data.toList.take k).all okByte = true)) (fun i => s.size - (intOf i).toNat)
      case atStart => exact ⟨0, Nat.zero_le _, rfl, by simp [Hid]⟩
      case round =>
        obtain ⟨k, hk, rfl, hT⟩ := hrel
        by_cases hlt : k < s.size
        · have hb256 : (s[k].toNat : Int) < 256 := by have := s[k].toNat_lt; omega
          have hnext : Hid (okByte s[k] = true → (s.data.toList.take (k + 1)).all okByte = true) := by
            intro q
            rw [all_take k hlt, hT.out, q]
            rfl
          have hend : Hid (okByte s[k] = false → nameOk s = false) := by
            intro q
            rw [hn.out]
            exact all_false (k := k) (by simpa using hlt) q
          by_cases c1 : (s[k].toNat : Int) < 33
          · have hq : Hid (nameOk s = false) := hend.out (by simp only [okByte, decide_eq_true c1]; simp)
            clear hend hnext
            go_wp2
            go_ret
            exact ⟨ret_b (by rw [hq.out]), rfl⟩
          · by_cases c2 : 126 < (s[k].toNat : Int)
            · have hq : Hid (nameOk s = false) := hend.out (by simp only [okByte, decide_eq_true c2]; simp)
              clear hend hnext
              go_wp2
              go_ret
              exact ⟨ret_b (by rw [hq.out]), rfl⟩
            · by_cases c3 : (s[k].toNat : Int) = 64
              · have e3 : ((s[k].toNat : Int) == 64) = true := by simpa using c3
                have hq : Hid (nameOk s = false) := hend.out (by simp only [okByte, c3]; simp)
                clear hend hnext c3
                go_wp2
                go_ret
                exact ⟨ret_b (by rw [hq.out]), rfl⟩
              · have e3 : ((s[k].toNat : Int) == 64) = false := by simpa using c3
                have hq := Lib.hid (hnext.out (by simp only [okByte, decide_eq_false c1, decide_eq_false c2, decide_eq_false c3]; rfl))
                clear hend hnext c3
                go_wp2
                go_round
                case rel => exact ⟨k + 1, hlt, by go_num, hq⟩
                case measure => simp [intOf]; omega
        · have hfin : Hid (nameOk s = true) := by
            have := hT.out
            rw [List.take_of_length_le (by simp; omega)] at this
            unfold Hid
            rw [hn.out, this]
          go_wp2
          go_ret
          exact ⟨ret_b (by rw [hfin.out]), rfl⟩

end Go.Proofs.YteinoiicnmemhaaGreatDoor
/- Light, and what it tells of the events. -/
set_option linter.unusedVariables false
set_option linter.unusedSimpArgs false
namespace Go.Proofs.YteinoiicnmemhaaGreatDoor
open Go.RowKit
set_option maxRecDepth 100000 in
set_option maxHeartbeats 2000000 in
theorem small12_any {w : World} {c : Cmd} {ev : Value} (hc : CmdOk c) (he : Slc w 4 ev c.events.length (c.events.flatMap EventR.cells)) :
    Calls Tryz.prog 18 #[c.val ev] w fun e w' => RetB e (fun b => b = true → c.events.length ≤ 12) ∧ Only [] w w' := by
  obtain ⟨A, cap, rfl, hnc, hcm, hel⟩ := he.openE EventR.cells (fun _ => rfl)
  unfold maxLen at hcm
  have hst := hc.stream
  unfold maxLen at hst
  have hes := hc.evs
  obtain ⟨W1, hW1⟩ : ∃ W1, W1 = w.alloc (.cells #[.int .i64 c.kind, .int .i64 c.time, .string c.stream, .int .i64 c.expected, .slice A c.events.length cap, .int .i64 c.mt.maxCount, .int .i64 c.mt.maxAge, .int .i64 c.mt.before] 40) := ⟨_, rfl⟩
  have hB := Blk.new w 40 #[.int .i64 c.kind, .int .i64 c.time, .string c.stream, .int .i64 c.expected, .slice A c.events.length cap, .int .i64 c.mt.maxCount, .int .i64 c.mt.maxAge, .int .i64 c.mt.before]
  have hO1 := (Only.refl [] w).alloc (.cells #[.int .i64 c.kind, .int .i64 c.time, .string c.stream, .int .i64 c.expected, .slice A c.events.length cap, .int .i64 c.mt.maxCount, .int .i64 c.mt.maxAge, .int .i64 c.mt.before] 40)
  rw [← hW1] at hB hO1
  rw [show c.val (.slice A c.events.length cap) = .agg #[.int .i64 c.kind, .int .i64 c.time, .string c.stream, .int .i64 c.expected, .slice A c.events.length cap, .int .i64 c.mt.maxCount, .int .i64 c.mt.maxAge, .int .i64 c.mt.before] from rfl]
  have HW := Lib.hid hW1
  clear hW1
  go_enter Tryz.func18, Tryz.ntmps18
  go_wp2
  rw [← HW.out]
  go_loopw [3] (fun i wr => ∃ k : Nat, k ≤ 20 ∧ i = .int .i64 k ∧ Only [] W1 wr) (fun i _ => 20 - (intOf i).toNat)
  case atStart => exact ⟨0, by omega, rfl, Only.refl _ _⟩
  case round =>
    obtain ⟨k, hk, rfl, hO⟩ := hrel
    have hb := fun i => (hO.blk hB (by simp)).cell i
    have hend : ∀ W, Only [] wr W → Only [] w W := fun W h => (hO1.trans hO).trans h
    have HEnd := Lib.hid hend
    clear hend
    by_cases hlt : k < c.events.length
    · by_cases h20 : k < 20
      · obtain ⟨b, off, rfl, hbb, hcc⟩ := hel k hlt
        obtain ⟨y, hy⟩ : ∃ y, y = c.events[k] := ⟨_, rfl⟩
        have hys := hes y (by rw [hy]; exact List.getElem_mem hlt)
        rw [← hy] at hcc
        have c1 : wr.cell? ⟨b, off + k * 4 + 1, none⟩ = some (.string y.type) := ((hO1.trans hO).cell hbb (by simp)).trans (hcc 1 (by omega))
        have c2 : wr.cell? ⟨b, off + k * 4 + 2, none⟩ = some (.string y.data) := ((hO1.trans hO).cell hbb (by simp)).trans (hcc 2 (by omega))
        obtain ⟨hy1, hy2⟩ := hys
        unfold maxLen at hy1 hy2
        clear hcc hes hy hel he
        by_cases h1 : y.type.size > 100
        · go_wp2
          go_ret
          first | exact ⟨⟨_, rfl, rfl⟩, HEnd.out _ (Only.refl _ _)⟩ | exact ⟨⟨_, rfl, fun q => by first | exact h12 | (simp at q; done) | (simp at q; omega)⟩, HEnd.out _ (Only.refl _ _)⟩
        · by_cases h2 : y.data.size > 300
          · go_wp2
            go_ret
            first | exact ⟨⟨_, rfl, rfl⟩, HEnd.out _ (Only.refl _ _)⟩ | exact ⟨⟨_, rfl, fun q => by first | exact h12 | (simp at q; done) | (simp at q; omega)⟩, HEnd.out _ (Only.refl _ _)⟩
          · go_wp2
            exact ⟨⟨k + 1, by omega, by simp, hO⟩, by simp [intOf]; omega⟩
      · clear hel he hes
        by_cases h12 : c.events.length ≤ 12
        · omega
        · go_wp2
          go_ret
          first | exact ⟨⟨_, rfl, rfl⟩, HEnd.out _ (Only.refl _ _)⟩ | exact ⟨⟨_, rfl, fun q => by first | exact h12 | (simp at q; done) | (simp at q; omega)⟩, HEnd.out _ (Only.refl _ _)⟩
    · clear hel he hes
      by_cases h12 : c.events.length ≤ 12
      · go_wp2
        go_ret
        first | exact ⟨⟨_, rfl, rfl⟩, HEnd.out _ (Only.refl _ _)⟩ | exact ⟨⟨_, rfl, fun q => by first | exact h12 | (simp at q; done) | (simp at q; omega)⟩, HEnd.out _ (Only.refl _ _)⟩
      · go_wp2
        go_ret
        first | exact ⟨⟨_, rfl, rfl⟩, HEnd.out _ (Only.refl _ _)⟩ | exact ⟨⟨_, rfl, fun q => by first | exact h12 | (simp at q; done) | (simp at q; omega)⟩, HEnd.out _ (Only.refl _ _)⟩
section
variable {a w : World} {v : Value} {l : List CmdV}
set_option maxRecDepth 100000 in
set_option maxHeartbeats 2000000 in
theorem light12_any (h : CmdsAt a w v l) (few : Nat) (hf : few ≤ 1000) :
    Calls Tryz.prog 6 #[.int .i64 few, v] w fun e w' => RetB e (fun b => b = true → l.length ≤ few ∧ ∀ x ∈ l, x.c.events.length ≤ 12) ∧ Only [] w w' := by
  obtain ⟨A, cap, rfl, hnc, hcm, hel⟩ := h.cells
  unfold maxLen at hcm
  go_enter Tryz.func6, Tryz.ntmps6
  go_wp2
  go_loopw [5] (fun i wr => ∃ k : Nat, k ≤ few ∧ i = .int .i64 k ∧ Only [] w wr ∧ Hid (∀ x ∈ l.take k, x.c.events.length ≤ 12)) (fun i _ => few - (intOf i).toNat)
  case atStart => exact ⟨0, by omega, rfl, Only.refl _ _, by simp [Hid]⟩
  case round =>
    obtain ⟨k, hk, rfl, hO, hsm12⟩ := hrel
    by_cases hlt : k < l.length
    · by_cases h20 : k < few
      · have hcell : ∀ b (h1 : b < w.heap.size) (h2 : b < a.heap.size) (i : Nat), wr.cell? ⟨b, i, none⟩ = w.cell? ⟨b, i, none⟩ := fun b h1 h2 i => hO.cell h1 (by simp)
        obtain ⟨b, off, rfl, hbb, hba, hcc⟩ := hel k hlt
        obtain ⟨x, hx⟩ : ∃ x, x = l[k] := ⟨_, rfl⟩
        have hxm : x ∈ l := by rw [hx]; exact List.getElem_mem hlt
        rw [← hx] at hcc
        have hxo := (h.cmd x hxm).1
        obtain ⟨Ax, capx, hxv, hx1, hx2, _⟩ := (h.cmd x hxm).2.1.openE EventR.cells (fun _ => rfl)
        have c0 : wr.cell? ⟨b, off + k * 8, none⟩ = some (.int .i64 x.c.kind) := (hcell b hbb hba _).trans (hcc 0 (by omega))
        have c1 : wr.cell? ⟨b, off + k * 8 + 1, none⟩ = some (.int .i64 x.c.time) := (hcell b hbb hba _).trans (hcc 1 (by omega))
        have c2 : wr.cell? ⟨b, off + k * 8 + 2, none⟩ = some (.string x.c.stream) := (hcell b hbb hba _).trans (hcc 2 (by omega))
        have c3 : wr.cell? ⟨b, off + k * 8 + 3, none⟩ = some (.int .i64 x.c.expected) := (hcell b hbb hba _).trans (hcc 3 (by omega))
        have c4 : wr.cell? ⟨b, off + k * 8 + 4, none⟩ = some (.slice Ax x.c.events.length capx) := (hcell b hbb hba _).trans ((hcc 4 (by omega)).trans (by rw [← hxv]; rfl))
        have c5 : wr.cell? ⟨b, off + k * 8 + 5, none⟩ = some (.int .i64 x.c.mt.maxCount) := (hcell b hbb hba _).trans (hcc 5 (by omega))
        have c6 : wr.cell? ⟨b, off + k * 8 + 6, none⟩ = some (.int .i64 x.c.mt.maxAge) := (hcell b hbb hba _).trans (hcc 6 (by omega))
        have c7 : wr.cell? ⟨b, off + k * 8 + 7, none⟩ = some (.int .i64 x.c.mt.before) := (hcell b hbb hba _).trans (hcc 7 (by omega))
        have HTk : Hid (l.take (k + 1) = l.take k ++ [x]) := by unfold Hid; rw [List.take_succ_eq_append_getElem hlt, ← hx]
        have hsm := small12_any (w := wr) hxo ((h.cmd x hxm).2.1.only0 hO)
        rw [hxv] at hsm
        unfold Cmd.val at hsm
        have HS := Lib.hid hsm
        clear hcc hel hx hxv hsm hcell
        go_wp2_with (go_at_call 18; refine HS.out.mono ?_; rintro e w1 ⟨⟨bb, rfl, hb12⟩, ho1⟩; have HB12 := Lib.hid hb12; clear hb12; cases bb)
        · go_ret
          exact ⟨⟨false, rfl, fun q => by cases q⟩, hO.trans ho1⟩
        · exact ⟨⟨k + 1, by omega, by simp, hO.trans ho1, fun y hy => by rw [HTk.out] at hy; rcases List.mem_append.1 hy with q | q; exact hsm12.out y q; simp at q; rw [q]; first | exact HB12.out rfl | exact HB12.out trivial | exact HB12.out⟩, by simp [intOf]; omega⟩
      · clear hel
        have h2 : ¬ (l.length ≤ few) := by omega
        go_wp2
        go_ret
        exact ⟨⟨_, rfl, fun q => by simp at q <;> omega⟩, hO⟩
    · clear hel
      have h2 : l.length ≤ few := by omega
      go_wp2
      go_ret
      exact ⟨⟨_, rfl, fun q => ⟨h2, fun y hy => hsm12.out y (by rw [List.take_of_length_le (by omega)]; exact hy)⟩⟩, hO⟩
end
end Go.Proofs.YteinoiicnmemhaaGreatDoor
/- Contract of the document's Read. -/
set_option linter.unusedVariables false
set_option linter.unusedSimpArgs false
namespace Go.Proofs.YteinoiicnmemhaaGreatDoor
open Go Go.RowKit Go.Sort
section
variable {a w : World} {H : List Nat} {rb : Nat} {r : RS}
end
end Go.Proofs.YteinoiicnmemhaaGreatDoor
/- What the document's contracts ask, from the program's state. -/
set_option linter.unusedVariables false
set_option linter.unusedSimpArgs false
namespace Go.Proofs.YteinoiicnmemhaaGreatDoor
open Go Go.RowKit Go.Sort
theorem Alike.fine {s : MS} {r : RS} {N : Nat} (h : Alike s r) (ok : s.Ok N) (hN : N ≤ 100000) : r.Fine := by
  have ha := ok.all
  have hl : r.l.length = s.all.length := by rw [h.l]
  refine ⟨by omega, fun n => ?_, fun n => ?_, ?_⟩
  · rw [h.mt]
    exact (ok.find n).1
  · have h1 := h.kept n
    have h2 := ok.find n
    have h3 := floorS_bd s n
    omega
  · rw [h.now]
    exact ok.now
end Go.Proofs.YteinoiicnmemhaaGreatDoor
/- Contracts: the document's Check (chronicleref7) of every command. -/
set_option linter.unusedVariables false
set_option linter.unusedSimpArgs false
namespace Go.Proofs.YteinoiicnmemhaaGreatDoor
open Go Go.RowKit Go.Sort
set_option maxRecDepth 100000 in
theorem r7validE_any (e : EventR) (w : World) (hs : e.type.size ≤ maxLen ∧ e.data.size ≤ maxLen) : Calls Tryz.prog 66 #[.agg #[.int .i64 e.id, .string e.type, .string e.data, .float .f64 e.value]] w fun e1 w' => e1 = .returned (.bool e.ok) ∧ Only [] w w' := by
  have HS := Lib.hid (fun W => r1stream_any e.type W hs.1)
  have hd := hs.2
  unfold maxLen at hd
  have hO := (Only.refl [] w).alloc (.cells #[.int .i64 e.id, .string e.type, .string e.data, .float .f64 e.value] 90)
  have HO := Lib.hid hO
  clear hO hs
  by_cases h1 : e.id ≥ 1
  · have q1 : decide (e.id ≥ 1) = true := decide_eq_true h1
    cases h2 : nameOk e.type with
    | false =>
      rw [h2] at HS
      have hr : e.ok = false := by unfold EventR.ok; rw [h2]; simp
      rw [hr]
      clear hr h2
      go_enter Tryz.func66, Tryz.ntmps66
      go_wp2_with (go_at_call 65; refine (HS.out _).mono ?_; rintro e1 w1 ⟨rfl, rfl⟩)
      go_ret
      exact ⟨rfl, HO.out⟩
    | true =>
      rw [h2] at HS
      obtain ⟨bb, hbb⟩ : ∃ bb, decide (e.data.size ≤ 200) = bb := ⟨_, rfl⟩
      have hr : e.ok = bb := by unfold EventR.ok; rw [h2, ← hbb, decide_eq_true (show 1 ≤ e.id from h1)]; simp
      rw [hr]
      clear hr h2
      cases bb with
      | true =>
        have h3 : e.data.size ≤ 200 := by simpa using hbb
        have q3 : decide ((e.data.size : Int) ≤ 200) = true := decide_eq_true (by omega)
        clear hbb
        go_enter Tryz.func66, Tryz.ntmps66
        go_wp2_with (go_at_call 65; refine (HS.out _).mono ?_; rintro e1 w1 ⟨rfl, rfl⟩)
        go_ret
        exact ⟨rfl, HO.out⟩
      | false =>
        have h3 : ¬ e.data.size ≤ 200 := by simpa using hbb
        have q3 : decide ((e.data.size : Int) ≤ 200) = false := decide_eq_false (by omega)
        clear hbb
        go_enter Tryz.func66, Tryz.ntmps66
        go_wp2_with (go_at_call 65; refine (HS.out _).mono ?_; rintro e1 w1 ⟨rfl, rfl⟩)
        go_ret
        exact ⟨rfl, HO.out⟩
  · have q1 : decide (e.id ≥ 1) = false := decide_eq_false h1
    have hr : e.ok = false := by unfold EventR.ok; rw [decide_eq_false (show ¬ 1 ≤ e.id by omega)]; simp
    rw [hr]
    clear hr
    go_enter Tryz.func66, Tryz.ntmps66
    go_wp2
    go_ret
    exact ⟨rfl, HO.out⟩
set_option maxRecDepth 100000 in
theorem r7meta_any (m : MetaR) (w : World) : Calls Tryz.prog 67 #[.agg #[.int .i64 m.maxCount, .int .i64 m.maxAge, .int .i64 m.before]] w fun e w' => e = .returned (.bool m.ok) ∧ Only [] w w' := by
  obtain ⟨a, b, d⟩ := m
  dsimp only
  have hO := (Only.refl [] w).alloc (.cells #[.int .i64 a, .int .i64 b, .int .i64 d] 38)
  have HO := Lib.hid hO
  clear hO
  go_enter Tryz.func67, Tryz.ntmps67
  go_wp2
  all_goals
    go_ret
    refine ⟨ret_b ?_, HO.out⟩
    clear HO
    simp_all [MetaR.ok, within]
  all_goals omega
set_option maxRecDepth 100000 in
set_option maxHeartbeats 8000000 in
theorem r7check_not1 (c : Cmd) (hk1 : c.kind ≠ 1) (v : Value) (w : World) (hs : Slc w 4 v c.events.length (c.events.flatMap EventR.cells)) (ho : CmdOk c) :
    Calls Tryz.prog 25 #[c.val v] w fun e w' => e = .returned (.int .i64 c.check) ∧ Only [] w w' := by
  obtain ⟨A, cap, rfl, hnc, hcm, hel⟩ := hs.openE EventR.cells (fun _ => rfl)
  obtain ⟨ho1, ho2⟩ := ho
  obtain ⟨kind, time, stream, ex, l, a, b, d⟩ := c
  have hl : l.length ≤ 9223372036854775807 := by unfold maxLen at hcm; exact Nat.le_trans hnc (by omega)
  have HS := Lib.hid (fun W => r1stream_any stream W ho1)
  have HM := Lib.hid (fun W => r7meta_any ⟨a, b, d⟩ W)
  have hO1 := (Only.refl [] w).alloc (.cells #[.int .i64 kind, .int .i64 time, .string stream, .int .i64 ex, .slice A l.length cap, .int .i64 a, .int .i64 b, .int .i64 d] 40)
  have HL := Lib.hid hO1
  simp only [Cmd.val] at hel ⊢
  dsimp only at HM
  by_cases hk : 1 ≤ kind ∧ kind ≤ 5
  · have hk' : kind = 1 ∨ kind = 2 ∨ kind = 3 ∨ kind = 4 ∨ kind = 5 := by omega
    rcases hk' with rfl | rfl | rfl | rfl | rfl
    · exact absurd rfl hk1
    · clear hk hO1 hs hel ho2 hk1
      by_cases t1 : time < 0
      · have t1' : decide (time < 0) = true := decide_eq_true t1
        go_enter Tryz.func25, Tryz.ntmps25
        go_wp2
        go_ret
        refine ⟨ret_i ?_, HL.out⟩
        clear HS HM HL
        simp [Cmd.check, within]; omega
      have t1' : decide (time < 0) = false := decide_eq_false t1
      by_cases t2 : time > 1099511627776
      · have t2' : decide (time > 1099511627776) = true := decide_eq_true t2
        go_enter Tryz.func25, Tryz.ntmps25
        go_wp2
        go_ret
        refine ⟨ret_i ?_, HL.out⟩
        clear HS HM HL
        simp [Cmd.check, within]; omega
      have t2' : decide (time > 1099511627776) = false := decide_eq_false t2
      have hw : within time = true := by simp [within]; omega
      cases hnm : nameOk stream with
      | false =>
        rw [hnm] at HS
        go_enter Tryz.func25, Tryz.ntmps25
        go_wp2_with (go_at_call 65; refine (HS.out _).mono ?_; rintro e9 w9 ⟨rfl, rfl⟩)
        go_ret
        refine ⟨ret_i ?_, HL.out⟩
        clear HS HM HL
        simp [Cmd.check, hw, hnm]
      | true =>
      rw [hnm] at HS
      cases hmo : (⟨a, b, d⟩ : MetaR).ok with
      | false =>
        rw [hmo] at HM
        go_enter Tryz.func25, Tryz.ntmps25
        go_wp2_with (first
          | (go_at_call 65; refine (HS.out _).mono ?_; rintro e9 w9 ⟨rfl, rfl⟩)
          | (go_at_call 67; refine (HM.out _).mono ?_; rintro e8 w8 ⟨rfl, hw8⟩; have hq8 := fun i => (hw8.blk (Blk.new w 40 _) (by simp)).cell i))
        go_ret
        refine ⟨ret_i ?_, HL.out.trans hw8⟩
        clear HS HM HL hq8 hw8
        simp [Cmd.check, hw, hnm, hmo]
      | true =>
      rw [hmo] at HM
      by_cases e1 : 0 < l.length
      · have e1' : decide (0 < l.length) = true := decide_eq_true e1
        have e2' : decide ((l.length : Int) > 0) = true := decide_eq_true (by omega)
        go_enter Tryz.func25, Tryz.ntmps25
        go_wp2_with (first
          | (go_at_call 65; refine (HS.out _).mono ?_; rintro e9 w9 ⟨rfl, rfl⟩)
          | (go_at_call 67; refine (HM.out _).mono ?_; rintro e8 w8 ⟨rfl, hw8⟩; have hq8 := fun i => (hw8.blk (Blk.new w 40 _) (by simp)).cell i))
        go_ret
        refine ⟨ret_i ?_, HL.out.trans hw8⟩
        clear HS HM HL hq8 hw8
        simp [Cmd.check, Cmd.spare, hw, hnm, hmo, e1]
      have e1' : decide (0 < l.length) = false := decide_eq_false e1
      have e2' : decide ((l.length : Int) > 0) = false := decide_eq_false (by omega)
      by_cases x0 : ex = 0
      · subst x0
        go_enter Tryz.func25, Tryz.ntmps25
        go_wp2_with (first
          | (go_at_call 65; refine (HS.out _).mono ?_; rintro e9 w9 ⟨rfl, rfl⟩)
          | (go_at_call 67; refine (HM.out _).mono ?_; rintro e8 w8 ⟨rfl, hw8⟩; have hq8 := fun i => (hw8.blk (Blk.new w 40 _) (by simp)).cell i))
        go_ret
        refine ⟨ret_i ?_, HL.out.trans hw8⟩
        clear HS HM HL hq8 hw8
        simp [Cmd.check, Cmd.spare, hw, hnm, hmo, e1]
      · have x0' : (ex != 0) = true := by simpa using x0
        go_enter Tryz.func25, Tryz.ntmps25
        go_wp2_with (first
          | (go_at_call 65; refine (HS.out _).mono ?_; rintro e9 w9 ⟨rfl, rfl⟩)
          | (go_at_call 67; refine (HM.out _).mono ?_; rintro e8 w8 ⟨rfl, hw8⟩; have hq8 := fun i => (hw8.blk (Blk.new w 40 _) (by simp)).cell i))
        go_ret
        refine ⟨ret_i ?_, HL.out.trans hw8⟩
        clear HS HM HL hq8 hw8
        simp [Cmd.check, Cmd.spare, hw, hnm, hmo, e1, x0]
    · clear hk hO1 hs hel ho2 hk1
      by_cases t1 : time < 0
      · have t1' : decide (time < 0) = true := decide_eq_true t1
        go_enter Tryz.func25, Tryz.ntmps25
        go_wp2
        go_ret
        refine ⟨ret_i ?_, HL.out⟩
        clear HS HM HL
        simp [Cmd.check, within]; omega
      have t1' : decide (time < 0) = false := decide_eq_false t1
      by_cases t2 : time > 1099511627776
      · have t2' : decide (time > 1099511627776) = true := decide_eq_true t2
        go_enter Tryz.func25, Tryz.ntmps25
        go_wp2
        go_ret
        refine ⟨ret_i ?_, HL.out⟩
        clear HS HM HL
        simp [Cmd.check, within]; omega
      have t2' : decide (time > 1099511627776) = false := decide_eq_false t2
      have hw : within time = true := by simp [within]; omega
      cases hnm : nameOk stream with
      | false =>
        rw [hnm] at HS
        go_enter Tryz.func25, Tryz.ntmps25
        go_wp2_with (go_at_call 65; refine (HS.out _).mono ?_; rintro e9 w9 ⟨rfl, rfl⟩)
        go_ret
        refine ⟨ret_i ?_, HL.out⟩
        clear HS HM HL
        simp [Cmd.check, hw, hnm]
      | true =>
      rw [hnm] at HS
      by_cases x1 : ex = -1
      · subst x1
        have hx : expects (-1) = true := by decide
        by_cases e1 : 0 < l.length
        · have e1' : decide (0 < l.length) = true := decide_eq_true e1
          have e2' : decide ((l.length : Int) > 0) = true := decide_eq_true (by omega)
          go_enter Tryz.func25, Tryz.ntmps25
          go_wp2_with (go_at_call 65; refine (HS.out _).mono ?_; rintro e9 w9 ⟨rfl, rfl⟩)
          go_ret
          refine ⟨ret_i ?_, HL.out⟩
          clear HS HM HL
          simp [Cmd.check, Cmd.spare, hw, hnm, hx, e1]
        have e1' : decide (0 < l.length) = false := decide_eq_false e1
        have e2' : decide ((l.length : Int) > 0) = false := decide_eq_false (by omega)
        by_cases m1 : a = 0
        · subst m1
          by_cases m2 : b = 0
          · subst m2
            by_cases m3 : d = 0
            · subst m3
              go_enter Tryz.func25, Tryz.ntmps25
              go_wp2_with (go_at_call 65; refine (HS.out _).mono ?_; rintro e9 w9 ⟨rfl, rfl⟩)
              go_ret
              refine ⟨ret_i ?_, HL.out⟩
              clear HS HM HL
              simp [Cmd.check, Cmd.spare, hw, hnm, hx, e1, MetaR.zero]
            · have m3' : (d == 0) = false := by simpa using m3
              go_enter Tryz.func25, Tryz.ntmps25
              go_wp2_with (go_at_call 65; refine (HS.out _).mono ?_; rintro e9 w9 ⟨rfl, rfl⟩)
              go_ret
              refine ⟨ret_i ?_, HL.out⟩
              clear HS HM HL
              simp [Cmd.check, Cmd.spare, hw, hnm, hx, e1, MetaR.zero, m3]
          · have m2' : (b == 0) = false := by simpa using m2
            go_enter Tryz.func25, Tryz.ntmps25
            go_wp2_with (go_at_call 65; refine (HS.out _).mono ?_; rintro e9 w9 ⟨rfl, rfl⟩)
            go_ret
            refine ⟨ret_i ?_, HL.out⟩
            clear HS HM HL
            simp [Cmd.check, Cmd.spare, hw, hnm, hx, e1, MetaR.zero, m2]
        · have m1' : (a == 0) = false := by simpa using m1
          go_enter Tryz.func25, Tryz.ntmps25
          go_wp2_with (go_at_call 65; refine (HS.out _).mono ?_; rintro e9 w9 ⟨rfl, rfl⟩)
          go_ret
          refine ⟨ret_i ?_, HL.out⟩
          clear HS HM HL
          simp [Cmd.check, Cmd.spare, hw, hnm, hx, e1, MetaR.zero, m1]
      have b1 : (ex != -1) = true := by rw [bne_iff_ne]; exact x1
      by_cases x2 : ex = -2
      · subst x2
        have hx : expects (-2) = true := by decide
        by_cases e1 : 0 < l.length
        · have e1' : decide (0 < l.length) = true := decide_eq_true e1
          have e2' : decide ((l.length : Int) > 0) = true := decide_eq_true (by omega)
          go_enter Tryz.func25, Tryz.ntmps25
          go_wp2_with (go_at_call 65; refine (HS.out _).mono ?_; rintro e9 w9 ⟨rfl, rfl⟩)
          go_ret
          refine ⟨ret_i ?_, HL.out⟩
          clear HS HM HL
          simp [Cmd.check, Cmd.spare, hw, hnm, hx, e1]
        have e1' : decide (0 < l.length) = false := decide_eq_false e1
        have e2' : decide ((l.length : Int) > 0) = false := decide_eq_false (by omega)
        by_cases m1 : a = 0
        · subst m1
          by_cases m2 : b = 0
          · subst m2
            by_cases m3 : d = 0
            · subst m3
              go_enter Tryz.func25, Tryz.ntmps25
              go_wp2_with (go_at_call 65; refine (HS.out _).mono ?_; rintro e9 w9 ⟨rfl, rfl⟩)
              go_ret
              refine ⟨ret_i ?_, HL.out⟩
              clear HS HM HL
              simp [Cmd.check, Cmd.spare, hw, hnm, hx, e1, MetaR.zero]
            · have m3' : (d == 0) = false := by simpa using m3
              go_enter Tryz.func25, Tryz.ntmps25
              go_wp2_with (go_at_call 65; refine (HS.out _).mono ?_; rintro e9 w9 ⟨rfl, rfl⟩)
              go_ret
              refine ⟨ret_i ?_, HL.out⟩
              clear HS HM HL
              simp [Cmd.check, Cmd.spare, hw, hnm, hx, e1, MetaR.zero, m3]
          · have m2' : (b == 0) = false := by simpa using m2
            go_enter Tryz.func25, Tryz.ntmps25
            go_wp2_with (go_at_call 65; refine (HS.out _).mono ?_; rintro e9 w9 ⟨rfl, rfl⟩)
            go_ret
            refine ⟨ret_i ?_, HL.out⟩
            clear HS HM HL
            simp [Cmd.check, Cmd.spare, hw, hnm, hx, e1, MetaR.zero, m2]
        · have m1' : (a == 0) = false := by simpa using m1
          go_enter Tryz.func25, Tryz.ntmps25
          go_wp2_with (go_at_call 65; refine (HS.out _).mono ?_; rintro e9 w9 ⟨rfl, rfl⟩)
          go_ret
          refine ⟨ret_i ?_, HL.out⟩
          clear HS HM HL
          simp [Cmd.check, Cmd.spare, hw, hnm, hx, e1, MetaR.zero, m1]
      have b2 : (ex != -2) = true := by rw [bne_iff_ne]; exact x2
      by_cases x4 : ex = -4
      · subst x4
        have hx : expects (-4) = true := by decide
        by_cases e1 : 0 < l.length
        · have e1' : decide (0 < l.length) = true := decide_eq_true e1
          have e2' : decide ((l.length : Int) > 0) = true := decide_eq_true (by omega)
          go_enter Tryz.func25, Tryz.ntmps25
          go_wp2_with (go_at_call 65; refine (HS.out _).mono ?_; rintro e9 w9 ⟨rfl, rfl⟩)
          go_ret
          refine ⟨ret_i ?_, HL.out⟩
          clear HS HM HL
          simp [Cmd.check, Cmd.spare, hw, hnm, hx, e1]
        have e1' : decide (0 < l.length) = false := decide_eq_false e1
        have e2' : decide ((l.length : Int) > 0) = false := decide_eq_false (by omega)
        by_cases m1 : a = 0
        · subst m1
          by_cases m2 : b = 0
          · subst m2
            by_cases m3 : d = 0
            · subst m3
              go_enter Tryz.func25, Tryz.ntmps25
              go_wp2_with (go_at_call 65; refine (HS.out _).mono ?_; rintro e9 w9 ⟨rfl, rfl⟩)
              go_ret
              refine ⟨ret_i ?_, HL.out⟩
              clear HS HM HL
              simp [Cmd.check, Cmd.spare, hw, hnm, hx, e1, MetaR.zero]
            · have m3' : (d == 0) = false := by simpa using m3
              go_enter Tryz.func25, Tryz.ntmps25
              go_wp2_with (go_at_call 65; refine (HS.out _).mono ?_; rintro e9 w9 ⟨rfl, rfl⟩)
              go_ret
              refine ⟨ret_i ?_, HL.out⟩
              clear HS HM HL
              simp [Cmd.check, Cmd.spare, hw, hnm, hx, e1, MetaR.zero, m3]
          · have m2' : (b == 0) = false := by simpa using m2
            go_enter Tryz.func25, Tryz.ntmps25
            go_wp2_with (go_at_call 65; refine (HS.out _).mono ?_; rintro e9 w9 ⟨rfl, rfl⟩)
            go_ret
            refine ⟨ret_i ?_, HL.out⟩
            clear HS HM HL
            simp [Cmd.check, Cmd.spare, hw, hnm, hx, e1, MetaR.zero, m2]
        · have m1' : (a == 0) = false := by simpa using m1
          go_enter Tryz.func25, Tryz.ntmps25
          go_wp2_with (go_at_call 65; refine (HS.out _).mono ?_; rintro e9 w9 ⟨rfl, rfl⟩)
          go_ret
          refine ⟨ret_i ?_, HL.out⟩
          clear HS HM HL
          simp [Cmd.check, Cmd.spare, hw, hnm, hx, e1, MetaR.zero, m1]
      have b4 : (ex != -4) = true := by rw [bne_iff_ne]; exact x4
      by_cases y1 : ex < 0
      · have y1' : decide (ex < 0) = true := decide_eq_true y1
        have hx : expects ex = false := by simp [expects, within, x1, x2, x4]; omega
        go_enter Tryz.func25, Tryz.ntmps25
        go_wp2_with (go_at_call 65; refine (HS.out _).mono ?_; rintro e9 w9 ⟨rfl, rfl⟩)
        go_ret
        refine ⟨ret_i ?_, HL.out⟩
        clear HS HM HL
        simp [Cmd.check, hw, hnm, hx]
      have y1' : decide (ex < 0) = false := decide_eq_false y1
      by_cases y2 : ex > 1099511627776
      · have y2' : decide (ex > 1099511627776) = true := decide_eq_true y2
        have hx : expects ex = false := by simp [expects, within, x1, x2, x4]; omega
        go_enter Tryz.func25, Tryz.ntmps25
        go_wp2_with (go_at_call 65; refine (HS.out _).mono ?_; rintro e9 w9 ⟨rfl, rfl⟩)
        go_ret
        refine ⟨ret_i ?_, HL.out⟩
        clear HS HM HL
        simp [Cmd.check, hw, hnm, hx]
      have y2' : decide (ex > 1099511627776) = false := decide_eq_false y2
      have hx : expects ex = true := by simp [expects, within]; omega
      by_cases e1 : 0 < l.length
      · have e1' : decide (0 < l.length) = true := decide_eq_true e1
        have e2' : decide ((l.length : Int) > 0) = true := decide_eq_true (by omega)
        go_enter Tryz.func25, Tryz.ntmps25
        go_wp2_with (go_at_call 65; refine (HS.out _).mono ?_; rintro e9 w9 ⟨rfl, rfl⟩)
        go_ret
        refine ⟨ret_i ?_, HL.out⟩
        clear HS HM HL
        simp [Cmd.check, Cmd.spare, hw, hnm, hx, e1]
      have e1' : decide (0 < l.length) = false := decide_eq_false e1
      have e2' : decide ((l.length : Int) > 0) = false := decide_eq_false (by omega)
      by_cases m1 : a = 0
      · subst m1
        by_cases m2 : b = 0
        · subst m2
          by_cases m3 : d = 0
          · subst m3
            go_enter Tryz.func25, Tryz.ntmps25
            go_wp2_with (go_at_call 65; refine (HS.out _).mono ?_; rintro e9 w9 ⟨rfl, rfl⟩)
            go_ret
            refine ⟨ret_i ?_, HL.out⟩
            clear HS HM HL
            simp [Cmd.check, Cmd.spare, hw, hnm, hx, e1, MetaR.zero]
          · have m3' : (d == 0) = false := by simpa using m3
            go_enter Tryz.func25, Tryz.ntmps25
            go_wp2_with (go_at_call 65; refine (HS.out _).mono ?_; rintro e9 w9 ⟨rfl, rfl⟩)
            go_ret
            refine ⟨ret_i ?_, HL.out⟩
            clear HS HM HL
            simp [Cmd.check, Cmd.spare, hw, hnm, hx, e1, MetaR.zero, m3]
        · have m2' : (b == 0) = false := by simpa using m2
          go_enter Tryz.func25, Tryz.ntmps25
          go_wp2_with (go_at_call 65; refine (HS.out _).mono ?_; rintro e9 w9 ⟨rfl, rfl⟩)
          go_ret
          refine ⟨ret_i ?_, HL.out⟩
          clear HS HM HL
          simp [Cmd.check, Cmd.spare, hw, hnm, hx, e1, MetaR.zero, m2]
      · have m1' : (a == 0) = false := by simpa using m1
        go_enter Tryz.func25, Tryz.ntmps25
        go_wp2_with (go_at_call 65; refine (HS.out _).mono ?_; rintro e9 w9 ⟨rfl, rfl⟩)
        go_ret
        refine ⟨ret_i ?_, HL.out⟩
        clear HS HM HL
        simp [Cmd.check, Cmd.spare, hw, hnm, hx, e1, MetaR.zero, m1]
    · clear hk hO1 hs hel ho2 hk1
      by_cases t1 : time < 0
      · have t1' : decide (time < 0) = true := decide_eq_true t1
        go_enter Tryz.func25, Tryz.ntmps25
        go_wp2
        go_ret
        refine ⟨ret_i ?_, HL.out⟩
        clear HS HM HL
        simp [Cmd.check, within]; omega
      have t1' : decide (time < 0) = false := decide_eq_false t1
      by_cases t2 : time > 1099511627776
      · have t2' : decide (time > 1099511627776) = true := decide_eq_true t2
        go_enter Tryz.func25, Tryz.ntmps25
        go_wp2
        go_ret
        refine ⟨ret_i ?_, HL.out⟩
        clear HS HM HL
        simp [Cmd.check, within]; omega
      have t2' : decide (time > 1099511627776) = false := decide_eq_false t2
      have hw : within time = true := by simp [within]; omega
      by_cases e1 : 0 < l.length
      · have e1' : decide (0 < l.length) = true := decide_eq_true e1
        have e2' : decide ((l.length : Int) > 0) = true := decide_eq_true (by omega)
        go_enter Tryz.func25, Tryz.ntmps25
        go_wp2
        go_ret
        refine ⟨ret_i ?_, HL.out⟩
        clear HS HM HL
        simp [Cmd.check, Cmd.spare, hw, e1]
      have e1' : decide (0 < l.length) = false := decide_eq_false e1
      have e2' : decide ((l.length : Int) > 0) = false := decide_eq_false (by omega)
      by_cases m1 : a = 0
      · subst m1
        by_cases m2 : b = 0
        · subst m2
          by_cases m3 : d = 0
          · subst m3
            by_cases x0 : ex = 0
            · subst x0
              cases st : stream.toList.isEmpty with
              | true =>
                go_enter Tryz.func25, Tryz.ntmps25
                go_wp2
                go_ret
                refine ⟨ret_i ?_, HL.out⟩
                clear HS HM HL
                simp [Cmd.check, Cmd.spare, hw, e1, MetaR.zero]; simpa using st
              | false =>
                go_enter Tryz.func25, Tryz.ntmps25
                go_wp2
                go_ret
                refine ⟨ret_i ?_, HL.out⟩
                clear HS HM HL
                simp [Cmd.check, Cmd.spare, hw, e1, MetaR.zero]; simpa using st
            · have x0' : (ex != 0) = true := by simpa using x0
              go_enter Tryz.func25, Tryz.ntmps25
              go_wp2
              go_ret
              refine ⟨ret_i ?_, HL.out⟩
              clear HS HM HL
              simp [Cmd.check, Cmd.spare, hw, e1, x0]
          · have m3' : (d == 0) = false := by simpa using m3
            go_enter Tryz.func25, Tryz.ntmps25
            go_wp2
            go_ret
            refine ⟨ret_i ?_, HL.out⟩
            clear HS HM HL
            simp [Cmd.check, Cmd.spare, hw, e1, MetaR.zero, m3]
        · have m2' : (b == 0) = false := by simpa using m2
          go_enter Tryz.func25, Tryz.ntmps25
          go_wp2
          go_ret
          refine ⟨ret_i ?_, HL.out⟩
          clear HS HM HL
          simp [Cmd.check, Cmd.spare, hw, e1, MetaR.zero, m2]
      · have m1' : (a == 0) = false := by simpa using m1
        go_enter Tryz.func25, Tryz.ntmps25
        go_wp2
        go_ret
        refine ⟨ret_i ?_, HL.out⟩
        clear HS HM HL
        simp [Cmd.check, Cmd.spare, hw, e1, MetaR.zero, m1]
    · clear hk hO1 hs hel ho2 hk1
      by_cases t1 : time < 0
      · have t1' : decide (time < 0) = true := decide_eq_true t1
        go_enter Tryz.func25, Tryz.ntmps25
        go_wp2
        go_ret
        refine ⟨ret_i ?_, HL.out⟩
        clear HS HM HL
        simp [Cmd.check, within]; omega
      have t1' : decide (time < 0) = false := decide_eq_false t1
      by_cases t2 : time > 1099511627776
      · have t2' : decide (time > 1099511627776) = true := decide_eq_true t2
        go_enter Tryz.func25, Tryz.ntmps25
        go_wp2
        go_ret
        refine ⟨ret_i ?_, HL.out⟩
        clear HS HM HL
        simp [Cmd.check, within]; omega
      have t2' : decide (time > 1099511627776) = false := decide_eq_false t2
      have hw : within time = true := by simp [within]; omega
      by_cases e1 : 0 < l.length
      · have e1' : decide (0 < l.length) = true := decide_eq_true e1
        have e2' : decide ((l.length : Int) > 0) = true := decide_eq_true (by omega)
        go_enter Tryz.func25, Tryz.ntmps25
        go_wp2
        go_ret
        refine ⟨ret_i ?_, HL.out⟩
        clear HS HM HL
        simp [Cmd.check, Cmd.spare, hw, e1]
      have e1' : decide (0 < l.length) = false := decide_eq_false e1
      have e2' : decide ((l.length : Int) > 0) = false := decide_eq_false (by omega)
      by_cases m1 : a = 0
      · subst m1
        by_cases m2 : b = 0
        · subst m2
          by_cases m3 : d = 0
          · subst m3
            by_cases x0 : ex = 0
            · subst x0
              cases st : stream.toList.isEmpty with
              | true =>
                go_enter Tryz.func25, Tryz.ntmps25
                go_wp2
                go_ret
                refine ⟨ret_i ?_, HL.out⟩
                clear HS HM HL
                simp [Cmd.check, Cmd.spare, hw, e1, MetaR.zero]; simpa using st
              | false =>
                go_enter Tryz.func25, Tryz.ntmps25
                go_wp2
                go_ret
                refine ⟨ret_i ?_, HL.out⟩
                clear HS HM HL
                simp [Cmd.check, Cmd.spare, hw, e1, MetaR.zero]; simpa using st
            · have x0' : (ex != 0) = true := by simpa using x0
              go_enter Tryz.func25, Tryz.ntmps25
              go_wp2
              go_ret
              refine ⟨ret_i ?_, HL.out⟩
              clear HS HM HL
              simp [Cmd.check, Cmd.spare, hw, e1, x0]
          · have m3' : (d == 0) = false := by simpa using m3
            go_enter Tryz.func25, Tryz.ntmps25
            go_wp2
            go_ret
            refine ⟨ret_i ?_, HL.out⟩
            clear HS HM HL
            simp [Cmd.check, Cmd.spare, hw, e1, MetaR.zero, m3]
        · have m2' : (b == 0) = false := by simpa using m2
          go_enter Tryz.func25, Tryz.ntmps25
          go_wp2
          go_ret
          refine ⟨ret_i ?_, HL.out⟩
          clear HS HM HL
          simp [Cmd.check, Cmd.spare, hw, e1, MetaR.zero, m2]
      · have m1' : (a == 0) = false := by simpa using m1
        go_enter Tryz.func25, Tryz.ntmps25
        go_wp2
        go_ret
        refine ⟨ret_i ?_, HL.out⟩
        clear HS HM HL
        simp [Cmd.check, Cmd.spare, hw, e1, MetaR.zero, m1]
  · have hck : (Cmd.mk kind time stream ex l ⟨a, b, d⟩).check = 1 := by unfold Cmd.check; rw [if_pos (by simp only []; omega)]
    rw [hck]
    clear hck hO1 hs hel ho2
    go_enter Tryz.func25, Tryz.ntmps25
    go_wp2
    all_goals
      go_ret
      exact ⟨rfl, HL.out⟩
end Go.Proofs.YteinoiicnmemhaaGreatDoor
/- Contracts: the document's Check (chronicleref7) of an append; of every command. -/
set_option linter.unusedVariables false
set_option linter.unusedSimpArgs false
namespace Go.Proofs.YteinoiicnmemhaaGreatDoor
open Go Go.RowKit Go.Sort
theorem eventsE_bad {l : List EventR} {k : Nat} (h1 : 0 < l.length) (h8 : l.length ≤ 8) (hk : k < l.length) (hb : l[k].ok = false) : eventsE l = 1 := by
  unfold eventsE
  rw [if_neg (by omega), if_neg (by omega), if_neg]
  intro q
  have := List.all_eq_true.1 q _ (List.getElem_mem hk)
  rw [hb] at this
  cases this
theorem eventsE_good {l : List EventR} (h1 : 0 < l.length) (h8 : l.length ≤ 8) (h : l.all EventR.ok = true) : eventsE l = 0 := by
  unfold eventsE
  rw [if_neg (by omega), if_neg (by omega), if_pos h]
set_option maxRecDepth 100000 in
set_option maxHeartbeats 8000000 in
theorem r7check_1 (time : Int) (stream : ByteArray) (ex : Int) (l : List EventR) (a b d : Int) (v : Value) (w : World) (hs : Slc w 4 v l.length (l.flatMap EventR.cells)) (ho1 : stream.size ≤ maxLen) (ho2 : EvsOk l) :
    Calls Tryz.prog 25 #[.agg #[.int .i64 1, .int .i64 time, .string stream, .int .i64 ex, v, .int .i64 a, .int .i64 b, .int .i64 d]] w fun e w' => e = .returned (.int .i64 (Cmd.mk 1 time stream ex l ⟨a, b, d⟩).check) ∧ Only [] w w' := by
  obtain ⟨A, cap, rfl, hnc, hcm, hel⟩ := hs.openE EventR.cells (fun _ => rfl)
  have hl : l.length ≤ 9223372036854775807 := by unfold maxLen at hcm; exact Nat.le_trans hnc (by omega)
  have HS := Lib.hid (fun W => r1stream_any stream W ho1)
  have HM := Lib.hid (trivial : True)
  obtain ⟨W1, hW1⟩ : ∃ W1, W1 = w.alloc (.cells #[.int .i64 1, .int .i64 time, .string stream, .int .i64 ex, .slice A l.length cap, .int .i64 a, .int .i64 b, .int .i64 d] 40) := ⟨_, rfl⟩
  have hB := Blk.new w 40 #[.int .i64 1, .int .i64 time, .string stream, .int .i64 ex, .slice A l.length cap, .int .i64 a, .int .i64 b, .int .i64 d]
  have hO1 := (Only.refl [] w).alloc (.cells #[.int .i64 1, .int .i64 time, .string stream, .int .i64 ex, .slice A l.length cap, .int .i64 a, .int .i64 b, .int .i64 d] 40)
  have HL := Lib.hid hO1
  rw [← hW1] at hB
  have hO1' : Only [] w W1 := by rw [hW1]; exact hO1
  have HW := Lib.hid hW1
  have HEv := Lib.hid ho2
  clear hW1 hO1 hs hcm ho2
  by_cases t1 : time < 0
  · have t1' : decide (time < 0) = true := decide_eq_true t1
    go_enter Tryz.func25, Tryz.ntmps25
    go_wp2
    go_ret
    refine ⟨ret_i ?_, HL.out⟩
    clear HS HM HL
    simp [Cmd.check, within]; omega
  have t1' : decide (time < 0) = false := decide_eq_false t1
  by_cases t2 : time > 1099511627776
  · have t2' : decide (time > 1099511627776) = true := decide_eq_true t2
    go_enter Tryz.func25, Tryz.ntmps25
    go_wp2
    go_ret
    refine ⟨ret_i ?_, HL.out⟩
    clear HS HM HL
    simp [Cmd.check, within]; omega
  have t2' : decide (time > 1099511627776) = false := decide_eq_false t2
  have hw : within time = true := by simp [within]; omega
  cases hnm : nameOk stream with
  | false =>
    rw [hnm] at HS
    go_enter Tryz.func25, Tryz.ntmps25
    go_wp2_with (go_at_call 65; refine (HS.out _).mono ?_; rintro e9 w9 ⟨rfl, rfl⟩)
    go_ret
    refine ⟨ret_i ?_, HL.out⟩
    clear HS HM HL
    simp [Cmd.check, hw, hnm]
  | true =>
  rw [hnm] at HS
  by_cases e0 : l = []
  · subst e0
    go_enter Tryz.func25, Tryz.ntmps25
    go_wp2_with (go_at_call 65; refine (HS.out _).mono ?_; rintro e9 w9 ⟨rfl, rfl⟩)
    go_ret
    refine ⟨ret_i ?_, HL.out⟩
    clear HS HM HL
    simp [Cmd.check, hw, hnm, eventsE]
  have e0' : 0 < l.length := by cases l with
    | nil => exact absurd rfl e0
    | cons x l => simp
  have e1 : ((l.length : Int) == 0) = false := by simp; exact e0
  by_cases e8 : 8 < l.length
  · have e8' : decide ((l.length : Int) > 8) = true := decide_eq_true (by omega)
    have hev : eventsE l = 2 := by unfold eventsE; rw [if_neg (by omega), if_pos e8]
    go_enter Tryz.func25, Tryz.ntmps25
    go_wp2_with (go_at_call 65; refine (HS.out _).mono ?_; rintro e9 w9 ⟨rfl, rfl⟩)
    go_ret
    refine ⟨ret_i ?_, HL.out⟩
    clear HS HM HL
    simp [Cmd.check, hw, hnm, hev]
  have e8' : decide ((l.length : Int) > 8) = false := decide_eq_false (by omega)
  go_enter Tryz.func25, Tryz.ntmps25
  go_wp2_with (go_at_call 65; refine (HS.out _).mono ?_; rintro e9 w9 ⟨rfl, rfl⟩)
  rw [← HW.out]
  go_loopw [3] (fun i wr => ∃ k : Nat, k ≤ l.length ∧ i = .int .i64 k ∧ Only [] W1 wr ∧ Hid ((l.take k).all EventR.ok = true)) (fun i _ => l.length - (intOf i).toNat)
  case atStart => exact ⟨0, Nat.zero_le _, rfl, Only.refl _ _, Lib.hid (by simp)⟩
  case round =>
    obtain ⟨k, hk, rfl, hO, hall⟩ := hrel
    have hq := fun i => (hO.blk hB (by simp)).cell i
    by_cases hlt : k < l.length
    · obtain ⟨bb, off, rfl, hbb, hcc⟩ := hel k hlt
      have htk := all_takeE (l := l) (f := EventR.ok) k hlt
      have hev := HEv.out _ (List.getElem_mem hlt)
      have hbad := fun hb => eventsE_bad e0' (by omega) hlt hb
      obtain ⟨x, hx⟩ : ∃ x, l[k] = x := ⟨_, rfl⟩
      rw [hx] at hcc htk hev hbad
      have hOw : Only [] w wr := hO1'.trans hO
      have c0 : wr.cell? ⟨bb, off + k * 4, none⟩ = some (.int .i64 x.id) := (hOw.cell (p := ⟨bb, off + k * 4, none⟩) hbb (by simp)).trans (hcc 0 (by omega))
      have c1 : wr.cell? ⟨bb, off + k * 4 + 1, none⟩ = some (.string x.type) := (hOw.cell (p := ⟨bb, off + k * 4 + 1, none⟩) hbb (by simp)).trans (hcc 1 (by omega))
      have c2 : wr.cell? ⟨bb, off + k * 4 + 2, none⟩ = some (.string x.data) := (hOw.cell (p := ⟨bb, off + k * 4 + 2, none⟩) hbb (by simp)).trans (hcc 2 (by omega))
      have c3 : wr.cell? ⟨bb, off + k * 4 + 3, none⟩ = some (.float .f64 x.value) := (hOw.cell (p := ⟨bb, off + k * 4 + 3, none⟩) hbb (by simp)).trans (hcc 3 (by omega))
      have HV := Lib.hid fun (W : World) => r7validE_any x W hev
      clear hcc hx hev
      cases hb : x.ok with
      | false =>
        rw [hb] at HV
        have hev := hbad hb
        have HR : Hid ((Cmd.mk 1 time stream ex l ⟨a, b, d⟩).check = 1) := by simp [Hid, Cmd.check, hw, hnm, hev]
        clear hbad htk hb hev
        go_wp2_with (go_at_call 66; refine (HV.out _).mono ?_; rintro e8 w8 ⟨rfl, hw8⟩)
        go_ret
        exact ⟨ret_i HR.out.symm, hOw.trans hw8⟩
      | true =>
        rw [hb] at HV
        have hn : Hid ((l.take (k + 1)).all EventR.ok = true) := by unfold Hid; rw [htk, hall.out, hb]; rfl
        clear hbad htk hb hall
        go_wp2_with (go_at_call 66; refine (HV.out _).mono ?_; rintro e8 w8 ⟨rfl, hw8⟩)
        go_round
        case rel => exact ⟨k + 1, hlt, by simp, hO.trans hw8, hn⟩
        case measure => simp [intOf]; omega
    · have hkl : k = l.length := by omega
      have hall' : l.all EventR.ok = true := by
        have := hall.out
        rw [List.take_of_length_le (by omega)] at this
        exact this
      have hev : eventsE l = 0 := eventsE_good e0' (by omega) hall'
      have HO2 := Lib.hid (hO1'.trans hO)
      have HV := Lib.hid (trivial : True)
      have hkd : decide ((k : Int) < (l.length : Int)) = false := decide_eq_false (by omega)
      have hkd2 : decide (k < l.length) = false := decide_eq_false (by omega)
      clear hall hall' hel hB hO1' hO HEv hk hlt hkl e0 e0' e8
      by_cases x1 : ex = -1
      · subst x1
        have hx : expects (-1) = true := by decide
        by_cases m1 : a = 0
        · subst m1
          by_cases m2 : b = 0
          · subst m2
            by_cases m3 : d = 0
            · subst m3
              go_wp2
              go_ret
              refine ⟨ret_i ?_, HO2.out⟩
              clear HS HV HL HO2 hq
              simp [Cmd.check, Cmd.spare, hw, hnm, hx, hev, MetaR.zero]
            · have m3' : (d == 0) = false := by simpa using m3
              go_wp2
              go_ret
              refine ⟨ret_i ?_, HO2.out⟩
              clear HS HV HL HO2 hq
              simp [Cmd.check, Cmd.spare, hw, hnm, hx, hev, MetaR.zero, m3]
          · have m2' : (b == 0) = false := by simpa using m2
            go_wp2
            go_ret
            refine ⟨ret_i ?_, HO2.out⟩
            clear HS HV HL HO2 hq
            simp [Cmd.check, Cmd.spare, hw, hnm, hx, hev, MetaR.zero, m2]
        · have m1' : (a == 0) = false := by simpa using m1
          go_wp2
          go_ret
          refine ⟨ret_i ?_, HO2.out⟩
          clear HS HV HL HO2 hq
          simp [Cmd.check, Cmd.spare, hw, hnm, hx, hev, MetaR.zero, m1]
      have b1 : (ex != -1) = true := by rw [bne_iff_ne]; exact x1
      by_cases x2 : ex = -2
      · subst x2
        have hx : expects (-2) = true := by decide
        by_cases m1 : a = 0
        · subst m1
          by_cases m2 : b = 0
          · subst m2
            by_cases m3 : d = 0
            · subst m3
              go_wp2
              go_ret
              refine ⟨ret_i ?_, HO2.out⟩
              clear HS HV HL HO2 hq
              simp [Cmd.check, Cmd.spare, hw, hnm, hx, hev, MetaR.zero]
            · have m3' : (d == 0) = false := by simpa using m3
              go_wp2
              go_ret
              refine ⟨ret_i ?_, HO2.out⟩
              clear HS HV HL HO2 hq
              simp [Cmd.check, Cmd.spare, hw, hnm, hx, hev, MetaR.zero, m3]
          · have m2' : (b == 0) = false := by simpa using m2
            go_wp2
            go_ret
            refine ⟨ret_i ?_, HO2.out⟩
            clear HS HV HL HO2 hq
            simp [Cmd.check, Cmd.spare, hw, hnm, hx, hev, MetaR.zero, m2]
        · have m1' : (a == 0) = false := by simpa using m1
          go_wp2
          go_ret
          refine ⟨ret_i ?_, HO2.out⟩
          clear HS HV HL HO2 hq
          simp [Cmd.check, Cmd.spare, hw, hnm, hx, hev, MetaR.zero, m1]
      have b2 : (ex != -2) = true := by rw [bne_iff_ne]; exact x2
      by_cases x4 : ex = -4
      · subst x4
        have hx : expects (-4) = true := by decide
        by_cases m1 : a = 0
        · subst m1
          by_cases m2 : b = 0
          · subst m2
            by_cases m3 : d = 0
            · subst m3
              go_wp2
              go_ret
              refine ⟨ret_i ?_, HO2.out⟩
              clear HS HV HL HO2 hq
              simp [Cmd.check, Cmd.spare, hw, hnm, hx, hev, MetaR.zero]
            · have m3' : (d == 0) = false := by simpa using m3
              go_wp2
              go_ret
              refine ⟨ret_i ?_, HO2.out⟩
              clear HS HV HL HO2 hq
              simp [Cmd.check, Cmd.spare, hw, hnm, hx, hev, MetaR.zero, m3]
          · have m2' : (b == 0) = false := by simpa using m2
            go_wp2
            go_ret
            refine ⟨ret_i ?_, HO2.out⟩
            clear HS HV HL HO2 hq
            simp [Cmd.check, Cmd.spare, hw, hnm, hx, hev, MetaR.zero, m2]
        · have m1' : (a == 0) = false := by simpa using m1
          go_wp2
          go_ret
          refine ⟨ret_i ?_, HO2.out⟩
          clear HS HV HL HO2 hq
          simp [Cmd.check, Cmd.spare, hw, hnm, hx, hev, MetaR.zero, m1]
      have b4 : (ex != -4) = true := by rw [bne_iff_ne]; exact x4
      by_cases y1 : ex < 0
      · have y1' : decide (ex < 0) = true := decide_eq_true y1
        have hx : expects ex = false := by simp [expects, within, x1, x2, x4]; omega
        go_wp2
        go_ret
        refine ⟨ret_i ?_, HO2.out⟩
        clear HS HV HL HO2 hq
        simp [Cmd.check, hw, hnm, hev, hx]
      have y1' : decide (ex < 0) = false := decide_eq_false y1
      by_cases y2 : ex > 1099511627776
      · have y2' : decide (ex > 1099511627776) = true := decide_eq_true y2
        have hx : expects ex = false := by simp [expects, within, x1, x2, x4]; omega
        go_wp2
        go_ret
        refine ⟨ret_i ?_, HO2.out⟩
        clear HS HV HL HO2 hq
        simp [Cmd.check, hw, hnm, hev, hx]
      have y2' : decide (ex > 1099511627776) = false := decide_eq_false y2
      have hx : expects ex = true := by simp [expects, within]; omega
      by_cases m1 : a = 0
      · subst m1
        by_cases m2 : b = 0
        · subst m2
          by_cases m3 : d = 0
          · subst m3
            go_wp2
            go_ret
            refine ⟨ret_i ?_, HO2.out⟩
            clear HS HV HL HO2 hq
            simp [Cmd.check, Cmd.spare, hw, hnm, hx, hev, MetaR.zero]
          · have m3' : (d == 0) = false := by simpa using m3
            go_wp2
            go_ret
            refine ⟨ret_i ?_, HO2.out⟩
            clear HS HV HL HO2 hq
            simp [Cmd.check, Cmd.spare, hw, hnm, hx, hev, MetaR.zero, m3]
        · have m2' : (b == 0) = false := by simpa using m2
          go_wp2
          go_ret
          refine ⟨ret_i ?_, HO2.out⟩
          clear HS HV HL HO2 hq
          simp [Cmd.check, Cmd.spare, hw, hnm, hx, hev, MetaR.zero, m2]
      · have m1' : (a == 0) = false := by simpa using m1
        go_wp2
        go_ret
        refine ⟨ret_i ?_, HO2.out⟩
        clear HS HV HL HO2 hq
        simp [Cmd.check, Cmd.spare, hw, hnm, hx, hev, MetaR.zero, m1]
theorem r7check_any (c : Cmd) (v : Value) (w : World) (hs : Slc w 4 v c.events.length (c.events.flatMap EventR.cells)) (ho : CmdOk c) :
    Calls Tryz.prog 25 #[c.val v] w fun e w' => e = .returned (.int .i64 c.check) ∧ Only [] w w' := by
  by_cases hk : c.kind = 1
  · obtain ⟨kind, time, stream, ex, l, ⟨a, b, d⟩⟩ := c
    have hk : kind = 1 := hk
    subst hk
    exact r7check_1 time stream ex l a b d v w hs ho.stream ho.evs
  · exact r7check_not1 c hk v w hs ho
end Go.Proofs.YteinoiicnmemhaaGreatDoor
/- The document's state, for its Do: what stays fine, what a step keeps, plain lemmas of the loops. -/
set_option linter.unusedVariables false
set_option linter.unusedSimpArgs false
namespace Go.Proofs.YteinoiicnmemhaaGreatDoor
open Go Go.RowKit Go.Sort
section
variable {a w w' : World} {H H' : List Nat} {rb : Nat} {r : RS} {vl vs : Value}
theorem Stepped.keepB (h : Stepped w w' H H') {g : Nat} {t : TypeId} {cur : Array Value} (hb : Blk w g t cur) (hn : g ∉ H) : Blk w' g t cur ∧ g ∉ H' := by
  obtain ⟨⟨S, h1, h2⟩, h3⟩ := h
  refine ⟨h1.blk hb (fun q => hn (h2 g q)), fun q => ?_⟩
  rcases h3 g q with y | y
  · exact hn y
  · exact absurd hb.lt (by omega)
theorem Stepped.keepS (h : Stepped w w' H H') {size n : Nat} {v : Value} {cs : List Value} (hs : Slc w size v n cs) (hn : ∀ g, v.ownBlock = some g → g ∉ H) : Slc w' size v n cs := by
  obtain ⟨⟨S, h1, h2⟩, h3⟩ := h
  exact hs.only h1 (fun b q z => hn b q (h2 b z))
theorem Stepped.setB (h : Stepped w w' H H') {g k : Nat} {u : Value} (hg : w.heap.size ≤ g) : Stepped w (w'.setCell ⟨g, k, none⟩ u) H H' := by
  obtain ⟨⟨S, h1, h2⟩, h3⟩ := h
  exact ⟨⟨S, h1.setCell (.inr hg) _, h2⟩, h3⟩
theorem HasD.setB (h : HasD a w H rb r) {g k : Nat} {u : Value} (hg : g ∉ H) (ha : a.heap.size ≤ g) : HasD a (w.setCell ⟨g, k, none⟩ u) H rb r :=
  h.keep (S := [g]) ((Only.refl _ _).setCell (.inl (by simp)) _) (by simpa using ha) (fun b hb => by simp; exact fun e => hg (e ▸ hb))
theorem HasD.setNow (h : HasD a w H rb r) (t : Int) : HasD a (w.setCell ⟨rb, 2, none⟩ (.int .i64 t)) H rb { r with now := t } ∧ Stepped w (w.setCell ⟨rb, 2, none⟩ (.int .i64 t)) H H := by
  obtain ⟨⟨vl, vs, hA, rfl⟩, ho, hab⟩ := h
  have hne := hA.ne
  have ks : Only [rb] w (w.setCell ⟨rb, 2, none⟩ (.int .i64 t)) := (Only.refl _ _).setCell (.inl (by simp)) _
  have hrb : a.heap.size ≤ rb := hab rb (by simp [hD])
  refine ⟨⟨⟨vl, vs, ⟨hA.blk.set 2 _, ?_, ?_⟩, rfl⟩, ho.setCell (.inr hrb) _, hab⟩, Stepped.of ks (by simp [hD]) (fun b hb => .inl hb)⟩
  · exact own_only hA.l ks (fun g hg hm => hne.1 g hg (List.mem_singleton.1 hm))
  · exact own_only hA.s ks (fun g hg hm => hne.2.1 g hg (List.mem_singleton.1 hm))
theorem HasD.setDone (h : HasD a w H rb r) (t : Int) : HasD a (w.setCell ⟨rb, 3, none⟩ (.int .i64 t)) H rb { r with done := t } ∧ Stepped w (w.setCell ⟨rb, 3, none⟩ (.int .i64 t)) H H := by
  obtain ⟨⟨vl, vs, hA, rfl⟩, ho, hab⟩ := h
  have hne := hA.ne
  have ks : Only [rb] w (w.setCell ⟨rb, 3, none⟩ (.int .i64 t)) := (Only.refl _ _).setCell (.inl (by simp)) _
  have hrb : a.heap.size ≤ rb := hab rb (by simp [hD])
  refine ⟨⟨⟨vl, vs, ⟨hA.blk.set 3 _, ?_, ?_⟩, rfl⟩, ho.setCell (.inr hrb) _, hab⟩, Stepped.of ks (by simp [hD]) (fun b hb => .inl hb)⟩
  · exact own_only hA.l ks (fun g hg hm => hne.1 g hg (List.mem_singleton.1 hm))
  · exact own_only hA.s ks (fun g hg hm => hne.2.1 g hg (List.mem_singleton.1 hm))
theorem DTo.setL {v' : Value} {w5 : World} {base : Nat} {l' : List StoredR} (h : HasD a w (hD rb vl vs) rb r) (hA : DocAt w rb vl vs r) (k : Only [] w w5) (hown : w5.ownsRow base 92 8 v' l'.length (l'.flatMap StoredR.cells)) (hb : w.heap.size ≤ base) :
    DTo a w (hD rb vl vs) rb { r with l := l' } (w5.setCell ⟨rb, 0, none⟩ v') := by
  have hne := hA.ne
  have hrb := hA.blk.lt
  have ks : Only [rb] w5 (w5.setCell ⟨rb, 0, none⟩ v') := (Only.refl _ _).setCell (.inl (by simp)) _
  refine hasD_of h ⟨(k.blk hA.blk (by simp)).set 0 v', ?_, ?_⟩ ?_
  · exact own_only (own_base hown (Nat.zero_le _)) ks (fun g hg hm => by
      have := (hown.lt g hg).1
      rw [List.mem_singleton.1 hm] at this
      omega)
  · exact own_only (own_only hA.s k (by simp)) ks (fun g hg hm => hne.2.1 g hg (List.mem_singleton.1 hm))
  · refine Stepped.of (S := [rb]) (k.of_nil.trans ks) (fun b hb => by rw [List.mem_singleton.1 hb]; simp [hD]) (fun b hb2 => ?_)
    simp only [hD, List.mem_cons, List.mem_append, Option.mem_toList] at hb2 ⊢
    rcases hb2 with e | e | e
    · exact .inl (.inl e)
    · have := (hown.lt b e).1
      exact .inr (by omega)
    · exact .inl (.inr (.inr e))
end
section
variable {r : RS}
theorem dfloor_bd (r : RS) (n : ByteArray) (h : r.l.length ≤ 1000000) : 0 ≤ r.floor n ∧ r.floor n ≤ 1000000 := by
  have h1 := floorE_bd (r.get n).mt (r.get n).kept r.now ((r.of n).map (·.time))
  have h2 : (r.of n).length ≤ r.l.length := List.length_filter_le _ _
  rw [List.length_map] at h1
  unfold RS.floor
  omega
theorem RS.Fine.put (h : r.Fine) {x : DStr} (h1 : x.mt.ok = true) (h2 : 0 ≤ x.kept ∧ x.kept ≤ 1000000000) : (r.put x).Fine :=
  ⟨h.few, fun n => by rw [get_put]; split; exact h1; exact h.mt n, fun n => by rw [get_put]; split; exact h2; exact h.kept n, h.now⟩
theorem RS.Fine.keep (h : r.Fine) (n : ByteArray) : (r.keep n).Fine := by
  have hb := dfloor_bd r n h.few
  exact h.put (x := { r.get n with kept := r.floor n }) (h.mt n) ⟨hb.1, by dsimp only; omega⟩
theorem RS.Fine.tick (h : r.Fine) {t : Int} (ht : within t = true) : (r.tick t).Fine := by
  refine ⟨h.few, h.mt, h.kept, ?_⟩
  have := h.now
  simp [within] at ht
  show 0 ≤ max r.now t ∧ max r.now t ≤ 1099511627776
  omega
theorem RS.Fine.more (h : r.Fine) {l : List StoredR} (hl : l.length ≤ 1000000) : ({ r with l := l } : RS).Fine := ⟨hl, h.mt, h.kept, h.now⟩
theorem putD_len (l : List DStr) (x : DStr) : (putD l x).length ≤ l.length + 1 := by
  induction l with
  | nil => simp [putD]
  | cons y l ih =>
    unfold putD
    split
    · simp
    · simp only [List.length_cons]; omega
theorem put_len (r : RS) (x : DStr) : (r.put x).s.length ≤ r.s.length + 1 := putD_len r.s x
theorem keep_len (r : RS) (n : ByteArray) : (r.keep n).s.length ≤ r.s.length + 1 := putD_len r.s _
theorem check_kind {c : Cmd} (h : c.check = 0) : 1 ≤ c.kind ∧ c.kind ≤ 5 ∧ within c.time = true := by
  unfold Cmd.check at h
  by_cases q : c.kind < 1 ∨ 5 < c.kind ∨ within c.time = false
  · rw [if_pos q] at h
    cases h
  · refine ⟨by omega, by omega, ?_⟩
    cases hw : within c.time with
    | true => rfl
    | false => exact absurd (.inr (.inr hw)) q
theorem check_evs {c : Cmd} (h : c.check = 0) (hk : c.kind = 1) : eventsE c.events = 0 := by
  obtain ⟨h1, h2, h3⟩ := check_kind h
  apply Classical.byContradiction
  intro hn
  unfold Cmd.check at h
  rw [if_neg (by rw [h3]; simp; omega)] at h
  by_cases q : c.kind ≤ 3 ∧ nameOk c.stream = false
  · rw [if_pos q] at h
    cases h
  · rw [if_neg q, if_pos ⟨hk, hn⟩] at h
    exact hn h
theorem check_mt {c : Cmd} (h : c.check = 0) (hk : c.kind = 2) : c.mt.ok = true := by
  obtain ⟨h1, h2, h3⟩ := check_kind h
  cases hm : c.mt.ok with
  | true => rfl
  | false =>
    unfold Cmd.check at h
    rw [if_neg (by rw [h3]; simp; omega)] at h
    by_cases q : c.kind ≤ 3 ∧ nameOk c.stream = false
    · rw [if_pos q] at h
      cases h
    · rw [if_neg q, if_neg (by omega), if_neg (by omega), if_pos ⟨hk, hm⟩] at h
      cases h
end
end Go.Proofs.YteinoiicnmemhaaGreatDoor
/- The place of a name among rising names, step by step (for the document's Streams). -/
set_option linter.unusedVariables false
set_option linter.unusedSimpArgs false
namespace Go.Proofs.YteinoiicnmemhaaGreatDoor
open Go Go.RowKit Go.Sort
end Go.Proofs.YteinoiicnmemhaaGreatDoor
/- Contract of the document's Streams. -/
set_option linter.unusedVariables false
set_option linter.unusedSimpArgs false
namespace Go.Proofs.YteinoiicnmemhaaGreatDoor
open Go Go.RowKit Go.Sort
theorem strs_one (l : List ByteArray) : ∀ u ∈ strs l, u.oneCell' = true := by
  intro u hu
  obtain ⟨x, _, rfl⟩ := List.mem_map.1 hu
  rfl
section
variable {a w : World} {H : List Nat} {rb : Nat} {r : RS}
end
end Go.Proofs.YteinoiicnmemhaaGreatDoor
/- A book of lists that are kept (texts, stored events), in memory. -/
set_option linter.unusedVariables false
set_option linter.unusedSimpArgs false
namespace Go.Proofs.YteinoiicnmemhaaGreatDoor
open Go.RowKit Go Go.Sort Go.Lib
def scs (l : List StoredR) : List Value := l.flatMap StoredR.cells
theorem scs_len (l : List StoredR) : (scs l).length = l.length * 8 := by
  unfold scs
  induction l with
  | nil => rfl
  | cons x l ih =>
    rw [List.flatMap_cons, List.length_append, ih, List.length_cons]
    have : (StoredR.cells x).length = 8 := rfl
    omega
theorem scs_one (l : List StoredR) : ∀ u ∈ scs l, u.oneCell' = true := stored_one l
def blocksV {α : Type} (L : List (Value × α)) : List Nat := L.flatMap fun p => p.1.ownBlock.toList
theorem mem_blocksV {α : Type} {L : List (Value × α)} {b : Nat} : b ∈ blocksV L ↔ ∃ p ∈ L, p.1.ownBlock = some b := by simp [blocksV]
theorem blocksV_app {α : Type} (L M : List (Value × α)) : blocksV (L ++ M) = blocksV L ++ blocksV M := by simp [blocksV]
/-- Rows of one's own beside each other. -/
structure Kpt (w : World) (e : TypeId) (L : List (Value × List Value)) : Prop where
  own : ∀ p ∈ L, w.ownsRow 0 e 1 p.1 p.2.length p.2
  nod : (blocksV L).Nodup
  lit : ∀ p ∈ L, ∃ A c, p.1 = .slice A p.2.length c
section
variable {w w' : World} {e : TypeId} {L M : List (Value × List Value)} {S : List Nat}
theorem Kpt.only (h : Kpt w e L) (k : Only S w w') (hd : ∀ b ∈ blocksV L, b ∉ S) : Kpt w' e L := ⟨fun p hp => own_only (h.own p hp) k (fun g hg => hd g (mem_blocksV.2 ⟨p, hp, hg⟩)), h.nod, h.lit⟩
theorem Kpt.lt (h : Kpt w e L) : ∀ b ∈ blocksV L, b < w.heap.size := fun b hb => by
  obtain ⟨p, hp, q⟩ := mem_blocksV.1 hb
  exact (World.ownsRow.lt (h.own p hp) b q).2
theorem Kpt.sub (h : Kpt w e (L ++ M)) : Kpt w e L ∧ Kpt w e M := by
  have hn := h.nod
  rw [blocksV_app] at hn
  obtain ⟨n1, n2, _⟩ := List.nodup_append.1 hn
  exact ⟨⟨fun p hp => h.own p (List.mem_append_left _ hp), n1, fun p hp => h.lit p (List.mem_append_left _ hp)⟩, ⟨fun p hp => h.own p (List.mem_append_right _ hp), n2, fun p hp => h.lit p (List.mem_append_right _ hp)⟩⟩
theorem Kpt.perm (h : Kpt w e L) (p : L.Perm M) : Kpt w e M := ⟨fun q hq => h.own q (p.mem_iff.2 hq), (List.Perm.flatMap_right _ p).nodup_iff.1 h.nod, fun q hq => h.lit q (p.mem_iff.2 hq)⟩
theorem Kpt.cons (h : Kpt w e L) {A : Option Addr} {c : Nat} {cs : List Value} (ho : w.ownsRow 0 e 1 (.slice A cs.length c) cs.length cs) (hf : ∀ b, (Value.slice A cs.length c).ownBlock = some b → b ∉ blocksV L) : Kpt w e ((.slice A cs.length c, cs) :: L) := by
  refine ⟨fun p hp => ?_, ?_, fun p hp => ?_⟩
  · rcases List.mem_cons.1 hp with rfl | hp
    · exact ho
    · exact h.own p hp
  · show ((Value.slice A cs.length c).ownBlock.toList ++ blocksV L).Nodup
    refine List.nodup_append.2 ⟨by cases (Value.slice A cs.length c).ownBlock <;> simp, h.nod, fun a ha b hb e => ?_⟩
    exact hf a (by simpa using ha) (by rw [e]; exact hb)
  · rcases List.mem_cons.1 hp with rfl | hp
    · exact ⟨A, c, rfl⟩
    · exact h.lit p hp
end
/-- Rows of one's own beside each other. -/
structure KpS (w : World) (L : List (Value × List StoredR)) : Prop where
  own : ∀ p ∈ L, w.ownsRow 0 92 8 p.1 p.2.length (scs p.2)
  nod : (blocksV L).Nodup
  lit : ∀ p ∈ L, ∃ A c, p.1 = .slice A p.2.length c
section
variable {w w' : World} {L M : List (Value × List StoredR)} {S : List Nat}
theorem KpS.only (h : KpS w L) (k : Only S w w') (hd : ∀ b ∈ blocksV L, b ∉ S) : KpS w' L := ⟨fun p hp => own_only (h.own p hp) k (fun g hg => hd g (mem_blocksV.2 ⟨p, hp, hg⟩)), h.nod, h.lit⟩
theorem KpS.lt (h : KpS w L) : ∀ b ∈ blocksV L, b < w.heap.size := fun b hb => by
  obtain ⟨p, hp, q⟩ := mem_blocksV.1 hb
  exact (World.ownsRow.lt (h.own p hp) b q).2
theorem KpS.sub (h : KpS w (L ++ M)) : KpS w L ∧ KpS w M := by
  have hn := h.nod
  rw [blocksV_app] at hn
  obtain ⟨n1, n2, _⟩ := List.nodup_append.1 hn
  exact ⟨⟨fun p hp => h.own p (List.mem_append_left _ hp), n1, fun p hp => h.lit p (List.mem_append_left _ hp)⟩, ⟨fun p hp => h.own p (List.mem_append_right _ hp), n2, fun p hp => h.lit p (List.mem_append_right _ hp)⟩⟩
theorem KpS.perm (h : KpS w L) (p : L.Perm M) : KpS w M := ⟨fun q hq => h.own q (p.mem_iff.2 hq), (List.Perm.flatMap_right _ p).nodup_iff.1 h.nod, fun q hq => h.lit q (p.mem_iff.2 hq)⟩
theorem KpS.cons (h : KpS w L) {A : Option Addr} {c : Nat} {cs : List StoredR} (ho : w.ownsRow 0 92 8 (.slice A cs.length c) cs.length (scs cs)) (hf : ∀ b, (Value.slice A cs.length c).ownBlock = some b → b ∉ blocksV L) : KpS w ((.slice A cs.length c, cs) :: L) := by
  refine ⟨fun p hp => ?_, ?_, fun p hp => ?_⟩
  · rcases List.mem_cons.1 hp with rfl | hp
    · exact ho
    · exact h.own p hp
  · show ((Value.slice A cs.length c).ownBlock.toList ++ blocksV L).Nodup
    refine List.nodup_append.2 ⟨by cases (Value.slice A cs.length c).ownBlock <;> simp, h.nod, fun a ha b hb e => ?_⟩
    exact hf a (by simpa using ha) (by rw [e]; exact hb)
  · rcases List.mem_cons.1 hp with rfl | hp
    · exact ⟨A, c, rfl⟩
    · exact h.lit p hp
end
section
variable {a w w' : World} {H H' S : List Nat} {bb : Nat} {vt vx vi vy : Value} {T X : List (Value × List Value)} {I Y : List (Value × List StoredR)}
end
end Go.Proofs.YteinoiicnmemhaaGreatDoor
/- One more list in the book: Stored. -/
set_option linter.unusedVariables false
set_option linter.unusedSimpArgs false
namespace Go.Proofs.YteinoiicnmemhaaGreatDoor
open Go.RowKit Go Go.Sort Go.Lib
end Go.Proofs.YteinoiicnmemhaaGreatDoor
/- One more list in the book: Texts. -/
set_option linter.unusedVariables false
set_option linter.unusedSimpArgs false
namespace Go.Proofs.YteinoiicnmemhaaGreatDoor
open Go.RowKit Go Go.Sort Go.Lib
end Go.Proofs.YteinoiicnmemhaaGreatDoor
/- An append leaves the old slice readable, as it was. -/
set_option linter.unusedVariables false
set_option linter.unusedSimpArgs false
namespace Go.Proofs.YteinoiicnmemhaaGreatDoor
open Go.RowKit Go Go.Sort
theorem run_app_old {P : Program} {w : World} (t ty : TypeId) (base : Nat) (e : TypeId) (z : Value) (size bytes : Nat) (ht : P.underlying t = some (.slice e)) (hi : (P.info? e).map (fun i => (i.zero, i.size, i.bytes)) = some (some z, size, bytes))
    (hzs : z.cells.size = size) (hsz : 0 < size) {v : Value} {n : Nat} {xs : List Value} (hown : w.ownsRow base e size v n xs) {u : Value} {m : Nat} {cells : List Value} (hsl : Slc w size u m cells)
    (h1 : ∀ u ∈ cells, u.oneCell' = true) (hb : (n + m) * bytes ≤ 140737488355328) (hm : n + m ≤ maxLen) (hbase : base ≤ w.heap.size) {v' : Value} {w' : World} (hr : (Builtin.append_ #[t, t] ty #[v, u]).run P w = .ok v' w')
    (hown' : w'.ownsRow base e size v' (n + m) (xs ++ cells)) : Slc w' size v n xs := by
  have hold := (Slc.of_own hown).1
  have hm2 := hm
  unfold maxLen at hm2
  obtain ⟨i, hi1, hi2, hi3, hi4⟩ := info_parts hi
  obtain ⟨B, c, rfl, hl, hc1, hc2, hc⟩ := hsl
  by_cases h0 : m = 0
  · subst h0
    obtain ⟨A, cap, rfl, hnc, _⟩ := own_form hown
    have hs : (Go.sizeOf e).run P w = .ok size w := by simp [Go.sizeOf, typeInfo, hi1, hi3]
    rw [run_append_zero w t e ty A B size n cap c ht hs hnc] at hr
    injection hr with _ e2
    rw [← e2]
    exact hold
  · obtain ⟨b, off, rfl, hb1, hcc⟩ := hc (by omega)
    have hnews : ∀ j x, cells[j]? = some x → w.cell? ((⟨b, off, none⟩ : Addr).add j) = some x := fun j x hx => by
      have hj : j < cells.length := (List.getElem?_eq_some_iff.1 hx).1
      rw [show ((⟨b, off, none⟩ : Addr).add j) = ⟨b, off + j, none⟩ by simp [Addr.add], hcc j hj, hx]
    rcases hown.2 with ⟨rfl, rfl⟩ | ⟨g, cap, cur, rfl, hbg, hg, hnc, hcm, hcs, htake⟩
    · have hx : xs = [] := List.eq_nil_of_length_eq_zero (by simpa using hown.1)
      subst hx
      exact Slc.nil _ _
    · subst hi3 hi4
      by_cases hroom : n + m ≤ cap
      · have hfit : n * i.size + cells.length ≤ cur.size := by rw [hl, hcs, ← Nat.add_mul]; exact Nat.mul_le_mul_right _ hroom
        have hr2 := run_append_room (P := P) w t ty e i ht hi1 g n cap cur hg ⟨b, off, none⟩ m c cells hl hnews h1 hroom hfit
        rw [hr2] at hr
        injection hr with e1 e2
        subst e1
        have hs := slc_take (Slc.of_own hown').1 (Nat.le_add_right n m)
        rwa [← hown.1, List.take_left] at hs
      · have holds : ∀ j u, xs[j]? = some u → w.cell? ((⟨g, 0, none⟩ : Addr).add j) = some u := hown.cells (g := g) rfl
        have hr2 := run_append_grow (P := P) w t ty e i z ht hi1 hi2 ⟨g, 0, none⟩ n cap xs hown.1 holds ⟨b, off, none⟩ m c cells hl hnews (by omega) (by omega) (growslice_fits (by omega) hb)
        rw [hr2] at hr
        injection hr with e1 e2
        rw [← e2]
        exact hold.only ((Only.refl [] w).drew.alloc _) (by simp)
theorem Kpt.set {w w' : World} {e : TypeId} {L : List (Value × List Value)} (h : Kpt w e L) {i : Nat} (hi : i < L.length) {cs : List Value} (hl : cs.length = L[i].2.length) (k : Only (L[i].1.ownBlock.toList) w w') (ho : w'.ownsRow 0 e 1 L[i].1 cs.length cs) : Kpt w' e (L.set i (L[i].1, cs)) := by
  have hsp : L = L.take i ++ L[i] :: L.drop (i + 1) := by
    conv => lhs; rw [← List.take_append_drop i L, List.drop_eq_getElem_cons hi]
  obtain ⟨p, hp⟩ : ∃ p, p = L[i] := ⟨_, rfl⟩
  rw [← hp] at hl k ho hsp ⊢
  have h1 := h.perm (M := p :: (L.take i ++ L.drop (i + 1))) (by
    conv => lhs; rw [hsp]
    exact List.perm_middle)
  have hn := h1.nod
  have hrest : Kpt w e (L.take i ++ L.drop (i + 1)) := ⟨fun q hq => h1.own q (List.mem_cons_of_mem _ hq), (List.nodup_append.1 (show (p.1.ownBlock.toList ++ blocksV (L.take i ++ L.drop (i + 1))).Nodup from hn)).2.1, fun q hq => h1.lit q (List.mem_cons_of_mem _ hq)⟩
  have hdis : ∀ b ∈ blocksV (L.take i ++ L.drop (i + 1)), b ∉ p.1.ownBlock.toList := fun b hb q => (List.nodup_append.1 (show (p.1.ownBlock.toList ++ blocksV (L.take i ++ L.drop (i + 1))).Nodup from hn)).2.2 b q b hb rfl
  obtain ⟨A, c, e1⟩ := h1.lit p (by simp)
  rw [← hl] at e1
  have h2 := (hrest.only k hdis).cons (A := A) (c := c) (cs := cs) (by rw [← e1]; exact ho) (fun b q z => hdis b z (by rw [e1]; simpa using q))
  rw [← e1] at h2
  refine h2.perm ?_
  have hst : L.set i (p.1, cs) = L.take i ++ (p.1, cs) :: L.drop (i + 1) := by rw [List.set_eq_take_append_cons_drop, if_pos hi]
  rw [hst]
  exact List.perm_middle.symm
theorem KpS.set {w w' : World} {L : List (Value × List StoredR)} (h : KpS w L) {i : Nat} (hi : i < L.length) {cs : List StoredR} (hl : cs.length = L[i].2.length) (k : Only (L[i].1.ownBlock.toList) w w') (ho : w'.ownsRow 0 92 8 L[i].1 cs.length (scs cs)) : KpS w' (L.set i (L[i].1, cs)) := by
  have hsp : L = L.take i ++ L[i] :: L.drop (i + 1) := by
    conv => lhs; rw [← List.take_append_drop i L, List.drop_eq_getElem_cons hi]
  obtain ⟨p, hp⟩ : ∃ p, p = L[i] := ⟨_, rfl⟩
  rw [← hp] at hl k ho hsp ⊢
  have h1 := h.perm (M := p :: (L.take i ++ L.drop (i + 1))) (by
    conv => lhs; rw [hsp]
    exact List.perm_middle)
  have hn := h1.nod
  have hrest : KpS w (L.take i ++ L.drop (i + 1)) := ⟨fun q hq => h1.own q (List.mem_cons_of_mem _ hq), (List.nodup_append.1 (show (p.1.ownBlock.toList ++ blocksV (L.take i ++ L.drop (i + 1))).Nodup from hn)).2.1, fun q hq => h1.lit q (List.mem_cons_of_mem _ hq)⟩
  have hdis : ∀ b ∈ blocksV (L.take i ++ L.drop (i + 1)), b ∉ p.1.ownBlock.toList := fun b hb q => (List.nodup_append.1 (show (p.1.ownBlock.toList ++ blocksV (L.take i ++ L.drop (i + 1))).Nodup from hn)).2.2 b q b hb rfl
  obtain ⟨A, c, e1⟩ := h1.lit p (by simp)
  rw [← hl] at e1
  have h2 := (hrest.only k hdis).cons (A := A) (c := c) (cs := cs) (by rw [← e1]; exact ho) (fun b q z => hdis b z (by rw [e1]; simpa using q))
  rw [← e1] at h2
  refine h2.perm ?_
  have hst : L.set i (p.1, cs) = L.take i ++ (p.1, cs) :: L.drop (i + 1) := by rw [List.set_eq_take_append_cons_drop, if_pos hi]
  rw [hst]
  exact List.perm_middle.symm
theorem keep_old {w1 w2 : World} {Ap Al : Option Addr} {n m cp cl B : Nat} {e : TypeId} {xs ys : List Value} (hs : Slc w1 1 (.slice Ap n cp) n xs) (hpa : ∀ b off, Ap = some ⟨b, off, none⟩ → off = 0) (ho : w1.ownsRow B e 1 (.slice Al m cl) m ys) (hy : ys.take n = xs) (hnm : n ≤ m)
    (hk : Only (Value.slice Al m cl).ownBlock.toList w1 w2) (hs2 : Slc w2 1 (.slice Al m cl) m ys) : Slc w2 1 (.slice Ap n cp) n xs := by
  obtain ⟨A', c', e1, h1, h2, h3, h4⟩ := hs
  injection e1 with q1 q2 q3
  subst q1 q3
  refine ⟨Ap, cp, rfl, h1, h2, h3, fun hn => ?_⟩
  obtain ⟨b, off, rfl, hb, hc⟩ := h4 hn
  by_cases q : (Value.slice Al m cl).ownBlock = some b
  · obtain ⟨g, cap, ef, _, _⟩ := ho.form (by omega)
    injection ef with f1 f2 f3
    subst f1
    have hgb : g = b := by simpa [Value.ownBlock] using q
    subst hgb
    have ho0 := hpa g off rfl
    subst ho0
    obtain ⟨A2, c2, e2, k1, k2, k3, k4⟩ := hs2
    injection e2 with r1 r2 r3
    subst r1
    obtain ⟨g2, off2, e3, hb2, hc2⟩ := k4 (by omega)
    cases e3
    refine ⟨g, 0, rfl, hb2, fun j hj => ?_⟩
    rw [hc2 j (by omega), ← hy, List.getElem?_take, if_pos (by omega)]
  · refine ⟨b, off, rfl, Nat.lt_of_lt_of_le hb hk.size, fun j hj => ?_⟩
    rw [hk.cell (by exact hb) (by simpa using q), hc j hj]
theorem keep_oldS {w1 w2 : World} {Ap Al : Option Addr} {n m cp cl B : Nat} {e : TypeId} {xs ys : List Value} (hs : Slc w1 8 (.slice Ap n cp) n xs) (hpa : ∀ b off, Ap = some ⟨b, off, none⟩ → off = 0) (ho : w1.ownsRow B e 8 (.slice Al m cl) m ys) (hy : ys.take (n * 8) = xs) (hnm : n ≤ m)
    (hk : Only (Value.slice Al m cl).ownBlock.toList w1 w2) (hs2 : Slc w2 8 (.slice Al m cl) m ys) : Slc w2 8 (.slice Ap n cp) n xs := by
  obtain ⟨A', c', e1, h1, h2, h3, h4⟩ := hs
  injection e1 with q1 q2 q3
  subst q1 q3
  refine ⟨Ap, cp, rfl, h1, h2, h3, fun hn => ?_⟩
  obtain ⟨b, off, rfl, hb, hc⟩ := h4 hn
  by_cases q : (Value.slice Al m cl).ownBlock = some b
  · obtain ⟨g, cap, ef, _, _⟩ := ho.form (by omega)
    injection ef with f1 f2 f3
    subst f1
    have hgb : g = b := by simpa [Value.ownBlock] using q
    subst hgb
    have ho0 := hpa g off rfl
    subst ho0
    obtain ⟨A2, c2, e2, k1, k2, k3, k4⟩ := hs2
    injection e2 with r1 r2 r3
    subst r1
    obtain ⟨g2, off2, e3, hb2, hc2⟩ := k4 (by omega)
    cases e3
    refine ⟨g, 0, rfl, hb2, fun j hj => ?_⟩
    rw [hc2 j (by omega), ← hy, List.getElem?_take, if_pos (by omega)]
  · refine ⟨b, off, rfl, Nat.lt_of_lt_of_le hb hk.size, fun j hj => ?_⟩
    rw [hk.cell (by exact hb) (by simpa using q), hc j hj]
end Go.Proofs.YteinoiicnmemhaaGreatDoor
/- The book's marks for stored events; what is still as it was. -/
set_option linter.unusedVariables false
set_option linter.unusedSimpArgs false
namespace Go.Proofs.YteinoiicnmemhaaGreatDoor
open Go.RowKit Go Go.Sort
def mkOne (p : Int) : StoredR := ⟨⟨0, ⟨#[]⟩, ⟨#[]⟩, 0⟩, ⟨#[]⟩, 0, p, 0⟩
def mkS (i f n : Nat) : List StoredR := (List.range n).map (fun k : Nat => mkOne (-1000 * (i : Int) - ((f : Int) + (k : Int)) - 1))
theorem mkS_len (i f n : Nat) : (mkS i f n).length = n := by simp [mkS]
theorem mkS_succ (i f n : Nat) : mkS i f (n + 1) = mkS i f n ++ [mkOne (-1000 * (i : Int) - ((f : Int) + (n : Int)) - 1)] := by simp [mkS, List.range_succ]
theorem mkS_app (i f n m : Nat) : mkS i f n ++ mkS i (f + n) m = mkS i f (n + m) := by
  induction m with
  | zero => simp [mkS]
  | succ m ih =>
    rw [mkS_succ, ← List.append_assoc, ih, ← Nat.add_assoc, mkS_succ]
    congr 4
    omega
end Go.Proofs.YteinoiicnmemhaaGreatDoor
/- The book: all lists of stored events are marked. -/
set_option linter.unusedVariables false
set_option linter.unusedSimpArgs false
namespace Go.Proofs.YteinoiicnmemhaaGreatDoor
open Go.RowKit Go Go.Sort
end Go.Proofs.YteinoiicnmemhaaGreatDoor
/- The book: putStored. -/
set_option linter.unusedVariables false
set_option linter.unusedSimpArgs false
namespace Go.Proofs.YteinoiicnmemhaaGreatDoor
open Go.RowKit Go Go.Sort
section
variable {w w' : World} {bb : Nat} {cs : Array Value} {A : Option Addr} {c : Nat} {I : List (Value × List StoredR)}
end
end Go.Proofs.YteinoiicnmemhaaGreatDoor
/- The book: markedStored. -/
set_option linter.unusedVariables false
set_option linter.unusedSimpArgs false
namespace Go.Proofs.YteinoiicnmemhaaGreatDoor
open Go.RowKit Go Go.Sort
/-- Lists that have their marks. -/
structure MkdS (w : World) (A : Option Addr) (c : Nat) (L : List (Value × Nat)) : Prop where
  cap : L.length ≤ c ∧ c ≤ 2 ^ 63 - 1
  few : L.length ≤ 250
  row : ∀ i (h : i < L.length), ∃ vb, A = some ⟨vb, 0, none⟩ ∧ vb < w.heap.size ∧ w.cell? ⟨vb, i, none⟩ = some L[i].1
  lit : ∀ i (h : i < L.length), ∃ A' c', L[i].1 = .slice A' L[i].2 c'
  slc : ∀ i (h : i < L.length), Slc w 8 L[i].1 L[i].2 (scs (mkS i 0 L[i].2))
  len : ∀ i (h : i < L.length), L[i].2 ≤ 1000000
theorem MkdS.keep0 {w w' : World} {A : Option Addr} {c : Nat} {L : List (Value × Nat)} (h : MkdS w A c L) (k : Only [] w w') : MkdS w' A c L :=
  ⟨h.cap, h.few, fun i hi => by
    obtain ⟨vb, e, hl, hc⟩ := h.row i hi
    exact ⟨vb, e, Nat.lt_of_lt_of_le hl k.size, (k.cell hl (by simp)).trans hc⟩, h.lit, fun i hi => (h.slc i hi).only k (by simp), h.len⟩
end Go.Proofs.YteinoiicnmemhaaGreatDoor
/- The book: growing a list of stored events, plain part. -/
set_option linter.unusedVariables false
set_option linter.unusedSimpArgs false
namespace Go.Proofs.YteinoiicnmemhaaGreatDoor
open Go.RowKit Go Go.Sort
/-- A list on its way to be grown. -/
structure GrInS (w0 W : World) (i n : Nat) (Ap : Option Addr) (cp : Nat) (nt : Nat) (Al : Option Addr) (cl : Nat) : Prop where
  own : W.ownsRow 0 92 8 (.slice Al nt cl) nt (scs (mkS i 0 nt))
  le : n ≤ nt
  blk : ∀ b, (Value.slice Al nt cl).ownBlock = some b → (Value.slice Ap n cp).ownBlock = some b ∨ w0.heap.size ≤ b
  only : Only (Value.slice Ap n cp).ownBlock.toList w0 W
  old : Slc W 8 (.slice Ap n cp) n (scs (mkS i 0 n))
  zero : ∀ b off, Ap = some ⟨b, off, none⟩ → off = 0
theorem scs_app (l m : List StoredR) : scs (l ++ m) = scs l ++ scs m := by simp [scs]
theorem scs_take (i n m : Nat) (h : n ≤ m) : (scs (mkS i 0 m)).take (n * 8) = scs (mkS i 0 n) := by
  obtain ⟨k, rfl⟩ : ∃ k, m = n + k := ⟨m - n, by omega⟩
  rw [← mkS_app, scs_app, List.take_append_of_le_length (by rw [scs_len, mkS_len]; exact Nat.le_refl _), List.take_of_length_le (by rw [scs_len, mkS_len]; exact Nat.le_refl _)]
theorem GrInS.step {w0 W w1 : World} {i n cp nt cl q cm : Nat} {Ap Al Am : Option Addr} (h : GrInS w0 W i n Ap cp nt Al cl) (k1 : Only [] W w1) (hm : w1.ownsRow W.heap.size 92 8 (.slice Am q cm) q (scs (mkS i nt q))) (hb : nt + q ≤ 2000000) :
    ∃ A' c' w2, (Builtin.append_ #[28, 28] 28 #[.slice Al nt cl, .slice Am q cm]).run Tryz.prog w1 = .ok (.slice A' (nt + q) c') w2 ∧ GrInS w0 w2 i n Ap cp (nt + q) A' c' := by
  have hl1 := own_only h.own k1 (by simp)
  have hms := (Slc.of_own hm).1
  obtain ⟨A', c', w2, hr, ho2, hO, hf⟩ := run_app (P := Tryz.prog) 28 28 0 92 (.agg #[.int .i64 0, .string ⟨#[]⟩, .string ⟨#[]⟩, .float .f64 0, .string ⟨#[]⟩, .int .i64 0, .int .i64 0, .int .i64 0]) 8 88 Tryz.underlying28 infoSt rfl (by decide) hl1 hms (scs_one _) (by omega) (by unfold maxLen; omega) (Nat.zero_le _)
  have hold := run_app_old (P := Tryz.prog) 28 28 0 92 (.agg #[.int .i64 0, .string ⟨#[]⟩, .string ⟨#[]⟩, .float .f64 0, .string ⟨#[]⟩, .int .i64 0, .int .i64 0, .int .i64 0]) 8 88 Tryz.underlying28 infoSt rfl (by decide) hl1 hms (scs_one _) (by omega) (by unfold maxLen; omega) (Nat.zero_le _) hr ho2
  have hcs : scs (mkS i 0 nt) ++ scs (mkS i nt q) = scs (mkS i 0 (nt + q)) := by
    rw [← mkS_app i 0 nt q, Nat.zero_add, scs_app]
  rw [hcs] at ho2
  have hsz := h.only.size
  have hsz1 := k1.size
  refine ⟨A', c', w2, hr, ho2, by have := h.le; omega, fun b z => ?_, ?_, keep_oldS (h.old.only k1 (by simp)) h.zero hl1 (scs_take i n nt h.le) h.le hO hold, h.zero⟩
  · rcases hf b z with y | y
    · exact h.blk b y
    · exact .inr (by omega)
  · refine (h.only.trans k1.of_nil).step hO (fun b z => ?_)
    rcases h.blk b (by simpa using z) with y | y
    · exact .inl (by simp [y])
    · exact .inr y
end Go.Proofs.YteinoiicnmemhaaGreatDoor
/- The book: growStored, plain part. -/
set_option linter.unusedVariables false
set_option linter.unusedSimpArgs false
namespace Go.Proofs.YteinoiicnmemhaaGreatDoor
open Go.RowKit Go Go.Sort
/-- The lists that are grown so far. -/
structure GrOS (w W : World) (J : List (Value × Nat)) (i : Nat) (O : List (Value × Nat)) (Ao : Option Addr) (co : Nat) : Prop where
  olen : O.length = i
  out : W.ownsRow w.heap.size 28 1 (.slice Ao i co) i (O.map (·.1))
  two : ∀ k (h : k < O.length) (hk : k < J.length), O[k].2 = J[k].2 + 72
  lit : ∀ k (h : k < O.length), ∃ A' c', O[k].1 = .slice A' O[k].2 c'
  slc : ∀ k (h : k < O.length), Slc W 8 O[k].1 O[k].2 (scs (mkS k 0 O[k].2))
  typ : ∀ k (h : k < O.length) b, O[k].1.ownBlock = some b → ∃ cur, Blk W b 92 cur
  blk : ∀ k (h : k < O.length) (hk : k < J.length) b, O[k].1.ownBlock = some b → J[k].1.ownBlock = some b ∨ w.heap.size ≤ b
  old : ∀ k (hk : k < J.length), k < i → Slc W 8 J[k].1 J[k].2 (scs (mkS k 0 J[k].2))
  rest : ∀ k (hk : k < J.length), i ≤ k → W.ownsRow 0 92 8 J[k].1 J[k].2 (scs (mkS k 0 J[k].2))
/-- The lists, as they were when growing began. -/
structure GrJS (w : World) (J : List (Value × Nat)) : Prop where
  own : ∀ k (hk : k < J.length), w.ownsRow 0 92 8 J[k].1 J[k].2 (scs (mkS k 0 J[k].2))
  lit : ∀ k (hk : k < J.length), ∃ A' c', J[k].1 = .slice A' J[k].2 c'
  dis : ∀ k l (hk : k < J.length) (hl : l < J.length), k ≠ l → ∀ b, J[k].1.ownBlock = some b → J[l].1.ownBlock ≠ some b
  len : ∀ k (hk : k < J.length), J[k].2 ≤ 900000
  few : J.length ≤ 250
/-- One more list is grown, and put behind the others. -/
theorem GrOS.next {w W W3 w5 : World} {J O : List (Value × Nat)} {i co cp cl c5 : Nat} {Ao Ap Al A5 : Option Addr} (hJ : GrJS w J) (h : GrOS w W J i O Ao co) (hi : i < J.length) (hp : J[i].1 = .slice Ap J[i].2 cp) (hW : w.heap.size ≤ W.heap.size) (hg : GrInS W W3 i J[i].2 Ap cp (J[i].2 + 72) Al cl)
    (hO5 : Only (Value.slice Ao i co).ownBlock.toList (W3.alloc (.cells #[.slice Al (J[i].2 + 72) cl] 28)) w5) (ho5 : w5.ownsRow w.heap.size 28 1 (.slice A5 (i + 1) c5) (i + 1) (O.map (·.1) ++ [.slice Al (J[i].2 + 72) cl])) :
    GrOS w w5 J (i + 1) (O ++ [(.slice Al (J[i].2 + 72) cl, J[i].2 + 72)]) A5 c5 := by
  have hout := World.ownsRow.lt h.out
  have hpl := World.ownsRow.lt (hJ.own i hi)
  have ko : Only (Value.slice Ao i co).ownBlock.toList W3 w5 := (((Only.refl [] W3).alloc _).of_nil).trans hO5
  have hpW : ∀ b, J[i].1.ownBlock = some b → b < w.heap.size := fun b q => (hpl b q).2
  -- what lies in numbers is not turned by the list of lists
  have hnt : ∀ b cur, Blk W3 b 92 cur → b ∉ (Value.slice Ao i co).ownBlock.toList := fun b cur hb q => by
    have q' : (Value.slice Ao i co).ownBlock = some b := by simpa using q
    obtain ⟨c1, h1⟩ := own_type h.out q'
    have hbp : b ∉ (Value.slice Ap J[i].2 cp).ownBlock.toList := fun z => by
      have h2 := (hout b q').1
      have h3 := hpW b (by rw [hp]; simpa using z)
      omega
    exact (hg.only.blk h1 hbp).other hb (by decide) rfl
  have hOl : (O ++ [(Value.slice Al (J[i].2 + 72) cl, J[i].2 + 72)]).length = i + 1 := by rw [List.length_append, h.olen]; rfl
  have hget : ∀ k (hk : k < (O ++ [(Value.slice Al (J[i].2 + 72) cl, J[i].2 + 72)]).length), (∃ hk2 : k < O.length, (O ++ [(Value.slice Al (J[i].2 + 72) cl, J[i].2 + 72)])[k] = O[k]) ∨ (k = i ∧ (O ++ [(Value.slice Al (J[i].2 + 72) cl, J[i].2 + 72)])[k] = (.slice Al (J[i].2 + 72) cl, J[i].2 + 72)) := fun k hk => by
    by_cases q : k < O.length
    · exact .inl ⟨q, List.getElem_append_left q⟩
    · right
      have hki : k = i := by
        have := h.olen
        rw [hOl] at hk
        omega
      refine ⟨hki, ?_⟩
      rw [List.getElem_append_right (by omega)]
      simp
  have hOp : ∀ k (hk : k < O.length) b, O[k].1.ownBlock = some b → b ∉ (Value.slice Ap J[i].2 cp).ownBlock.toList := fun k hk b q z => by
    have z' : J[i].1.ownBlock = some b := by rw [hp]; simpa using z
    have hki : k < i := by rw [h.olen] at hk; exact hk
    rcases h.blk k hk (by omega) b q with y | y
    · exact hJ.dis k i (by omega) hi (by omega) b y z'
    · have := hpW b z'
      omega
  have hJp : ∀ k (hk : k < J.length), k ≠ i → ∀ b, J[k].1.ownBlock = some b → b ∉ (Value.slice Ap J[i].2 cp).ownBlock.toList := fun k hk hki b q z => hJ.dis k i hk hi hki b q (by rw [hp]; simpa using z)
  have hJo : ∀ k (hk : k < J.length) b, J[k].1.ownBlock = some b → b ∉ (Value.slice Ao i co).ownBlock.toList := fun k hk b q z => by
    have h1 := (hout b (by simpa using z)).1
    have h2 := (World.ownsRow.lt (hJ.own k hk) b q).2
    omega
  have hlt3 := World.ownsRow.lt hg.own
  refine ⟨hOl, by rw [List.map_append]; exact ho5, fun k hk hkJ => ?_, fun k hk => ?_, fun k hk => ?_, fun k hk b q => ?_, fun k hk hkJ b q => ?_, fun k hk hki => ?_, fun k hk hki => ?_⟩
  · rcases hget k hk with ⟨hk2, e⟩ | ⟨e1, e⟩
    · rw [e]; exact h.two k hk2 hkJ
    · subst e1; rw [e]
  · rcases hget k hk with ⟨hk2, e⟩ | ⟨e1, e⟩
    · rw [e]; exact h.lit k hk2
    · rw [e]; exact ⟨Al, cl, rfl⟩
  · rcases hget k hk with ⟨hk2, e⟩ | ⟨e1, e⟩
    · rw [e]
      refine ((h.slc k hk2).only hg.only (fun b q => hOp k hk2 b q)).only ko (fun b q => ?_)
      obtain ⟨cur, hb⟩ := h.typ k hk2 b q
      exact hnt b cur (hg.only.blk hb (hOp k hk2 b q))
    · rw [e]
      subst e1
      refine (Slc.of_own hg.own).1.only ko (fun b q => ?_)
      obtain ⟨cur, hb⟩ := own_type hg.own q
      exact hnt b cur hb
  · rcases hget k hk with ⟨hk2, e⟩ | ⟨e1, e⟩
    · rw [e] at q
      obtain ⟨cur, hb⟩ := h.typ k hk2 b q
      have hb3 := hg.only.blk hb (hOp k hk2 b q)
      exact ⟨cur, ko.blk hb3 (hnt b cur hb3)⟩
    · rw [e] at q
      obtain ⟨cur, hb⟩ := own_type hg.own q
      exact ⟨cur, ko.blk hb (hnt b cur hb)⟩
  · rcases hget k hk with ⟨hk2, e⟩ | ⟨e1, e⟩
    · rw [e] at q; exact h.blk k hk2 hkJ b q
    · rw [e] at q
      subst e1
      rcases hg.blk b q with y | y
      · exact .inl (by rw [hp]; exact y)
      · exact .inr (by omega)
  · by_cases e : k = i
    · subst e
      have ho := hg.old
      rw [← hp] at ho
      exact ho.only ko (fun b q => hJo k hk b q)
    · exact ((h.old k hk (by omega)).only hg.only (fun b q => hJp k hk e b q)).only ko (fun b q => hJo k hk b q)
  · have hne : k ≠ i := by omega
    exact own_only (own_only (h.rest k hk (by omega)) hg.only (fun b q => hJp k hk hne b q)) ko (fun b q => hJo k hk b q)
end Go.Proofs.YteinoiicnmemhaaGreatDoor
/- The book: growStored, the walk. -/
set_option linter.unusedVariables false
set_option linter.unusedSimpArgs false
namespace Go.Proofs.YteinoiicnmemhaaGreatDoor
open Go.RowKit Go Go.Sort
end Go.Proofs.YteinoiicnmemhaaGreatDoor
/- The document's Do: what is refused, what is only marked, a stream that is deleted. -/
set_option linter.unusedVariables false
set_option linter.unusedSimpArgs false
namespace Go.Proofs.YteinoiicnmemhaaGreatDoor
open Go Go.RowKit Go.Sort
theorem HasD.rbH {a w : World} {H : List Nat} {rb : Nat} {r : RS} (h : HasD a w H rb r) : rb ∈ H := by
  obtain ⟨⟨vl, vs, hA, rfl⟩, -, -⟩ := h
  simp [hD]
theorem HasD.nums {a w : World} {H : List Nat} {rb : Nat} {r : RS} (h : HasD a w H rb r) : w.cell? ⟨rb, 2, none⟩ = some (.int .i64 r.now) ∧ w.cell? ⟨rb, 3, none⟩ = some (.int .i64 r.done) ∧ w.frozen? ⟨rb, 2, none⟩ = false ∧ w.frozen? ⟨rb, 3, none⟩ = false := by
  obtain ⟨⟨vl, vs, hA, rfl⟩, -, -⟩ := h
  exact ⟨hA.blk.cell 2, hA.blk.cell 3, hA.blk.free 2, hA.blk.free 3⟩
theorem HasD.ls {a w : World} {H : List Nat} {rb : Nat} {r : RS} (h : HasD a w H rb r) : ∃ A c, w.cell? ⟨rb, 0, none⟩ = some (.slice A r.l.length c) ∧ r.l.length ≤ c ∧ c ≤ 2 ^ 63 - 1 := by
  obtain ⟨⟨vl, vs, hA, rfl⟩, -, -⟩ := h
  obtain ⟨A, c, e, h1, h2⟩ := own_form hA.l
  subst e
  exact ⟨A, c, hA.blk.cell 0, h1, by unfold maxLen at h2; exact h2⟩
section
variable {a w : World} {H : List Nat} {rb : Nat} {r : RS}
set_option maxRecDepth 100000 in
set_option maxHeartbeats 4000000 in
theorem ddo_bad (h : HasD a w H rb r) (c : Cmd) (v : Value) (he : Slc w 4 v c.events.length (c.events.flatMap EventR.cells)) (ho : CmdOk c) (hk : c.check ≠ 0) :
    Calls Tryz.prog 10 #[.pointer (some ⟨rb, 0, none⟩), c.val v] w fun e w' => e = .returned (Ans.val ⟨c.check, 0, 0, false⟩) ∧ DTo a w H rb r w' := by
  obtain ⟨A1, cap1, hev, hn3, hn4, hes⟩ := he.openE EventR.cells (fun _ => rfl)
  unfold maxLen at hn4
  subst hev
  have HCk := Lib.hid (fun (W : World) (hw : Only [] w W) => show Calls Tryz.prog 25 #[.agg #[.int .i64 c.kind, .int .i64 c.time, .string c.stream, .int .i64 c.expected, .slice A1 c.events.length cap1, .int .i64 c.mt.maxCount, .int .i64 c.mt.maxAge, .int .i64 c.mt.before]] W fun e w' => e = .returned (.int .i64 c.check) ∧ Only [] W w' from r7check_any c _ W (he.only0 hw) ho)
  have h2 : ∀ o1 o2, Only [] w ((w.alloc o1).alloc o2) := fun o1 o2 => ((Only.refl [] w).alloc o1).alloc o2
  have kC : ∀ cs t o2, Blk ((w.alloc (.cells cs t)).alloc o2) w.heap.size t cs := fun cs t o2 => ((Only.refl [] _).alloc o2).blk (Blk.new w t cs) (by simp)
  have kA : ∀ cs t o1, Blk ((w.alloc o1).alloc (.cells cs t)) (w.heap.size + 1) t cs := fun cs t o1 => by
    have := Blk.new (w.alloc o1) t cs
    simpa using this
  rw [show c.val (.slice A1 c.events.length cap1) = .agg #[.int .i64 c.kind, .int .i64 c.time, .string c.stream, .int .i64 c.expected, .slice A1 c.events.length cap1, .int .i64 c.mt.maxCount, .int .i64 c.mt.maxAge, .int .i64 c.mt.before] from rfl]
  have HT := Lib.hid (fun (W : World) (k : Only [] w W) => (show DTo a w H rb r W from ⟨H, h.keep0 k, Stepped.first0 k (Stepped.refl _ _)⟩))
  have hkb : ((c.check : Int) != 0) = true := by simpa using hk
  clear hk
  go_enter Tryz.func10, Tryz.ntmps10
  go_wp2_with fail
  refine (HCk.out _ (h2 _ _)).mono ?_
  rintro e1 w1 ⟨rfl, k1⟩
  have bA1 := k1.blk (kA _ _ _) (by simp)
  have hA1f := fun i => bA1.free i
  have hA1c := fun i => bA1.cell i
  go_wp2
  have hO1 : Only [] w w1 := (h2 _ _).trans k1
  have hD1 := h.keep0 hO1
  have hSt : Stepped w w1 H H := Stepped.first0 hO1 (Stepped.refl _ _)
  have hgH : w.heap.size + 1 ∉ H := fun q => by have := h.lt _ q; omega
  have haz : a.heap.size ≤ w.heap.size + 1 := by have := h.only.size; omega
  have hS4 := (((bA1.set 0 (.int .i64 c.check)).set 1 (.int .i64 0)).set 2 (.int .i64 0)).set 3 (.bool false)
  have hge : w.heap.size ≤ w.heap.size + 1 := by omega
  have hD4 := (((hD1.setB (k := 0) (u := .int .i64 c.check) hgH haz).setB (k := 1) (u := .int .i64 0) hgH haz).setB (k := 2) (u := .int .i64 0) hgH haz).setB (k := 3) (u := .bool false) hgH haz
  have hSt4 := (((hSt.setB (k := 0) (u := .int .i64 c.check) hge).setB (k := 1) (u := .int .i64 0) hge).setB (k := 2) (u := .int .i64 0) hge).setB (k := 3) (u := .bool false) hge
  have hc4 := hS4.cell
  refine bodyPost_ret (v := .agg #[.int .i64 c.check, .int .i64 0, .int .i64 0, .bool false]) (by simp [results, Tryz.results10, go_sem, hc4]) rfl ⟨?ans, _, hD4, hSt4⟩
  case ans => rfl
set_option maxRecDepth 100000 in
set_option maxHeartbeats 4000000 in
theorem ddo_mark (h : HasD a w H rb r) (hf : r.Fine) (hdb : 0 ≤ r.done ∧ r.done ≤ 1000000000) (c : Cmd) (v : Value) (he : Slc w 4 v c.events.length (c.events.flatMap EventR.cells)) (ho : CmdOk c) (hk : c.check = 0) (h4 : 4 ≤ c.kind) :
    Calls Tryz.prog 10 #[.pointer (some ⟨rb, 0, none⟩), c.val v] w fun e w' => e = .returned (Ans.val ⟨0, 0, r.l.length, false⟩) ∧ DTo a w H rb (r.tick c.time) w' := by
  obtain ⟨A1, cap1, hev, hn3, hn4, hes⟩ := he.openE EventR.cells (fun _ => rfl)
  unfold maxLen at hn4
  subst hev
  have HCk := Lib.hid (fun (W : World) (hw : Only [] w W) => show Calls Tryz.prog 25 #[.agg #[.int .i64 c.kind, .int .i64 c.time, .string c.stream, .int .i64 c.expected, .slice A1 c.events.length cap1, .int .i64 c.mt.maxCount, .int .i64 c.mt.maxAge, .int .i64 c.mt.before]] W fun e w' => e = .returned (.int .i64 c.check) ∧ Only [] W w' from r7check_any c _ W (he.only0 hw) ho)
  have h2 : ∀ o1 o2, Only [] w ((w.alloc o1).alloc o2) := fun o1 o2 => ((Only.refl [] w).alloc o1).alloc o2
  have kC : ∀ cs t o2, Blk ((w.alloc (.cells cs t)).alloc o2) w.heap.size t cs := fun cs t o2 => ((Only.refl [] _).alloc o2).blk (Blk.new w t cs) (by simp)
  have kA : ∀ cs t o1, Blk ((w.alloc o1).alloc (.cells cs t)) (w.heap.size + 1) t cs := fun cs t o1 => by
    have := Blk.new (w.alloc o1) t cs
    simpa using this
  rw [show c.val (.slice A1 c.events.length cap1) = .agg #[.int .i64 c.kind, .int .i64 c.time, .string c.stream, .int .i64 c.expected, .slice A1 c.events.length cap1, .int .i64 c.mt.maxCount, .int .i64 c.mt.maxAge, .int .i64 c.mt.before] from rfl]
  rw [hk] at HCk
  have hHl := h.lt
  go_enter Tryz.func10, Tryz.ntmps10
  go_wp2_with fail
  refine (HCk.out _ (h2 _ _)).mono ?_
  rintro e1 w1 ⟨rfl, k1⟩
  go_wp2_with fail
  have hO1 : Only [] w w1 := (h2 _ _).trans k1
  have bC1 := k1.blk (kC _ _ _) (by simp)
  have bA1 := k1.blk (kA _ _ _) (by simp)
  have hD1 := h.keep0 hO1
  obtain ⟨M2, M3, X2, X3⟩ := hD1.nums
  have hrbH := h.rbH
  have hrbl := h.lt rb hrbH
  obtain ⟨t, ht⟩ : ∃ t, t = max r.now c.time := ⟨_, rfl⟩
  have hmx : (if r.now < c.time then c.time else r.now) = t := by rw [ht]; split <;> omega
  have hmy : (if c.time > r.now then c.time else r.now) = t := hmx
  have HTt := Lib.hid ht
  clear ht
  have C1 := Within.cell (S := []) (bC1.cell 1) (by simp)
  have D2 := Within.cell (S := []) M2 (by simp)
  have D3 := Within.cell (S := []) M3 (by simp)
  refine wp_region_in [] [0, 1, 2, 3, 4, 5, 6, 7, 8, 9] [] [10] (by kernel_rfl) (by kernel_rfl) (by intro c d u a w h; cases d <;> exact h) ?_
  show wpQuiet _ _ _ _ [_, _, _, _, _, _, _, _, _, _] _
  repeat (go_big_quiet_step (fail))
  refine wpQuiet_nil ?_
  have N2 := M2
  have N3 := M3
  have Y2 := X2
  have Y3 := X3
  clear C1 D2 D3
  show wpList _ _ _ [_] _ _
  have hne1 : w.heap.size ≠ rb := by omega
  have hne2 : w.heap.size + 1 ≠ rb := by omega
  have hdn := IntWalk.i64_in (r.done + 1) ⟨by omega, by omega⟩
  go_upto_region 6 with (fail)
  have hSt1 : Stepped w w1 H H := Stepped.first0 hO1 (Stepped.refl _ _)
  have q2 := hD1.setNow (max r.now c.time)
  have q3 := q2.1.setDone (r.done + 1)
  have hD5 := q3.1.keep0 (Only.refl [] _).drew
  have hS5 := (q2.2.trans q3.2).then0 (Only.refl [] _).drew
  have hgC : w.heap.size ∉ H := fun q => by have := hHl _ q; omega
  have hgA : w.heap.size + 1 ∉ H := fun q => by have := hHl _ q; omega
  have haz : a.heap.size ≤ w.heap.size + 1 := by have := h.only.size; omega
  have bC5 := (hS5.keepB bC1 hgC).1
  have bA5 := (hS5.keepB bA1 hgA).1
  have hSt5 := hSt1.trans hS5
  obtain ⟨W5, hW5⟩ : ∃ W, W = ((w1.setCell ⟨rb, 2, none⟩ (.int .i64 (max r.now c.time))).setCell ⟨rb, 3, none⟩ (.int .i64 (r.done + 1))).drew := ⟨_, rfl⟩
  rw [← hW5] at hD5 hS5 bC5 bA5 hSt5 ⊢
  rw [show ({ ({ r with now := max r.now c.time } : RS) with done := r.done + 1 } : RS) = r.tick c.time from rfl] at hD5
  clear hW5 q2 q3 hS5 hSt1 M2 M3 X2 X3 N2 N3 Y2 Y3 bC1 bA1 hmx hmy HTt hD1 k1
  obtain ⟨Al, cl, hls, hl1, hl2⟩ := hD5.ls
  have hl1' : r.l.length ≤ cl := hl1
  have hls' : W5.cell? ⟨rb, 0, none⟩ = some (.slice Al r.l.length cl) := hls
  have hC5 := fun i => bC5.cell i
  have hA5c := fun i => bA5.cell i
  have hA5f := fun i => bA5.free i
  clear hls hl1
  go_wp2
  have hS4 := (((bA5.set 0 (.int .i64 0)).set 1 (.int .i64 0)).set 2 (.int .i64 r.l.length)).set 3 (.bool false)
  have hge : w.heap.size ≤ w.heap.size + 1 := by omega
  have hD4 := (((hD5.setB (k := 0) (u := .int .i64 0) hgA haz).setB (k := 1) (u := .int .i64 0) hgA haz).setB (k := 2) (u := .int .i64 r.l.length) hgA haz).setB (k := 3) (u := .bool false) hgA haz
  have hSt4 := (((hSt5.setB (k := 0) (u := .int .i64 0) hge).setB (k := 1) (u := .int .i64 0) hge).setB (k := 2) (u := .int .i64 r.l.length) hge).setB (k := 3) (u := .bool false) hge
  have hc4 := hS4.cell
  refine bodyPost_ret (v := .agg #[.int .i64 0, .int .i64 0, .int .i64 r.l.length, .bool false]) (by simp [results, Tryz.results10, go_sem, hc4]) rfl ⟨?ans, _, hD4, hSt4⟩
  case ans => rfl
set_option maxRecDepth 100000 in
set_option maxHeartbeats 4000000 in
theorem ddo_gone (h : HasD a w H rb r) (hf : r.Fine) (hs : r.s.length + 1 ≤ 1000000) (hdb : 0 ≤ r.done ∧ r.done ≤ 1000000000) (c : Cmd) (v : Value) (he : Slc w 4 v c.events.length (c.events.flatMap EventR.cells)) (ho : CmdOk c) (hk : c.check = 0) (h4 : c.kind < 4) (hd : (r.get c.stream).deleted = true) :
    Calls Tryz.prog 10 #[.pointer (some ⟨rb, 0, none⟩), c.val v] w fun e w' => e = .returned (Ans.val ⟨23, 0, 0, false⟩) ∧ DTo a w H rb ((r.tick c.time).keep c.stream) w' := by
  have hft := hf.tick (check_kind hk).2.2
  obtain ⟨A1, cap1, hev, hn3, hn4, hes⟩ := he.openE EventR.cells (fun _ => rfl)
  unfold maxLen at hn4
  subst hev
  have HCk := Lib.hid (fun (W : World) (hw : Only [] w W) => show Calls Tryz.prog 25 #[.agg #[.int .i64 c.kind, .int .i64 c.time, .string c.stream, .int .i64 c.expected, .slice A1 c.events.length cap1, .int .i64 c.mt.maxCount, .int .i64 c.mt.maxAge, .int .i64 c.mt.before]] W fun e w' => e = .returned (.int .i64 c.check) ∧ Only [] W w' from r7check_any c _ W (he.only0 hw) ho)
  have h2 : ∀ o1 o2, Only [] w ((w.alloc o1).alloc o2) := fun o1 o2 => ((Only.refl [] w).alloc o1).alloc o2
  have kC : ∀ cs t o2, Blk ((w.alloc (.cells cs t)).alloc o2) w.heap.size t cs := fun cs t o2 => ((Only.refl [] _).alloc o2).blk (Blk.new w t cs) (by simp)
  have kA : ∀ cs t o1, Blk ((w.alloc o1).alloc (.cells cs t)) (w.heap.size + 1) t cs := fun cs t o1 => by
    have := Blk.new (w.alloc o1) t cs
    simpa using this
  rw [show c.val (.slice A1 c.events.length cap1) = .agg #[.int .i64 c.kind, .int .i64 c.time, .string c.stream, .int .i64 c.expected, .slice A1 c.events.length cap1, .int .i64 c.mt.maxCount, .int .i64 c.mt.maxAge, .int .i64 c.mt.before] from rfl]
  rw [hk] at HCk
  have hHl := h.lt
  have hfd3 := fldD3
  go_enter Tryz.func10, Tryz.ntmps10
  go_wp2_with fail
  refine (HCk.out _ (h2 _ _)).mono ?_
  rintro e1 w1 ⟨rfl, k1⟩
  go_wp2_with fail
  have hO1 : Only [] w w1 := (h2 _ _).trans k1
  have bC1 := k1.blk (kC _ _ _) (by simp)
  have bA1 := k1.blk (kA _ _ _) (by simp)
  have hD1 := h.keep0 hO1
  obtain ⟨M2, M3, X2, X3⟩ := hD1.nums
  have hrbH := h.rbH
  have hrbl := h.lt rb hrbH
  obtain ⟨t, ht⟩ : ∃ t, t = max r.now c.time := ⟨_, rfl⟩
  have hmx : (if r.now < c.time then c.time else r.now) = t := by rw [ht]; split <;> omega
  have hmy : (if c.time > r.now then c.time else r.now) = t := hmx
  have HTt := Lib.hid ht
  clear ht
  have C1 := Within.cell (S := []) (bC1.cell 1) (by simp)
  have D2 := Within.cell (S := []) M2 (by simp)
  have D3 := Within.cell (S := []) M3 (by simp)
  refine wp_region_in [] [0, 1, 2, 3, 4, 5, 6, 7, 8, 9] [] [10] (by kernel_rfl) (by kernel_rfl) (by intro c d u a w h; cases d <;> exact h) ?_
  show wpQuiet _ _ _ _ [_, _, _, _, _, _, _, _, _, _] _
  repeat (go_big_quiet_step (fail))
  refine wpQuiet_nil ?_
  have N2 := M2
  have N3 := M3
  have Y2 := X2
  have Y3 := X3
  clear C1 D2 D3
  show wpList _ _ _ [_] _ _
  have hne1 : w.heap.size ≠ rb := by omega
  have hne2 : w.heap.size + 1 ≠ rb := by omega
  have hdn := IntWalk.i64_in (r.done + 1) ⟨by omega, by omega⟩
  go_upto_region 6 with (fail)
  have hSt1 : Stepped w w1 H H := Stepped.first0 hO1 (Stepped.refl _ _)
  have q2 := hD1.setNow (max r.now c.time)
  have q3 := q2.1.setDone (r.done + 1)
  have hD5 := q3.1.keep0 (Only.refl [] _).drew
  have hS5 := (q2.2.trans q3.2).then0 (Only.refl [] _).drew
  have hgC : w.heap.size ∉ H := fun q => by have := hHl _ q; omega
  have hgA : w.heap.size + 1 ∉ H := fun q => by have := hHl _ q; omega
  have haz : a.heap.size ≤ w.heap.size + 1 := by have := h.only.size; omega
  have bC5 := (hS5.keepB bC1 hgC).1
  have bA5 := (hS5.keepB bA1 hgA).1
  have hSt5 := hSt1.trans hS5
  obtain ⟨W5, hW5⟩ : ∃ W, W = ((w1.setCell ⟨rb, 2, none⟩ (.int .i64 (max r.now c.time))).setCell ⟨rb, 3, none⟩ (.int .i64 (r.done + 1))).drew := ⟨_, rfl⟩
  rw [← hW5] at hD5 hS5 bC5 bA5 hSt5 ⊢
  rw [show ({ ({ r with now := max r.now c.time } : RS) with done := r.done + 1 } : RS) = r.tick c.time from rfl] at hD5
  clear hW5 q2 q3 hS5 hSt1 M2 M3 X2 X3 N2 N3 Y2 Y3 bC1 bA1 hmx hmy HTt hD1 k1
  have HGt := dget_any hD5 c.stream
  unfold DStr.val at HGt
  rw [show ((r.tick c.time).get c.stream).deleted = true from hd] at HGt
  have HG := Lib.hid HGt
  have hC5 := fun i => bC5.cell i
  clear HGt
  go_wp2_with fail
  refine HG.out.mono ?_
  rintro e2 w8 ⟨rfl, k8⟩
  have hD8 := hD5.keep0 k8
  have bC8 := k8.blk bC5 (by simp)
  have bA8 := k8.blk bA5 (by simp)
  have hC8 := fun i => bC8.cell i
  have HKp := Lib.hid (dkeep_any hD8 c.stream hft.few hs (hft.mt _) (hft.kept _) hft.now)
  clear HG hC5
  go_wp2_with fail
  refine HKp.out.mono ?_
  rintro e3 w9 ⟨rfl, H9, hD9, hSt9⟩
  obtain ⟨bA9, hg9⟩ := hSt9.keepB bA8 hgA
  have hSt := (hSt5.then0 k8).trans hSt9
  have hA9f := fun i => bA9.free i
  have hA9c := fun i => bA9.cell i
  clear HKp hC8
  go_wp2
  have hS4 := (((bA9.set 0 (.int .i64 23)).set 1 (.int .i64 0)).set 2 (.int .i64 0)).set 3 (.bool false)
  have hge : w.heap.size ≤ w.heap.size + 1 := by omega
  have hD4 := (((hD9.setB (k := 0) (u := .int .i64 23) hg9 haz).setB (k := 1) (u := .int .i64 0) hg9 haz).setB (k := 2) (u := .int .i64 0) hg9 haz).setB (k := 3) (u := .bool false) hg9 haz
  have hSt4 := (((hSt.setB (k := 0) (u := .int .i64 23) hge).setB (k := 1) (u := .int .i64 0) hge).setB (k := 2) (u := .int .i64 0) hge).setB (k := 3) (u := .bool false) hge
  have hc4 := hS4.cell
  refine bodyPost_ret (v := .agg #[.int .i64 23, .int .i64 0, .int .i64 0, .bool false]) (by simp [results, Tryz.results10, go_sem, hc4]) rfl ⟨?ans, _, hD4, hSt4⟩
  case ans => rfl
end
end Go.Proofs.YteinoiicnmemhaaGreatDoor
/- The document's Do: metadata, deletion. -/
set_option linter.unusedVariables false
set_option linter.unusedSimpArgs false
namespace Go.Proofs.YteinoiicnmemhaaGreatDoor
open Go Go.RowKit Go.Sort
section
variable {a w : World} {H : List Nat} {rb : Nat} {r : RS}
set_option maxRecDepth 100000 in
set_option maxHeartbeats 4000000 in
theorem ddo_meta (h : HasD a w H rb r) (hf : r.Fine) (hs : r.s.length + 3 ≤ 1000000) (hdb : 0 ≤ r.done ∧ r.done ≤ 1000000000) (c : Cmd) (v : Value) (he : Slc w 4 v c.events.length (c.events.flatMap EventR.cells)) (ho : CmdOk c) (hk : c.check = 0) (h4 : c.kind = 2) (hd : (r.get c.stream).deleted = false) :
    Calls Tryz.prog 10 #[.pointer (some ⟨rb, 0, none⟩), c.val v] w fun e w' => e = .returned ((r.tick c.time).act c).1.val ∧ DTo a w H rb ((r.tick c.time).act c).2 w' := by
  have hb2 : (c.kind == 2) = true := by simpa using h4
  have hlt4 : c.kind < 4 := by omega
  have H4 := Lib.hid h4
  clear h4
  have hft := hf.tick (check_kind hk).2.2
  obtain ⟨A1, cap1, hev, hn3, hn4, hes⟩ := he.openE EventR.cells (fun _ => rfl)
  unfold maxLen at hn4
  subst hev
  have HCk := Lib.hid (fun (W : World) (hw : Only [] w W) => show Calls Tryz.prog 25 #[.agg #[.int .i64 c.kind, .int .i64 c.time, .string c.stream, .int .i64 c.expected, .slice A1 c.events.length cap1, .int .i64 c.mt.maxCount, .int .i64 c.mt.maxAge, .int .i64 c.mt.before]] W fun e w' => e = .returned (.int .i64 c.check) ∧ Only [] W w' from r7check_any c _ W (he.only0 hw) ho)
  have h2 : ∀ o1 o2, Only [] w ((w.alloc o1).alloc o2) := fun o1 o2 => ((Only.refl [] w).alloc o1).alloc o2
  have kC : ∀ cs t o2, Blk ((w.alloc (.cells cs t)).alloc o2) w.heap.size t cs := fun cs t o2 => ((Only.refl [] _).alloc o2).blk (Blk.new w t cs) (by simp)
  have kA : ∀ cs t o1, Blk ((w.alloc o1).alloc (.cells cs t)) (w.heap.size + 1) t cs := fun cs t o1 => by
    have := Blk.new (w.alloc o1) t cs
    simpa using this
  rw [show c.val (.slice A1 c.events.length cap1) = .agg #[.int .i64 c.kind, .int .i64 c.time, .string c.stream, .int .i64 c.expected, .slice A1 c.events.length cap1, .int .i64 c.mt.maxCount, .int .i64 c.mt.maxAge, .int .i64 c.mt.before] from rfl]
  rw [hk] at HCk
  have hHl := h.lt
  have hfd3 := fldD3
  go_enter Tryz.func10, Tryz.ntmps10
  go_wp2_with fail
  refine (HCk.out _ (h2 _ _)).mono ?_
  rintro e1 w1 ⟨rfl, k1⟩
  go_wp2_with fail
  have hO1 : Only [] w w1 := (h2 _ _).trans k1
  have bC1 := k1.blk (kC _ _ _) (by simp)
  have bA1 := k1.blk (kA _ _ _) (by simp)
  have hD1 := h.keep0 hO1
  obtain ⟨M2, M3, X2, X3⟩ := hD1.nums
  have hrbH := h.rbH
  have hrbl := h.lt rb hrbH
  obtain ⟨t, ht⟩ : ∃ t, t = max r.now c.time := ⟨_, rfl⟩
  have hmx : (if r.now < c.time then c.time else r.now) = t := by rw [ht]; split <;> omega
  have hmy : (if c.time > r.now then c.time else r.now) = t := hmx
  have HTt := Lib.hid ht
  clear ht
  have C1 := Within.cell (S := []) (bC1.cell 1) (by simp)
  have D2 := Within.cell (S := []) M2 (by simp)
  have D3 := Within.cell (S := []) M3 (by simp)
  refine wp_region_in [] [0, 1, 2, 3, 4, 5, 6, 7, 8, 9] [] [10] (by kernel_rfl) (by kernel_rfl) (by intro c d u a w h; cases d <;> exact h) ?_
  show wpQuiet _ _ _ _ [_, _, _, _, _, _, _, _, _, _] _
  repeat (go_big_quiet_step (fail))
  refine wpQuiet_nil ?_
  have N2 := M2
  have N3 := M3
  have Y2 := X2
  have Y3 := X3
  clear C1 D2 D3
  show wpList _ _ _ [_] _ _
  have hne1 : w.heap.size ≠ rb := by omega
  have hne2 : w.heap.size + 1 ≠ rb := by omega
  have hdn := IntWalk.i64_in (r.done + 1) ⟨by omega, by omega⟩
  go_upto_region 6 with (fail)
  have hSt1 : Stepped w w1 H H := Stepped.first0 hO1 (Stepped.refl _ _)
  have q2 := hD1.setNow (max r.now c.time)
  have q3 := q2.1.setDone (r.done + 1)
  have hD5 := q3.1.keep0 (Only.refl [] _).drew
  have hS5 := (q2.2.trans q3.2).then0 (Only.refl [] _).drew
  have hgC : w.heap.size ∉ H := fun q => by have := hHl _ q; omega
  have hgA : w.heap.size + 1 ∉ H := fun q => by have := hHl _ q; omega
  have haz : a.heap.size ≤ w.heap.size + 1 := by have := h.only.size; omega
  have bC5 := (hS5.keepB bC1 hgC).1
  have bA5 := (hS5.keepB bA1 hgA).1
  have hSt5 := hSt1.trans hS5
  obtain ⟨W5, hW5⟩ : ∃ W, W = ((w1.setCell ⟨rb, 2, none⟩ (.int .i64 (max r.now c.time))).setCell ⟨rb, 3, none⟩ (.int .i64 (r.done + 1))).drew := ⟨_, rfl⟩
  rw [← hW5] at hD5 hS5 bC5 bA5 hSt5 ⊢
  rw [show ({ ({ r with now := max r.now c.time } : RS) with done := r.done + 1 } : RS) = r.tick c.time from rfl] at hD5
  clear hW5 q2 q3 hS5 hSt1 M2 M3 X2 X3 N2 N3 Y2 Y3 bC1 bA1 hmx hmy HTt hD1 k1
  have HGt := dget_any hD5 c.stream
  unfold DStr.val at HGt
  rw [show ((r.tick c.time).get c.stream).deleted = false from hd] at HGt
  have HG := Lib.hid HGt
  have HOf := Lib.hid (fun (W : World) (k : Only [] W5 W) => dof_any (hD5.keep0 k) hft.few c.stream)
  have hC5 := fun i => bC5.cell i
  clear HGt
  go_wp2_with fail
  refine HG.out.mono ?_
  rintro e2 w8 ⟨rfl, k8⟩
  have bC8 := k8.blk bC5 (by simp)
  have hC8 := fun i => bC8.cell i
  clear HG hC5
  go_wp2_with fail
  refine (HOf.out _ k8).mono ?_
  rintro e3 w9 ⟨v6, rfl, hown6, k9⟩
  obtain ⟨A6, c6, rfl, hn6, hm6⟩ := own_form hown6
  unfold maxLen at hm6
  have hk9 := k8.trans k9
  have hD9 := hD5.keep0 hk9
  have hSt9 := hSt5.then0 hk9
  have bC9 := hk9.blk bC5 (by simp)
  have bA9 := hk9.blk bA5 (by simp)
  obtain ⟨Al, cl, hls, hl1, hl2⟩ := hD9.ls
  have hlf := hft.few
  have hofl : ((r.tick c.time).of c.stream).length ≤ 1000000 := Nat.le_trans (List.length_filter_le _ _) hft.few
  obtain ⟨R, hR⟩ : ∃ R, R = r.tick c.time := ⟨_, rfl⟩
  rw [← hR] at hown6 hn6 hofl hD9 hls hl1 hlf hft ⊢
  have HR := Lib.hid hR
  clear HOf hC8 bC5 bA5 bC8 hD5 hSt5 hk9 k8 k9 hR hf hd HCk
  have hC9 := fun i => bC9.cell i
  have hwm := IntWalk.i64_in (((R.of c.stream).length : Int) - 1) ⟨by omega, by omega⟩
  obtain ⟨nL, hnL⟩ : ∃ n, n = (R.of c.stream).length := ⟨_, rfl⟩
  obtain ⟨nA, hnA⟩ : ∃ n, n = R.l.length := ⟨_, rfl⟩
  rw [← hnL] at hn6 hofl hwm ⊢
  rw [← hnA] at hls hl1 hlf
  have HnL := Lib.hid hnL
  have HnA := Lib.hid hnA
  have HOwn6 := Lib.hid hown6
  clear hnL hnA hown6
  go_upto_region 14 with (fail)
  obtain ⟨W14, hW14⟩ : ∃ W, W = (w9.alloc (.cells #[.int .i64 0, .int .i64 nL, .int .i64 nA, .bool false] 34)).alloc (.cells #[.int .i64 22, .int .i64 ((nL : Int) - 1), .int .i64 0, .bool false] 34) := ⟨_, rfl⟩
  rw [← hW14]
  have k14 : Only [] w9 W14 := by rw [hW14]; exact ((Only.refl [] w9).alloc _).alloc _
  have bh : Blk W14 w9.heap.size 34 #[.int .i64 0, .int .i64 nL, .int .i64 nA, .bool false] := by rw [hW14]; exact ((Only.refl [] _).alloc _).blk (Blk.new _ _ _) (by simp)
  have bx : Blk W14 (w9.heap.size + 1) 34 #[.int .i64 22, .int .i64 ((nL : Int) - 1), .int .i64 0, .bool false] := by
    rw [hW14]
    have := Blk.new (w9.alloc (.cells #[.int .i64 0, .int .i64 nL, .int .i64 nA, .bool false] 34)) 34 #[.int .i64 22, .int .i64 ((nL : Int) - 1), .int .i64 0, .bool false]
    simpa using this
  have hgh : w9.heap.size ∉ H := fun q => absurd (hD9.lt _ q) (by omega)
  have hgx : w9.heap.size + 1 ∉ H := fun q => absurd (hD9.lt _ q) (by omega)
  have hD14 := hD9.keep0 k14
  have hSt14 := hSt9.then0 k14
  have bC14 := k14.blk bC9 (by simp)
  have bA14 := k14.blk bA9 (by simp)
  have hOwn14 := Lib.hid (own_only HOwn6.out k14 (by simp))
  have hlt6 := Lib.hid (World.ownsRow.lt HOwn6.out)
  have hz9 : w.heap.size ≤ w9.heap.size := hSt9.size
  have hlt9 := bA9.lt
  have hz14 := k14.size
  have hls14 := (k14.cell (p := ⟨rb, 0, none⟩) (hD9.lt rb hrbH) (by simp)).trans hls
  have hC14 := fun i => bC14.cell i
  clear hC9 hls hW14 bC9 bA9 HOwn6 hSt9 w1 hO1
  have hmt := check_mt hk H4.out
  have HK1 := Lib.hid (dkeep_any hD14 c.stream hft.few (by have := HR.out; rw [this]; show r.s.length + 1 ≤ _; omega) (hft.mt _) (hft.kept _) hft.now)
  go_wp2_with fail
  refine HK1.out.mono ?_
  rintro e15 w15 ⟨rfl, H15, hD15, hSt15⟩
  obtain ⟨bC15, gC15⟩ := hSt15.keepB bC14 hgC
  obtain ⟨bA15, gA15⟩ := hSt15.keepB bA14 hgA
  obtain ⟨bh15, gh15⟩ := hSt15.keepB bh hgh
  have hC15 := fun i => bC15.cell i
  have HG15 := dget_any hD15 c.stream
  unfold DStr.val at HG15
  obtain ⟨x, hx⟩ : ∃ x, x = (R.keep c.stream).get c.stream := ⟨_, rfl⟩
  rw [← hx] at HG15
  have HX := Lib.hid hx
  have HG := Lib.hid HG15
  clear hx HG15 HK1 hC14
  go_wp2_with fail
  refine HG.out.mono ?_
  rintro e16 w16 ⟨rfl, k16⟩
  have hz16 := k16.size
  clear hC15 HG
  have bC16 := k16.blk bC15 (by simp)
  have bA16 := k16.blk bA15 (by simp)
  have bh16 := k16.blk bh15 (by simp)
  have hD16 := hD15.keep0 k16
  have hC17 := fun (o : Obj) i => (((Only.refl [] w16).alloc o).blk bC16 (by simp)).cell i
  go_upto_region 43 with (fail)
  obtain ⟨W17, hW17⟩ : ∃ W, W = w16.alloc (.cells #[.string x.name, .int .i64 c.mt.maxCount, .int .i64 c.mt.maxAge, .int .i64 c.mt.before, .int .i64 x.kept, .bool x.deleted] 82) := ⟨_, rfl⟩
  rw [← hW17]
  have k17 : Only [] w16 W17 := by rw [hW17]; exact (Only.refl [] w16).alloc _
  have b17 : Blk W17 w16.heap.size 82 #[.string x.name, .int .i64 c.mt.maxCount, .int .i64 c.mt.maxAge, .int .i64 c.mt.before, .int .i64 x.kept, .bool x.deleted] := by rw [hW17]; exact Blk.new _ _ _
  have hD17 := hD16.keep0 k17
  have bC17 := k17.blk bC16 (by simp)
  have bA17 := k17.blk bA16 (by simp)
  have bh17 := k17.blk bh16 (by simp)
  have hSt17 := ((hSt14.trans hSt15).then0 k16).then0 k17
  have hb17 := fun i => b17.cell i
  have hs15 : (R.keep c.stream).s.length ≤ r.s.length + 1 := by rw [HR.out]; exact keep_len _ _
  have HP := Lib.hid (dput_any hD17 { x with mt := c.mt } (by omega))
  have hf15 := hft.keep c.stream
  have hft18 : ((R.keep c.stream).put { x with mt := c.mt }).Fine := hf15.put (x := { x with mt := c.mt }) hmt (by rw [HX.out]; exact hf15.kept _)
  have hs18 : ((R.keep c.stream).put { x with mt := c.mt }).s.length + 1 ≤ 1000000 := by
    have := put_len (R.keep c.stream) { x with mt := c.mt }
    omega
  clear hC17 hW17
  go_wp2_with fail
  refine HP.out.mono ?_
  rintro e18 w18 ⟨rfl, H18, hD18, hSt18⟩
  obtain ⟨bC18, gC18⟩ := hSt18.keepB bC17 gC15
  obtain ⟨bA18, gA18⟩ := hSt18.keepB bA17 gA15
  obtain ⟨bh18, gh18⟩ := hSt18.keepB bh17 gh15
  have hSt0 := hSt17.trans hSt18
  have HFin := Lib.hid (show (((r.tick c.time).act c).1.val = .agg #[.int .i64 0, .int .i64 nL, .int .i64 nA, .bool false]) ∧ ((r.tick c.time).act c).2 = ((R.keep c.stream).put { x with mt := c.mt }).keep c.stream from by
    rw [← HR.out]
    unfold RS.act
    dsimp only
    rw [if_pos H4.out, HX.out, HnL.out, HnA.out]
    exact ⟨rfl, rfl⟩)
  clear HP hb17 hs15
  have HKp := Lib.hid (dkeep_any hD18 c.stream (hft18).few hs18 ((hft18).mt _) ((hft18).kept _) (hft18).now)
  have hCz := fun i => (bC18).cell i
  go_wp2_with fail
  refine HKp.out.mono ?_
  rintro eK wK ⟨rfl, HK, hDK, hStK⟩
  obtain ⟨bAK, gAK⟩ := hStK.keepB bA18 gA18
  obtain ⟨bhK, ghK⟩ := hStK.keepB bh18 gh18
  have hAKc := fun i => bAK.cell i
  have hAKf := fun i => bAK.free i
  have hhKc := fun i => bhK.cell i
  have hStT := (hSt0).trans hStK
  clear HKp hCz
  rw [← HFin.out.2] at hDK
  go_wp2
  have hS4 := (((bAK.set 0 (.int .i64 0)).set 1 (.int .i64 nL)).set 2 (.int .i64 nA)).set 3 (.bool false)
  have hge : w.heap.size ≤ w.heap.size + 1 := by omega
  have hD4 := (((hDK.setB (k := 0) (u := .int .i64 0) gAK haz).setB (k := 1) (u := .int .i64 nL) gAK haz).setB (k := 2) (u := .int .i64 nA) gAK haz).setB (k := 3) (u := .bool false) gAK haz
  have hSt4 := (((hStT.setB (k := 0) (u := .int .i64 0) hge).setB (k := 1) (u := .int .i64 nL) hge).setB (k := 2) (u := .int .i64 nA) hge).setB (k := 3) (u := .bool false) hge
  have hc4 := hS4.cell
  refine bodyPost_ret (v := .agg #[.int .i64 0, .int .i64 nL, .int .i64 nA, .bool false]) (by simp [results, Tryz.results10, go_sem, hc4]) rfl ⟨?ans, _, hD4, hSt4⟩
  case ans => rw [HFin.out.1]
end
end Go.Proofs.YteinoiicnmemhaaGreatDoor
/- The document's Do: deletion. -/
set_option linter.unusedVariables false
set_option linter.unusedSimpArgs false
namespace Go.Proofs.YteinoiicnmemhaaGreatDoor
open Go Go.RowKit Go.Sort
section
variable {a w : World} {H : List Nat} {rb : Nat} {r : RS}
set_option maxRecDepth 100000 in
set_option maxHeartbeats 4000000 in
theorem ddo_del (h : HasD a w H rb r) (hf : r.Fine) (hs : r.s.length + 3 ≤ 1000000) (hdb : 0 ≤ r.done ∧ r.done ≤ 1000000000) (c : Cmd) (v : Value) (he : Slc w 4 v c.events.length (c.events.flatMap EventR.cells)) (ho : CmdOk c) (hk : c.check = 0) (h4 : c.kind = 3) (hd : (r.get c.stream).deleted = false) :
    Calls Tryz.prog 10 #[.pointer (some ⟨rb, 0, none⟩), c.val v] w fun e w' => e = .returned ((r.tick c.time).act c).1.val ∧ DTo a w H rb ((r.tick c.time).act c).2 w' := by
  have hb2 : (c.kind == 2) = false := by rw [beq_eq_false_iff_ne]; omega
  have hb3 : (c.kind == 3) = true := by simpa using h4
  have hlt4 : c.kind < 4 := by omega
  have H4 := Lib.hid h4
  clear h4
  have hft := hf.tick (check_kind hk).2.2
  obtain ⟨A1, cap1, hev, hn3, hn4, hes⟩ := he.openE EventR.cells (fun _ => rfl)
  unfold maxLen at hn4
  subst hev
  have HCk := Lib.hid (fun (W : World) (hw : Only [] w W) => show Calls Tryz.prog 25 #[.agg #[.int .i64 c.kind, .int .i64 c.time, .string c.stream, .int .i64 c.expected, .slice A1 c.events.length cap1, .int .i64 c.mt.maxCount, .int .i64 c.mt.maxAge, .int .i64 c.mt.before]] W fun e w' => e = .returned (.int .i64 c.check) ∧ Only [] W w' from r7check_any c _ W (he.only0 hw) ho)
  have h2 : ∀ o1 o2, Only [] w ((w.alloc o1).alloc o2) := fun o1 o2 => ((Only.refl [] w).alloc o1).alloc o2
  have kC : ∀ cs t o2, Blk ((w.alloc (.cells cs t)).alloc o2) w.heap.size t cs := fun cs t o2 => ((Only.refl [] _).alloc o2).blk (Blk.new w t cs) (by simp)
  have kA : ∀ cs t o1, Blk ((w.alloc o1).alloc (.cells cs t)) (w.heap.size + 1) t cs := fun cs t o1 => by
    have := Blk.new (w.alloc o1) t cs
    simpa using this
  rw [show c.val (.slice A1 c.events.length cap1) = .agg #[.int .i64 c.kind, .int .i64 c.time, .string c.stream, .int .i64 c.expected, .slice A1 c.events.length cap1, .int .i64 c.mt.maxCount, .int .i64 c.mt.maxAge, .int .i64 c.mt.before] from rfl]
  rw [hk] at HCk
  have hHl := h.lt
  have hfd3 := fldD3
  go_enter Tryz.func10, Tryz.ntmps10
  go_wp2_with fail
  refine (HCk.out _ (h2 _ _)).mono ?_
  rintro e1 w1 ⟨rfl, k1⟩
  go_wp2_with fail
  have hO1 : Only [] w w1 := (h2 _ _).trans k1
  have bC1 := k1.blk (kC _ _ _) (by simp)
  have bA1 := k1.blk (kA _ _ _) (by simp)
  have hD1 := h.keep0 hO1
  obtain ⟨M2, M3, X2, X3⟩ := hD1.nums
  have hrbH := h.rbH
  have hrbl := h.lt rb hrbH
  obtain ⟨t, ht⟩ : ∃ t, t = max r.now c.time := ⟨_, rfl⟩
  have hmx : (if r.now < c.time then c.time else r.now) = t := by rw [ht]; split <;> omega
  have hmy : (if c.time > r.now then c.time else r.now) = t := hmx
  have HTt := Lib.hid ht
  clear ht
  have C1 := Within.cell (S := []) (bC1.cell 1) (by simp)
  have D2 := Within.cell (S := []) M2 (by simp)
  have D3 := Within.cell (S := []) M3 (by simp)
  refine wp_region_in [] [0, 1, 2, 3, 4, 5, 6, 7, 8, 9] [] [10] (by kernel_rfl) (by kernel_rfl) (by intro c d u a w h; cases d <;> exact h) ?_
  show wpQuiet _ _ _ _ [_, _, _, _, _, _, _, _, _, _] _
  repeat (go_big_quiet_step (fail))
  refine wpQuiet_nil ?_
  have N2 := M2
  have N3 := M3
  have Y2 := X2
  have Y3 := X3
  clear C1 D2 D3
  show wpList _ _ _ [_] _ _
  have hne1 : w.heap.size ≠ rb := by omega
  have hne2 : w.heap.size + 1 ≠ rb := by omega
  have hdn := IntWalk.i64_in (r.done + 1) ⟨by omega, by omega⟩
  go_upto_region 6 with (fail)
  have hSt1 : Stepped w w1 H H := Stepped.first0 hO1 (Stepped.refl _ _)
  have q2 := hD1.setNow (max r.now c.time)
  have q3 := q2.1.setDone (r.done + 1)
  have hD5 := q3.1.keep0 (Only.refl [] _).drew
  have hS5 := (q2.2.trans q3.2).then0 (Only.refl [] _).drew
  have hgC : w.heap.size ∉ H := fun q => by have := hHl _ q; omega
  have hgA : w.heap.size + 1 ∉ H := fun q => by have := hHl _ q; omega
  have haz : a.heap.size ≤ w.heap.size + 1 := by have := h.only.size; omega
  have bC5 := (hS5.keepB bC1 hgC).1
  have bA5 := (hS5.keepB bA1 hgA).1
  have hSt5 := hSt1.trans hS5
  obtain ⟨W5, hW5⟩ : ∃ W, W = ((w1.setCell ⟨rb, 2, none⟩ (.int .i64 (max r.now c.time))).setCell ⟨rb, 3, none⟩ (.int .i64 (r.done + 1))).drew := ⟨_, rfl⟩
  rw [← hW5] at hD5 hS5 bC5 bA5 hSt5 ⊢
  rw [show ({ ({ r with now := max r.now c.time } : RS) with done := r.done + 1 } : RS) = r.tick c.time from rfl] at hD5
  clear hW5 q2 q3 hS5 hSt1 M2 M3 X2 X3 N2 N3 Y2 Y3 bC1 bA1 hmx hmy HTt hD1 k1
  have HGt := dget_any hD5 c.stream
  unfold DStr.val at HGt
  rw [show ((r.tick c.time).get c.stream).deleted = false from hd] at HGt
  have HG := Lib.hid HGt
  have HOf := Lib.hid (fun (W : World) (k : Only [] W5 W) => dof_any (hD5.keep0 k) hft.few c.stream)
  have hC5 := fun i => bC5.cell i
  clear HGt
  go_wp2_with fail
  refine HG.out.mono ?_
  rintro e2 w8 ⟨rfl, k8⟩
  have bC8 := k8.blk bC5 (by simp)
  have hC8 := fun i => bC8.cell i
  clear HG hC5
  go_wp2_with fail
  refine (HOf.out _ k8).mono ?_
  rintro e3 w9 ⟨v6, rfl, hown6, k9⟩
  obtain ⟨A6, c6, rfl, hn6, hm6⟩ := own_form hown6
  unfold maxLen at hm6
  have hk9 := k8.trans k9
  have hD9 := hD5.keep0 hk9
  have hSt9 := hSt5.then0 hk9
  have bC9 := hk9.blk bC5 (by simp)
  have bA9 := hk9.blk bA5 (by simp)
  obtain ⟨Al, cl, hls, hl1, hl2⟩ := hD9.ls
  have hlf := hft.few
  have hofl : ((r.tick c.time).of c.stream).length ≤ 1000000 := Nat.le_trans (List.length_filter_le _ _) hft.few
  obtain ⟨R, hR⟩ : ∃ R, R = r.tick c.time := ⟨_, rfl⟩
  rw [← hR] at hown6 hn6 hofl hD9 hls hl1 hlf hft ⊢
  have HR := Lib.hid hR
  clear HOf hC8 bC5 bA5 bC8 hD5 hSt5 hk9 k8 k9 hR hf hd HCk
  have hC9 := fun i => bC9.cell i
  have hwm := IntWalk.i64_in (((R.of c.stream).length : Int) - 1) ⟨by omega, by omega⟩
  obtain ⟨nL, hnL⟩ : ∃ n, n = (R.of c.stream).length := ⟨_, rfl⟩
  obtain ⟨nA, hnA⟩ : ∃ n, n = R.l.length := ⟨_, rfl⟩
  rw [← hnL] at hn6 hofl hwm ⊢
  rw [← hnA] at hls hl1 hlf
  have HnL := Lib.hid hnL
  have HnA := Lib.hid hnA
  have HOwn6 := Lib.hid hown6
  clear hnL hnA hown6
  go_upto_region 14 with (fail)
  obtain ⟨W14, hW14⟩ : ∃ W, W = (w9.alloc (.cells #[.int .i64 0, .int .i64 nL, .int .i64 nA, .bool false] 34)).alloc (.cells #[.int .i64 22, .int .i64 ((nL : Int) - 1), .int .i64 0, .bool false] 34) := ⟨_, rfl⟩
  rw [← hW14]
  have k14 : Only [] w9 W14 := by rw [hW14]; exact ((Only.refl [] w9).alloc _).alloc _
  have bh : Blk W14 w9.heap.size 34 #[.int .i64 0, .int .i64 nL, .int .i64 nA, .bool false] := by rw [hW14]; exact ((Only.refl [] _).alloc _).blk (Blk.new _ _ _) (by simp)
  have bx : Blk W14 (w9.heap.size + 1) 34 #[.int .i64 22, .int .i64 ((nL : Int) - 1), .int .i64 0, .bool false] := by
    rw [hW14]
    have := Blk.new (w9.alloc (.cells #[.int .i64 0, .int .i64 nL, .int .i64 nA, .bool false] 34)) 34 #[.int .i64 22, .int .i64 ((nL : Int) - 1), .int .i64 0, .bool false]
    simpa using this
  have hgh : w9.heap.size ∉ H := fun q => absurd (hD9.lt _ q) (by omega)
  have hgx : w9.heap.size + 1 ∉ H := fun q => absurd (hD9.lt _ q) (by omega)
  have hD14 := hD9.keep0 k14
  have hSt14 := hSt9.then0 k14
  have bC14 := k14.blk bC9 (by simp)
  have bA14 := k14.blk bA9 (by simp)
  have hOwn14 := Lib.hid (own_only HOwn6.out k14 (by simp))
  have hlt6 := Lib.hid (World.ownsRow.lt HOwn6.out)
  have hz9 : w.heap.size ≤ w9.heap.size := hSt9.size
  have hlt9 := bA9.lt
  have hz14 := k14.size
  have hls14 := (k14.cell (p := ⟨rb, 0, none⟩) (hD9.lt rb hrbH) (by simp)).trans hls
  have hC14 := fun i => bC14.cell i
  clear hC9 hls hW14 bC9 bA9 HOwn6 hSt9 w1 hO1
  have HFt := Lib.hid (fun (W : World) => dfits_any c.expected nL W (by omega))
  have hsR : R.s.length + 3 ≤ 1000000 := by rw [HR.out]; exact hs
  cases hq : fitsD c.expected nL with
  | false =>
    rw [hq] at HFt
    have HFin := Lib.hid (show (((r.tick c.time).act c).1.val = .agg #[.int .i64 22, .int .i64 ((nL : Int) - 1), .int .i64 0, .bool false]) ∧ ((r.tick c.time).act c).2 = R.keep c.stream from by
      rw [← HR.out]
      unfold RS.act
      dsimp only
      rw [if_neg (by rw [H4.out]; decide), if_pos H4.out, ← HnL.out, if_pos hq]
      unfold RS.wrongD
      rw [← HnL.out]
      exact ⟨rfl, rfl⟩)
    have hXc := fun i => bx.cell i
    have hHc := fun i => bh.cell i
    have hHf := fun i => bh.free i
    go_upto_region 50 with (go_at_call 30; refine (HFt.out _).mono ?_; rintro e15 w15 ⟨rfl, rfl⟩)
    have bhW := (((bh.set 0 (.int .i64 22)).set 1 (.int .i64 ((nL : Int) - 1))).set 2 (.int .i64 0)).set 3 (.bool false)
    have koW : Only [w9.heap.size] W14 ((((W14.setCell ⟨w9.heap.size, 0, none⟩ (.int .i64 22)).setCell ⟨w9.heap.size, 1, none⟩ (.int .i64 ((nL : Int) - 1))).setCell ⟨w9.heap.size, 2, none⟩ (.int .i64 0)).setCell ⟨w9.heap.size, 3, none⟩ (.bool false)) := by
      iterate 4 (refine Only.setCell ?_ (.inl (by simp)) _)
      exact Only.refl _ _
    have bCW := koW.blk bC14 (by simp; omega)
    have bAW := koW.blk bA14 (by simp; omega)
    have hDW := hD14.keep koW (by have := h.only.size; simp; omega) (fun b hb => by simp; exact fun e => hgh (e ▸ hb))
    have hStW := (((hSt14.setB (g := w9.heap.size) (k := 0) (u := .int .i64 22) hz9).setB (g := w9.heap.size) (k := 1) (u := .int .i64 ((nL : Int) - 1)) hz9).setB (g := w9.heap.size) (k := 2) (u := .int .i64 0) hz9).setB (g := w9.heap.size) (k := 3) (u := .bool false) hz9
    obtain ⟨WW, hWW⟩ : ∃ W, W = (((W14.setCell ⟨w9.heap.size, 0, none⟩ (.int .i64 22)).setCell ⟨w9.heap.size, 1, none⟩ (.int .i64 ((nL : Int) - 1))).setCell ⟨w9.heap.size, 2, none⟩ (.int .i64 0)).setCell ⟨w9.heap.size, 3, none⟩ (.bool false) := ⟨_, rfl⟩
    rw [← hWW] at bhW koW bCW bAW hDW hStW ⊢
    clear hWW
    have hs18 : R.s.length + 1 ≤ 1000000 := by omega
    clear hXc hHc hHf hC14 HFt
    have HKp := Lib.hid (dkeep_any hDW c.stream (hft).few hs18 ((hft).mt _) ((hft).kept _) (hft).now)
    have hCz := fun i => (bCW).cell i
    go_wp2_with fail
    refine HKp.out.mono ?_
    rintro eK wK ⟨rfl, HK, hDK, hStK⟩
    obtain ⟨bAK, gAK⟩ := hStK.keepB bAW hgA
    obtain ⟨bhK, ghK⟩ := hStK.keepB bhW hgh
    have hAKc := fun i => bAK.cell i
    have hAKf := fun i => bAK.free i
    have hhKc := fun i => bhK.cell i
    have hStT := (hStW).trans hStK
    clear HKp hCz
    rw [← HFin.out.2] at hDK
    go_wp2
    have hS4 := (((bAK.set 0 (.int .i64 22)).set 1 (.int .i64 ((nL : Int) - 1))).set 2 (.int .i64 0)).set 3 (.bool false)
    have hge : w.heap.size ≤ w.heap.size + 1 := by omega
    have hD4 := (((hDK.setB (k := 0) (u := .int .i64 22) gAK haz).setB (k := 1) (u := .int .i64 ((nL : Int) - 1)) gAK haz).setB (k := 2) (u := .int .i64 0) gAK haz).setB (k := 3) (u := .bool false) gAK haz
    have hSt4 := (((hStT.setB (k := 0) (u := .int .i64 22) hge).setB (k := 1) (u := .int .i64 ((nL : Int) - 1)) hge).setB (k := 2) (u := .int .i64 0) hge).setB (k := 3) (u := .bool false) hge
    have hc4 := hS4.cell
    refine bodyPost_ret (v := .agg #[.int .i64 22, .int .i64 ((nL : Int) - 1), .int .i64 0, .bool false]) (by simp [results, Tryz.results10, go_sem, hc4]) rfl ⟨?ans, _, hD4, hSt4⟩
    case ans => rw [HFin.out.1]
  | true =>
    rw [hq] at HFt
    obtain ⟨x, hx⟩ : ∃ x, x = R.get c.stream := ⟨_, rfl⟩
    have HFin := Lib.hid (show (((r.tick c.time).act c).1.val = .agg #[.int .i64 0, .int .i64 nL, .int .i64 nA, .bool false]) ∧ ((r.tick c.time).act c).2 = (R.put { x with deleted := true }).keep c.stream from by
      rw [← HR.out]
      unfold RS.act
      dsimp only
      rw [if_neg (by rw [H4.out]; decide), if_pos H4.out, ← HnL.out, if_neg (by rw [hq]; simp), hx, HnA.out]
      exact ⟨rfl, rfl⟩)
    have HG15 := dget_any hD14 c.stream
    unfold DStr.val at HG15
    rw [← hx] at HG15
    have HX := Lib.hid hx
    have HG := Lib.hid HG15
    clear hx HG15
    go_wp2_with (go_at_call 30; refine (HFt.out _).mono ?_; rintro e15 w15 ⟨rfl, rfl⟩)
    refine HG.out.mono ?_
    rintro e16 w16 ⟨rfl, k16⟩
    have bC16 := k16.blk bC14 (by simp)
    have bA16 := k16.blk bA14 (by simp)
    have bh16 := k16.blk bh (by simp)
    have hD16 := hD14.keep0 k16
    go_upto_region 49 with (fail)
    obtain ⟨W17, hW17⟩ : ∃ W, W = w16.alloc (.cells #[.string x.name, .int .i64 x.mt.maxCount, .int .i64 x.mt.maxAge, .int .i64 x.mt.before, .int .i64 x.kept, .bool true] 82) := ⟨_, rfl⟩
    rw [← hW17]
    have k17 : Only [] w16 W17 := by rw [hW17]; exact (Only.refl [] w16).alloc _
    have b17 : Blk W17 w16.heap.size 82 #[.string x.name, .int .i64 x.mt.maxCount, .int .i64 x.mt.maxAge, .int .i64 x.mt.before, .int .i64 x.kept, .bool true] := by rw [hW17]; exact Blk.new _ _ _
    have hD17 := hD16.keep0 k17
    have bC17 := k17.blk bC16 (by simp)
    have bA17 := k17.blk bA16 (by simp)
    have bh17 := k17.blk bh16 (by simp)
    have hSt17 := (hSt14.then0 k16).then0 k17
    have hb17 := fun i => b17.cell i
    have HP := Lib.hid (dput_any hD17 { x with deleted := true } (by omega))
    have hft18 : (R.put { x with deleted := true }).Fine := hft.put (x := { x with deleted := true }) (by rw [HX.out]; exact hft.mt _) (by rw [HX.out]; exact hft.kept _)
    have hs18 : (R.put { x with deleted := true }).s.length + 1 ≤ 1000000 := by
      have := put_len R { x with deleted := true }
      omega
    clear hW17 hC14
    go_wp2_with fail
    refine HP.out.mono ?_
    rintro e18 w18 ⟨rfl, H18, hD18, hSt18⟩
    obtain ⟨bC18, gC18⟩ := hSt18.keepB bC17 hgC
    obtain ⟨bA18, gA18⟩ := hSt18.keepB bA17 hgA
    obtain ⟨bh18, gh18⟩ := hSt18.keepB bh17 hgh
    have hSt0 := hSt17.trans hSt18
    clear HP hb17
    have HKp := Lib.hid (dkeep_any hD18 c.stream (hft18).few hs18 ((hft18).mt _) ((hft18).kept _) (hft18).now)
    have hCz := fun i => (bC18).cell i
    go_wp2_with fail
    refine HKp.out.mono ?_
    rintro eK wK ⟨rfl, HK, hDK, hStK⟩
    obtain ⟨bAK, gAK⟩ := hStK.keepB bA18 gA18
    obtain ⟨bhK, ghK⟩ := hStK.keepB bh18 gh18
    have hAKc := fun i => bAK.cell i
    have hAKf := fun i => bAK.free i
    have hhKc := fun i => bhK.cell i
    have hStT := (hSt0).trans hStK
    clear HKp hCz
    rw [← HFin.out.2] at hDK
    go_wp2
    have hS4 := (((bAK.set 0 (.int .i64 0)).set 1 (.int .i64 nL)).set 2 (.int .i64 nA)).set 3 (.bool false)
    have hge : w.heap.size ≤ w.heap.size + 1 := by omega
    have hD4 := (((hDK.setB (k := 0) (u := .int .i64 0) gAK haz).setB (k := 1) (u := .int .i64 nL) gAK haz).setB (k := 2) (u := .int .i64 nA) gAK haz).setB (k := 3) (u := .bool false) gAK haz
    have hSt4 := (((hStT.setB (k := 0) (u := .int .i64 0) hge).setB (k := 1) (u := .int .i64 nL) hge).setB (k := 2) (u := .int .i64 nA) hge).setB (k := 3) (u := .bool false) hge
    have hc4 := hS4.cell
    refine bodyPost_ret (v := .agg #[.int .i64 0, .int .i64 nL, .int .i64 nA, .bool false]) (by simp [results, Tryz.results10, go_sem, hc4]) rfl ⟨?ans, _, hD4, hSt4⟩
    case ans => rw [HFin.out.1]
end
end Go.Proofs.YteinoiicnmemhaaGreatDoor
/- The document's Do: an append. -/
set_option linter.unusedVariables false
set_option linter.unusedSimpArgs false
namespace Go.Proofs.YteinoiicnmemhaaGreatDoor
open Go Go.RowKit Go.Sort
theorem evs_one {l : List EventR} (h : eventsE l = 0) : 0 < l.length := by
  cases l with
  | nil => exact absurd h (by decide)
  | cons x l => simp
theorem head_id (l : List EventR) (h : 0 < l.length) : l[0].id = ((l.head?).map (·.id)).getD 0 := by
  cases l with
  | nil => cases h
  | cons x l => rfl
theorem idsAt_take {x : EventR} : ∀ (es : List EventR) (L : List StoredR) (k : Nat) (hk : k < es.length) (hl : k < L.length), idsAt (es.take (k + 1)) L = (idsAt (es.take k) L && decide (L[k].ev.id = es[k].id))
  | [], _, k, hk, _ => by simp at hk
  | e :: es, [], k, _, hl => by simp at hl
  | e :: es, y :: L, 0, _, _ => by simp [idsAt]
  | e :: es, y :: L, k + 1, hk, hl => by
    simp only [List.take_succ_cons, idsAt, List.getElem_cons_succ]
    rw [idsAt_take (x := x) es L k (by simpa using hk) (by simpa using hl), Bool.and_assoc]
theorem idsAt_pre : ∀ (es : List EventR) (L : List StoredR) (k : Nat), idsAt (es.take k) L = false → idsAt es L = false
  | [], L, k, h => by simpa using h
  | e :: es, L, 0, h => by simp [idsAt] at h
  | e :: es, [], k + 1, h => rfl
  | e :: es, y :: L, k + 1, h => by
    simp only [List.take_succ_cons, idsAt, Bool.and_eq_false_iff] at h ⊢
    exact h.imp id (idsAt_pre es L k)
theorem firstAt_nil (id : Int) (k : Int) : firstAt id [] k = -1 := rfl
theorem firstAt_yes {id : Int} {y : StoredR} {l : List StoredR} {k : Int} (h : y.ev.id = id) : firstAt id (y :: l) k = k := by unfold firstAt; rw [if_pos h]
theorem firstAt_no {id : Int} {y : StoredR} {l : List StoredR} {k : Int} (h : ¬ y.ev.id = id) : firstAt id (y :: l) k = firstAt id l (k + 1) := by
  show (if y.ev.id = id then k else firstAt id l (k + 1)) = _
  rw [if_neg h]
theorem firstAt_bd (id : Int) : ∀ (l : List StoredR) (k : Int), 0 ≤ k → firstAt id l k = -1 ∨ (k ≤ firstAt id l k ∧ firstAt id l k < k + l.length)
  | [], k, _ => .inl rfl
  | y :: l, k, hk => by
    by_cases h : y.ev.id = id
    · rw [firstAt_yes h, List.length_cons]; right; omega
    · rw [firstAt_no h, List.length_cons]
      rcases firstAt_bd id l (k + 1) (by omega) with q | q
      · exact .inl q
      · right; omega
theorem firstAt_old (id : Int) (x : StoredR) : ∀ (l : List StoredR) (k : Int), 0 ≤ k → 0 ≤ firstAt id l k → firstAt id (l ++ [x]) k = firstAt id l k
  | [], k, _, h => by rw [firstAt_nil] at h; omega
  | y :: l, k, hk, h => by
    by_cases q : y.ev.id = id
    · rw [List.cons_append, firstAt_yes q, firstAt_yes q]
    · rw [firstAt_no q] at h
      rw [List.cons_append, firstAt_no q, firstAt_no q, firstAt_old id x l (k + 1) (by omega) h]
theorem firstAt_new (id : Int) (x : StoredR) : ∀ (l : List StoredR) (k : Int), 0 ≤ k → firstAt id l k < 0 → firstAt id (l ++ [x]) k = if x.ev.id = id then k + l.length else -1
  | [], k, hk, h => by
    rw [List.nil_append]
    by_cases q : x.ev.id = id
    · rw [firstAt_yes q, if_pos q]; simp
    · rw [firstAt_no q, if_neg q]; rfl
  | y :: l, k, hk, h => by
    by_cases q : y.ev.id = id
    · rw [firstAt_yes q] at h; omega
    · rw [firstAt_no q] at h
      rw [List.cons_append, firstAt_no q, firstAt_new id x l (k + 1) (by omega) h, List.length_cons]
      by_cases z : x.ev.id = id
      · rw [if_pos z, if_pos z]; omega
      · rw [if_neg z, if_neg z]
section
variable {a w : World} {H : List Nat} {rb : Nat} {r : RS}
set_option maxRecDepth 100000 in
set_option maxHeartbeats 4000000 in
theorem ddo_app1 (h : HasD a w H rb r) (hf : r.Fine) (hs : r.s.length + 3 ≤ 1000000) (hdb : 0 ≤ r.done ∧ r.done ≤ 1000000000) (c : Cmd) (v : Value) (he : Slc w 4 v c.events.length (c.events.flatMap EventR.cells)) (hn : ∀ g, v.ownBlock = some g → g ∉ H) (ho : CmdOk c) (hk : c.check = 0) (h4 : c.kind = 1) (hd : (r.get c.stream).deleted = false)
    (hv : 0 ≤ firstAt (((c.events.head?).map (·.id)).getD 0) (r.of c.stream) 0) :
    Calls Tryz.prog 10 #[.pointer (some ⟨rb, 0, none⟩), c.val v] w fun e w' => e = .returned ((r.tick c.time).act c).1.val ∧ DTo a w H rb ((r.tick c.time).act c).2 w' := by
  have hb2 : (c.kind == 2) = false := by rw [beq_eq_false_iff_ne]; omega
  have hb3 : (c.kind == 3) = false := by rw [beq_eq_false_iff_ne]; omega
  have hlt4 : c.kind < 4 := by omega
  have H4 := Lib.hid h4
  clear h4
  have hft := hf.tick (check_kind hk).2.2
  obtain ⟨A1, cap1, hev, hn3, hn4, hes⟩ := he.openE EventR.cells (fun _ => rfl)
  unfold maxLen at hn4
  subst hev
  have HCk := Lib.hid (fun (W : World) (hw : Only [] w W) => show Calls Tryz.prog 25 #[.agg #[.int .i64 c.kind, .int .i64 c.time, .string c.stream, .int .i64 c.expected, .slice A1 c.events.length cap1, .int .i64 c.mt.maxCount, .int .i64 c.mt.maxAge, .int .i64 c.mt.before]] W fun e w' => e = .returned (.int .i64 c.check) ∧ Only [] W w' from r7check_any c _ W (he.only0 hw) ho)
  have h2 : ∀ o1 o2, Only [] w ((w.alloc o1).alloc o2) := fun o1 o2 => ((Only.refl [] w).alloc o1).alloc o2
  have kC : ∀ cs t o2, Blk ((w.alloc (.cells cs t)).alloc o2) w.heap.size t cs := fun cs t o2 => ((Only.refl [] _).alloc o2).blk (Blk.new w t cs) (by simp)
  have kA : ∀ cs t o1, Blk ((w.alloc o1).alloc (.cells cs t)) (w.heap.size + 1) t cs := fun cs t o1 => by
    have := Blk.new (w.alloc o1) t cs
    simpa using this
  rw [show c.val (.slice A1 c.events.length cap1) = .agg #[.int .i64 c.kind, .int .i64 c.time, .string c.stream, .int .i64 c.expected, .slice A1 c.events.length cap1, .int .i64 c.mt.maxCount, .int .i64 c.mt.maxAge, .int .i64 c.mt.before] from rfl]
  rw [hk] at HCk
  have hHl := h.lt
  have hfd3 := fldD3
  go_enter Tryz.func10, Tryz.ntmps10
  go_wp2_with fail
  refine (HCk.out _ (h2 _ _)).mono ?_
  rintro e1 w1 ⟨rfl, k1⟩
  go_wp2_with fail
  have hO1 : Only [] w w1 := (h2 _ _).trans k1
  have bC1 := k1.blk (kC _ _ _) (by simp)
  have bA1 := k1.blk (kA _ _ _) (by simp)
  have hD1 := h.keep0 hO1
  obtain ⟨M2, M3, X2, X3⟩ := hD1.nums
  have hrbH := h.rbH
  have hrbl := h.lt rb hrbH
  obtain ⟨t, ht⟩ : ∃ t, t = max r.now c.time := ⟨_, rfl⟩
  have hmx : (if r.now < c.time then c.time else r.now) = t := by rw [ht]; split <;> omega
  have hmy : (if c.time > r.now then c.time else r.now) = t := hmx
  have HTt := Lib.hid ht
  clear ht
  have C1 := Within.cell (S := []) (bC1.cell 1) (by simp)
  have D2 := Within.cell (S := []) M2 (by simp)
  have D3 := Within.cell (S := []) M3 (by simp)
  refine wp_region_in [] [0, 1, 2, 3, 4, 5, 6, 7, 8, 9] [] [10] (by kernel_rfl) (by kernel_rfl) (by intro c d u a w h; cases d <;> exact h) ?_
  show wpQuiet _ _ _ _ [_, _, _, _, _, _, _, _, _, _] _
  repeat (go_big_quiet_step (fail))
  refine wpQuiet_nil ?_
  have N2 := M2
  have N3 := M3
  have Y2 := X2
  have Y3 := X3
  clear C1 D2 D3
  show wpList _ _ _ [_] _ _
  have hne1 : w.heap.size ≠ rb := by omega
  have hne2 : w.heap.size + 1 ≠ rb := by omega
  have hdn := IntWalk.i64_in (r.done + 1) ⟨by omega, by omega⟩
  go_upto_region 6 with (fail)
  have hSt1 : Stepped w w1 H H := Stepped.first0 hO1 (Stepped.refl _ _)
  have q2 := hD1.setNow (max r.now c.time)
  have q3 := q2.1.setDone (r.done + 1)
  have hD5 := q3.1.keep0 (Only.refl [] _).drew
  have hS5 := (q2.2.trans q3.2).then0 (Only.refl [] _).drew
  have hgC : w.heap.size ∉ H := fun q => by have := hHl _ q; omega
  have hgA : w.heap.size + 1 ∉ H := fun q => by have := hHl _ q; omega
  have haz : a.heap.size ≤ w.heap.size + 1 := by have := h.only.size; omega
  have bC5 := (hS5.keepB bC1 hgC).1
  have bA5 := (hS5.keepB bA1 hgA).1
  have hSt5 := hSt1.trans hS5
  obtain ⟨W5, hW5⟩ : ∃ W, W = ((w1.setCell ⟨rb, 2, none⟩ (.int .i64 (max r.now c.time))).setCell ⟨rb, 3, none⟩ (.int .i64 (r.done + 1))).drew := ⟨_, rfl⟩
  rw [← hW5] at hD5 hS5 bC5 bA5 hSt5 ⊢
  rw [show ({ ({ r with now := max r.now c.time } : RS) with done := r.done + 1 } : RS) = r.tick c.time from rfl] at hD5
  clear hW5 q2 q3 hS5 hSt1 M2 M3 X2 X3 N2 N3 Y2 Y3 bC1 bA1 hmx hmy HTt hD1 k1
  have HGt := dget_any hD5 c.stream
  unfold DStr.val at HGt
  rw [show ((r.tick c.time).get c.stream).deleted = false from hd] at HGt
  have HG := Lib.hid HGt
  have HOf := Lib.hid (fun (W : World) (k : Only [] W5 W) => dof_any (hD5.keep0 k) hft.few c.stream)
  have hC5 := fun i => bC5.cell i
  clear HGt
  go_wp2_with fail
  refine HG.out.mono ?_
  rintro e2 w8 ⟨rfl, k8⟩
  have bC8 := k8.blk bC5 (by simp)
  have hC8 := fun i => bC8.cell i
  clear HG hC5
  go_wp2_with fail
  refine (HOf.out _ k8).mono ?_
  rintro e3 w9 ⟨v6, rfl, hown6, k9⟩
  obtain ⟨A6, c6, rfl, hn6, hm6⟩ := own_form hown6
  unfold maxLen at hm6
  have hk9 := k8.trans k9
  have hD9 := hD5.keep0 hk9
  have hSt9 := hSt5.then0 hk9
  have bC9 := hk9.blk bC5 (by simp)
  have bA9 := hk9.blk bA5 (by simp)
  obtain ⟨Al, cl, hls, hl1, hl2⟩ := hD9.ls
  have hlf := hft.few
  have hofl : ((r.tick c.time).of c.stream).length ≤ 1000000 := Nat.le_trans (List.length_filter_le _ _) hft.few
  obtain ⟨R, hR⟩ : ∃ R, R = r.tick c.time := ⟨_, rfl⟩
  rw [← hR] at hown6 hn6 hofl hD9 hls hl1 hlf hft ⊢
  have HR := Lib.hid hR
  clear HOf hC8 bC5 bA5 bC8 hD5 hSt5 hk9 k8 k9 hR hf hd HCk
  have hC9 := fun i => bC9.cell i
  have hwm := IntWalk.i64_in (((R.of c.stream).length : Int) - 1) ⟨by omega, by omega⟩
  obtain ⟨nL, hnL⟩ : ∃ n, n = (R.of c.stream).length := ⟨_, rfl⟩
  obtain ⟨nA, hnA⟩ : ∃ n, n = R.l.length := ⟨_, rfl⟩
  rw [← hnL] at hn6 hofl hwm ⊢
  rw [← hnA] at hls hl1 hlf
  have HnL := Lib.hid hnL
  have HnA := Lib.hid hnA
  have HOwn6 := Lib.hid hown6
  clear hnL hnA hown6
  go_upto_region 14 with (fail)
  obtain ⟨W14, hW14⟩ : ∃ W, W = (w9.alloc (.cells #[.int .i64 0, .int .i64 nL, .int .i64 nA, .bool false] 34)).alloc (.cells #[.int .i64 22, .int .i64 ((nL : Int) - 1), .int .i64 0, .bool false] 34) := ⟨_, rfl⟩
  rw [← hW14]
  have k14 : Only [] w9 W14 := by rw [hW14]; exact ((Only.refl [] w9).alloc _).alloc _
  have bh : Blk W14 w9.heap.size 34 #[.int .i64 0, .int .i64 nL, .int .i64 nA, .bool false] := by rw [hW14]; exact ((Only.refl [] _).alloc _).blk (Blk.new _ _ _) (by simp)
  have bx : Blk W14 (w9.heap.size + 1) 34 #[.int .i64 22, .int .i64 ((nL : Int) - 1), .int .i64 0, .bool false] := by
    rw [hW14]
    have := Blk.new (w9.alloc (.cells #[.int .i64 0, .int .i64 nL, .int .i64 nA, .bool false] 34)) 34 #[.int .i64 22, .int .i64 ((nL : Int) - 1), .int .i64 0, .bool false]
    simpa using this
  have hgh : w9.heap.size ∉ H := fun q => absurd (hD9.lt _ q) (by omega)
  have hgx : w9.heap.size + 1 ∉ H := fun q => absurd (hD9.lt _ q) (by omega)
  have hD14 := hD9.keep0 k14
  have hSt14 := hSt9.then0 k14
  have bC14 := k14.blk bC9 (by simp)
  have bA14 := k14.blk bA9 (by simp)
  have hOwn14 := Lib.hid (own_only HOwn6.out k14 (by simp))
  have hlt6 := Lib.hid (World.ownsRow.lt HOwn6.out)
  have hz9 : w.heap.size ≤ w9.heap.size := hSt9.size
  have hlt9 := bA9.lt
  have hz14 := k14.size
  have hls14 := (k14.cell (p := ⟨rb, 0, none⟩) (hD9.lt rb hrbH) (by simp)).trans hls
  have hC14 := fun i => bC14.cell i
  clear hC9 hls hW14 bC9 bA9 HOwn6 hSt9 w1 hO1
  have hne1 := evs_one (check_evs hk H4.out)
  obtain ⟨L, hL⟩ : ∃ L, L = R.of c.stream := ⟨_, rfl⟩
  rw [← hL] at hOwn14 HnL
  have HL := Lib.hid hL
  clear hL
  have hev : ∀ j (hj : j < c.events.length), ∃ b off, A1 = some ⟨b, off, none⟩ ∧ b < W14.heap.size ∧ ∀ t, t < 4 → W14.cell? ⟨b, off + j * 4 + t, none⟩ = (c.events[j].cells)[t]? := by
    obtain ⟨A', c', e, _, _, q⟩ := (hSt14.keepS he hn).openE EventR.cells (fun _ => rfl)
    injection e with e1 e2 e3
    subst e1
    exact q
  have hel : ∀ j (hj : j < L.length), ∃ b off, A6 = some ⟨b, off, none⟩ ∧ b < W14.heap.size ∧ ∀ t, t < 8 → W14.cell? ⟨b, off + j * 8 + t, none⟩ = (L[j].cells)[t]? := by
    obtain ⟨A', c', e, _, _, q⟩ := (Slc.of_own hOwn14.out).1.openE StoredR.cells (fun _ => rfl)
    injection e with e1 e2 e3
    subst e1
    exact q
  have HEv := Lib.hid hev
  have HEl := Lib.hid hel
  clear hev hel hes hOwn14
  obtain ⟨id0, hid0⟩ : ∃ i, i = ((c.events.head?).map (·.id)).getD 0 := ⟨_, rfl⟩
  have hid1 : c.events[0].id = id0 := by
    rw [hid0]
    exact head_id c.events hne1
  have HI0 := Lib.hid hid0
  have HI1 := Lib.hid hid1
  clear hid0 hid1
  go_wp2_with fail
  go_loopw [11, 12] (fun av iv wr => ∃ (i : Nat) (f : Int), i ≤ nL ∧ iv = .int .i64 i ∧ av = .int .i64 f ∧ Hid (f = firstAt id0 (L.take i) 0) ∧ Only [] W14 wr) (fun _ iv _ => nL - (intOf iv).toNat)
  case atStart => exact ⟨0, -1, Nat.zero_le _, rfl, rfl, rfl, Only.refl _ _⟩
  case round =>
    obtain ⟨i, f, hi, rfl, rfl, hf, hO⟩ := hrel
    by_cases hlt : i < nL
    · obtain ⟨b6, o6, hA6, hb6, hc6⟩ := HEl.out i (by have := HnL.out; omega)
      obtain ⟨b1, o1, hA1, hb1, hc1⟩ := HEv.out 0 hne1
      subst hA6 hA1
      have htk : L.take (i + 1) = L.take i ++ [L[i]] := List.take_succ_eq_append_getElem (by have := HnL.out; omega)
      have hmn : (L.take i).length = i := by rw [List.length_take]; have := HnL.out; omega
      have hold : Hid (0 ≤ f → firstAt id0 (L.take (i + 1)) 0 = f) := fun q => by rw [htk, firstAt_old _ _ _ _ (by decide) (by rw [← hf.out]; exact q), ← hf.out]
      have hnew : Hid (f < 0 → firstAt id0 (L.take (i + 1)) 0 = if L[i].ev.id = id0 then (i : Int) else -1) := fun q => by rw [htk, firstAt_new _ _ _ _ (by decide) (by rw [← hf.out]; exact q), hmn, Int.zero_add]
      obtain ⟨x, hx⟩ : ∃ x, x = L[i] := ⟨_, rfl⟩
      rw [← hx] at hc6 hnew
      have hc60 : W14.cell? ⟨b6, o6 + i * 8, none⟩ = some (.int .i64 x.ev.id) := hc6 0 (by omega)
      have hc10 : W14.cell? ⟨b1, o1, none⟩ = some (.int .i64 id0) := by
        have := hc1 0 (by omega)
        rw [show o1 + 0 * 4 + 0 = o1 by omega] at this
        rw [this, ← HI1.out]
        rfl
      have C6 : ∀ (e : Nat) (os : Array Obj), World.cell? (grow (redrawn wr e) os) _ = some _ := fun e os => cell_regrown ((hO.cell (p := ⟨b6, o6 + i * 8, none⟩) hb6 (by simp)).trans hc60) e os
      have C1 : ∀ (e : Nat) (os : Array Obj), World.cell? (grow (redrawn wr e) os) _ = some _ := fun e os => cell_regrown ((hO.cell (p := ⟨b1, o1, none⟩) hb1 (by simp)).trans hc10) e os
      have CB : ∀ (e : Nat) (os : Array Obj), World.cell? (grow (redrawn wr e) os) ⟨w.heap.size, 4, none⟩ = some (.slice (some ⟨b1, o1, none⟩) c.events.length cap1) := fun e os => cell_regrown ((hO.blk bC14 (by simp)).cell 4) e os
      clear hc6 hc1 hc60 hc10 hx htk hmn
      by_cases hf0 : f < 0
      · have hfm : f = -1 := by
          rcases firstAt_bd id0 (L.take i) 0 (by decide) with q | q
          · rw [hf.out]; exact q
          · have := hf.out; omega
        have hnw := Lib.hid (hnew.out hf0)
        subst hfm
        by_cases hxi : x.ev.id = id0
        · have hnx : Hid ((i : Int) = firstAt id0 (L.take (i + 1)) 0) := by have := hnw.out; rw [if_pos hxi] at this; exact this.symm
          have hxb : (x.ev.id == id0) = true := by simpa using hxi
          clear hxi
          go_wp2_with fail
          refine wp_region_quiet_below (by kernel_rfl) (by kernel_rfl) ?_
          repeat (go_big_quiet_step (fail))
          refine wpQuiet_nil ?_
          rintro _ ⟨p, rfl⟩
          go_wp2
          go_round
          case rel => exact ⟨i + 1, i, hlt, by simp, rfl, hnx, hO.trans (Only.regrown [] _ p.d p.os)⟩
          case measure => simp [intOf]; omega
        · have hnx : Hid ((-1 : Int) = firstAt id0 (L.take (i + 1)) 0) := by have := hnw.out; rw [if_neg hxi] at this; exact this.symm
          have hxb : (x.ev.id == id0) = false := by simpa using hxi
          clear hxi
          go_wp2_with fail
          refine wp_region_quiet_below (by kernel_rfl) (by kernel_rfl) ?_
          repeat (go_big_quiet_step (fail))
          refine wpQuiet_nil ?_
          rintro _ ⟨p, rfl⟩
          go_wp2
          go_round
          case rel => exact ⟨i + 1, -1, hlt, by simp, rfl, hnx, hO.trans (Only.regrown [] _ p.d p.os)⟩
          case measure => simp [intOf]; omega
      · have hnx : Hid (f = firstAt id0 (L.take (i + 1)) 0) := (hold.out (by omega)).symm
        have hfb : decide (f < 0) = false := by simpa using hf0
        go_wp2_with fail
        refine wp_region_quiet_below (by kernel_rfl) (by kernel_rfl) ?_
        repeat (go_big_quiet_step (fail))
        refine wpQuiet_nil ?_
        rintro _ ⟨p, rfl⟩
        go_wp2
        go_round
        case rel => exact ⟨i + 1, f, hlt, by simp, rfl, hnx, hO.trans (Only.regrown [] _ p.d p.os)⟩
        case measure => simp [intOf]; omega
    · have hin : nL = i := by omega
      subst hin
      have hfL : f = firstAt id0 L 0 := by have := hf.out; rwa [List.take_of_length_le (by have := HnL.out; omega)] at this
      have hf0 : 0 ≤ f := by rw [hfL, HI0.out, HL.out, HR.out]; exact hv
      have hfl : f < nL := by
        rcases firstAt_bd id0 L 0 (by decide) with q | q
        · rw [hfL] at hf0; omega
        · have := HnL.out; rw [hfL]; omega
      obtain ⟨fn, rfl⟩ : ∃ fn : Nat, f = fn := ⟨f.toNat, by omega⟩
      have HFL := Lib.hid hfL
      have bC17 := hO.blk bC14 (by simp)
      have hC17 := fun t => bC17.cell t
      have hfn : fn < nL := by omega
      have hev8 : c.events.length ≤ 8 := by have := check_evs hk H4.out; unfold eventsE at this; (repeat (split at this; first | omega | skip)); all_goals omega
      have hw1 := IntWalk.i64_in ((fn : Int) + (c.events.length : Int)) ⟨by omega, by omega⟩
      have hw2 := IntWalk.i64_in ((fn : Int) - 1) ⟨by omega, by omega⟩
      obtain ⟨g0, hg0⟩ : ∃ g : Bool, g = (decide ((fn : Int) + (c.events.length : Int) ≤ (nL : Int)) && (decide (c.expected = -2) || decide (c.expected = -4) || decide (c.expected = (fn : Int) - 1))) := ⟨_, rfl⟩
      have HG0 := Lib.hid hg0
      clear hfL hf hfl hg0
      go_upto_region 22 with (fail)
      go_cut [13] (fun s13 wx => s13 = .bool g0 ∧ wx = wr)
      case first =>
        by_cases q1 : (fn : Int) + (c.events.length : Int) ≤ (nL : Int)
        · cases q2 : (c.expected == -2) with
          | true =>
            have hg : g0 = true := by rw [HG0.out, decide_eq_true q1, show c.expected = -2 by simpa using q2]; rfl
            have HG := Lib.hid hg
            clear hg HG0
            go_wp2_with fail
            go_meet
            exact ⟨by rw [HG.out], rfl⟩
          | false =>
            cases q3 : (c.expected == -4) with
            | true =>
              have hg : g0 = true := by rw [HG0.out, decide_eq_true q1, show c.expected = -4 by simpa using q3]; rfl
              have HG := Lib.hid hg
              clear hg HG0
              go_wp2_with fail
              go_meet
              exact ⟨by rw [HG.out], rfl⟩
            | false =>
              cases q4 : (c.expected == (fn : Int) - 1) with
              | true =>
                have hg : g0 = true := by rw [HG0.out, decide_eq_true q1, decide_eq_true (show c.expected = (fn : Int) - 1 by simpa using q4)]; simp
                have HG := Lib.hid hg
                clear hg HG0
                go_wp2_with fail
                go_meet
                exact ⟨by rw [HG.out], rfl⟩
              | false =>
                have hg : g0 = false := by
                  rw [HG0.out, decide_eq_false (show ¬ c.expected = (fn : Int) - 1 by simpa using q4), decide_eq_false (show ¬ c.expected = -2 by simpa using q2), decide_eq_false (show ¬ c.expected = -4 by simpa using q3)]
                  simp
                have HG := Lib.hid hg
                clear hg HG0
                go_wp2_with fail
                go_meet
                exact ⟨by rw [HG.out], rfl⟩
        · have hg : g0 = false := by rw [HG0.out, decide_eq_false q1]; rfl
          have HG := Lib.hid hg
          clear hg HG0
          go_wp2_with fail
          go_meet
          exact ⟨by rw [HG.out], rfl⟩
      case rest =>
        obtain ⟨rfl, rfl⟩ := hcut
        have hlen := HnL.out
        have HAct := Lib.hid (show ((g0 && idsAt c.events (L.drop fn)) = true → (r.tick c.time).act c = (⟨0, fn, ((L[((fn : Int) + (c.events.length : Int) - 1).toNat]?).map (·.position)).getD 0, true⟩, R.keep c.stream)) ∧ ((g0 && idsAt c.events (L.drop fn)) = false → (r.tick c.time).act c = (⟨22, (nL : Int) - 1, 0, false⟩, R.keep c.stream)) from by
          have hgd : RS.goodAt c L fn = (g0 && idsAt c.events (L.drop fn)) := by
            unfold RS.goodAt
            rw [HG0.out, HnL.out]
            rfl
          rw [← HR.out]
          unfold RS.act
          dsimp only
          rw [if_neg (by rw [H4.out]; decide), if_neg (by rw [H4.out]; decide), ← HL.out, ← HI0.out, ← HFL.out, if_pos (by omega), hgd]
          refine ⟨fun q => by rw [q]; rfl, fun q => by rw [q, HnL.out]; rfl⟩)
        have hwk := fun k : Nat => fun hkk : k ≤ c.events.length => IntWalk.i64_in ((fn : Int) + (k : Int)) ⟨by omega, by omega⟩
        have HWk := Lib.hid hwk
        have hw3 := IntWalk.i64_in ((fn : Int) + (c.events.length : Int) - 1) ⟨by omega, by omega⟩
        have HLen := Lib.hid hlen
        have HO := Lib.hid hO
        clear hwk hlen hC17 bC17
        go_wp2_with fail
        go_loopw [13, 14] (fun gv kv w2 => ∃ (k : Nat) (g : Bool), k ≤ c.events.length ∧ kv = .int .i64 k ∧ gv = .bool g ∧ Hid (g = (g0 && idsAt (c.events.take k) (L.drop fn))) ∧ Only [] W14 w2) (fun _ kv _ => c.events.length - (intOf kv).toNat)
        case atStart => exact ⟨0, g0, Nat.zero_le _, rfl, rfl, by unfold Hid; simp [idsAt], hO⟩
        case round =>
          obtain ⟨k, g, hkn, rfl, rfl, hg, hO2⟩ := hrel
          have bC2 := hO2.blk bC14 (by simp)
          have hC2 := fun t => bC2.cell t
          by_cases hlt2 : k < c.events.length
          · cases g with
            | true =>
              obtain ⟨hgt, hids⟩ : g0 = true ∧ idsAt (c.events.take k) (L.drop fn) = true := by
                have := hg.out
                simpa using this.symm
              have hroom : fn + c.events.length ≤ nL := by
                have := HG0.out
                rw [hgt] at this
                simp at this
                omega
              obtain ⟨b6, o6, hA6, hb6, hc6⟩ := HEl.out (fn + k) (by have := HLen.out; omega)
              obtain ⟨b1, o1, hA1, hb1, hc1⟩ := HEv.out k hlt2
              subst hA6 hA1
              have hin6 : fn + k < L.length := by have := HLen.out; omega
              have hst : Hid (idsAt (c.events.take (k + 1)) (L.drop fn) = decide (L[fn + k].ev.id = c.events[k].id)) := by
                unfold Hid
                rw [idsAt_take (x := c.events[k]) c.events (L.drop fn) k hlt2 (by rw [List.length_drop]; have := HLen.out; omega), hids, Bool.true_and, List.getElem_drop]
              obtain ⟨x, hx⟩ : ∃ x, x = L[fn + k] := ⟨_, rfl⟩
              obtain ⟨y, hy⟩ : ∃ y, y = c.events[k] := ⟨_, rfl⟩
              rw [← hx] at hc6 hst
              rw [← hy] at hc1 hst
              have hc60 : W14.cell? ⟨b6, o6 + (fn + k) * 8, none⟩ = some (.int .i64 x.ev.id) := hc6 0 (by omega)
              have hc10 : W14.cell? ⟨b1, o1 + k * 4, none⟩ = some (.int .i64 y.id) := hc1 0 (by omega)
              have C6 : ∀ (e : Nat) (os : Array Obj), World.cell? (grow (redrawn wr e) os) _ = some _ := fun e os => cell_regrown ((hO2.cell (p := ⟨b6, o6 + (fn + k) * 8, none⟩) hb6 (by simp)).trans hc60) e os
              have C1 : ∀ (e : Nat) (os : Array Obj), World.cell? (grow (redrawn wr e) os) _ = some _ := fun e os => cell_regrown ((hO2.cell (p := ⟨b1, o1 + k * 4, none⟩) hb1 (by simp)).trans hc10) e os
              have CB : ∀ (e : Nat) (os : Array Obj), World.cell? (grow (redrawn wr e) os) ⟨w.heap.size, 4, none⟩ = some (.slice (some ⟨b1, o1, none⟩) c.events.length cap1) := fun e os => cell_regrown (bC2.cell 4) e os
              have hwk := HWk.out k hkn
              have hidx : fn + k < nL := by omega
              have hidx1 : (fn : Int) + (k : Int) < (nL : Int) := by omega
              have hidx0 : ¬ (fn : Int) + (k : Int) < 0 := by omega
              have hidx2 : ((fn : Int) + (k : Int)).toNat = fn + k := by omega
              obtain ⟨g2, hg2⟩ : ∃ g2, (x.ev.id == y.id) = g2 := ⟨_, rfl⟩
              have hnx : Hid (g2 = (g0 && idsAt (c.events.take (k + 1)) (L.drop fn))) := by
                unfold Hid
                rw [hst.out, hgt, Bool.true_and, ← hg2, Bool.beq_eq_decide_eq]
              clear hc6 hc1 hc60 hc10 hx hy hids hgt hg hst bC2
              go_wp2_with fail
              refine wp_region_quiet_below (by kernel_rfl) (by kernel_rfl) ?_
              repeat (go_big_quiet_step (fail))
              refine wpQuiet_nil ?_
              rintro _ ⟨p, rfl⟩
              go_wp2
              go_round
              case rel => exact ⟨k + 1, g2, hlt2, by simp, rfl, hnx, hO2.trans (Only.regrown [] _ p.d p.os)⟩
              case measure => simp [intOf]; omega
            | false =>
              have hG : idsAt c.events (L.drop fn) = false ∨ g0 = false := by
                have := hg.out
                cases hgg : g0 with
                | false => exact .inr rfl
                | true =>
                  rw [hgg, Bool.true_and] at this
                  exact .inl (idsAt_pre _ _ k this.symm)
              have hgf : (g0 && idsAt c.events (L.drop fn)) = false := by
                rcases hG with q | q
                · rw [q]; simp
                · rw [q]; rfl
              have hFa := Lib.hid (HAct.out.2 hgf)
              have HFin : Hid ((((r.tick c.time).act c).1.val = .agg #[.int .i64 22, .int .i64 ((nL : Int) - 1), .int .i64 0, .bool false]) ∧ ((r.tick c.time).act c).2 = R.keep c.stream) := by
                unfold Hid
                rw [hFa.out]
                exact ⟨rfl, rfl⟩
              have hXc := fun t => (hO2.blk bx (by simp)).cell t
              have hHc := fun t => (hO2.blk bh (by simp)).cell t
              have hHf := fun t => (hO2.blk bh (by simp)).free t
              have hD2 := hD14.keep0 hO2
              have hSt2 := hSt14.then0 hO2
              have bh2 := hO2.blk bh (by simp)
              have bA2 := hO2.blk bA14 (by simp)
              have hsR : R.s.length + 1 ≤ 1000000 := by rw [HR.out]; show r.s.length + 1 ≤ _; omega
              clear hgf hg
              go_upto_region 50 with (fail)
              have bhW := (((bh2.set 0 (.int .i64 22)).set 1 (.int .i64 ((nL : Int) - 1))).set 2 (.int .i64 0)).set 3 (.bool false)
              have koW : Only [w9.heap.size] wr ((((wr.setCell ⟨w9.heap.size, 0, none⟩ (.int .i64 22)).setCell ⟨w9.heap.size, 1, none⟩ (.int .i64 ((nL : Int) - 1))).setCell ⟨w9.heap.size, 2, none⟩ (.int .i64 0)).setCell ⟨w9.heap.size, 3, none⟩ (.bool false)) := by
                iterate 4 (refine Only.setCell ?_ (.inl (by simp)) _)
                exact Only.refl _ _
              have bCW := koW.blk bC2 (by simp; omega)
              have bAW := koW.blk bA2 (by simp; omega)
              have hDW := hD2.keep koW (by have := h.only.size; simp; omega) (fun b hb => by simp; exact fun e => hgh (e ▸ hb))
              have hStW := (((hSt2.setB (g := w9.heap.size) (k := 0) (u := .int .i64 22) hz9).setB (g := w9.heap.size) (k := 1) (u := .int .i64 ((nL : Int) - 1)) hz9).setB (g := w9.heap.size) (k := 2) (u := .int .i64 0) hz9).setB (g := w9.heap.size) (k := 3) (u := .bool false) hz9
              obtain ⟨WW, hWW⟩ : ∃ W, W = (((wr.setCell ⟨w9.heap.size, 0, none⟩ (.int .i64 22)).setCell ⟨w9.heap.size, 1, none⟩ (.int .i64 ((nL : Int) - 1))).setCell ⟨w9.heap.size, 2, none⟩ (.int .i64 0)).setCell ⟨w9.heap.size, 3, none⟩ (.bool false) := ⟨_, rfl⟩
              rw [← hWW] at bhW koW bCW bAW hDW hStW ⊢
              clear hWW
              clear hXc hHc hHf hC2
              have HKp := Lib.hid (dkeep_any hDW c.stream (hft).few hsR ((hft).mt _) ((hft).kept _) (hft).now)
              have hCz := fun i => (bCW).cell i
              go_wp2_with fail
              refine HKp.out.mono ?_
              rintro eK wK ⟨rfl, HK, hDK, hStK⟩
              obtain ⟨bAK, gAK⟩ := hStK.keepB bAW hgA
              obtain ⟨bhK, ghK⟩ := hStK.keepB bhW hgh
              have hAKc := fun i => bAK.cell i
              have hAKf := fun i => bAK.free i
              have hhKc := fun i => bhK.cell i
              have hStT := (hStW).trans hStK
              clear HKp hCz
              rw [← HFin.out.2] at hDK
              go_wp2
              have hS4 := (((bAK.set 0 (.int .i64 22)).set 1 (.int .i64 ((nL : Int) - 1))).set 2 (.int .i64 0)).set 3 (.bool false)
              have hge : w.heap.size ≤ w.heap.size + 1 := by omega
              have hD4 := (((hDK.setB (k := 0) (u := .int .i64 22) gAK haz).setB (k := 1) (u := .int .i64 ((nL : Int) - 1)) gAK haz).setB (k := 2) (u := .int .i64 0) gAK haz).setB (k := 3) (u := .bool false) gAK haz
              have hSt4 := (((hStT.setB (k := 0) (u := .int .i64 22) hge).setB (k := 1) (u := .int .i64 ((nL : Int) - 1)) hge).setB (k := 2) (u := .int .i64 0) hge).setB (k := 3) (u := .bool false) hge
              have hc4 := hS4.cell
              refine bodyPost_ret (v := .agg #[.int .i64 22, .int .i64 ((nL : Int) - 1), .int .i64 0, .bool false]) (by simp [results, Tryz.results10, go_sem, hc4]) rfl ⟨?ans, _, hD4, hSt4⟩
              case ans => rw [HFin.out.1]
          · have hkn2 : k = c.events.length := by omega
            have hgk : g = (g0 && idsAt c.events (L.drop fn)) := by have := hg.out; rwa [List.take_of_length_le (by omega)] at this
            cases g with
            | false =>
              have hgf : (g0 && idsAt c.events (L.drop fn)) = false := hgk.symm
              have hkge : ¬ (k : Int) < (c.events.length : Int) := by omega
              clear hgk hkn2
              have hFa := Lib.hid (HAct.out.2 hgf)
              have HFin : Hid ((((r.tick c.time).act c).1.val = .agg #[.int .i64 22, .int .i64 ((nL : Int) - 1), .int .i64 0, .bool false]) ∧ ((r.tick c.time).act c).2 = R.keep c.stream) := by
                unfold Hid
                rw [hFa.out]
                exact ⟨rfl, rfl⟩
              have hXc := fun t => (hO2.blk bx (by simp)).cell t
              have hHc := fun t => (hO2.blk bh (by simp)).cell t
              have hHf := fun t => (hO2.blk bh (by simp)).free t
              have hD2 := hD14.keep0 hO2
              have hSt2 := hSt14.then0 hO2
              have bh2 := hO2.blk bh (by simp)
              have bA2 := hO2.blk bA14 (by simp)
              have hsR : R.s.length + 1 ≤ 1000000 := by rw [HR.out]; show r.s.length + 1 ≤ _; omega
              clear hgf hg
              go_upto_region 50 with (fail)
              have bhW := (((bh2.set 0 (.int .i64 22)).set 1 (.int .i64 ((nL : Int) - 1))).set 2 (.int .i64 0)).set 3 (.bool false)
              have koW : Only [w9.heap.size] wr ((((wr.setCell ⟨w9.heap.size, 0, none⟩ (.int .i64 22)).setCell ⟨w9.heap.size, 1, none⟩ (.int .i64 ((nL : Int) - 1))).setCell ⟨w9.heap.size, 2, none⟩ (.int .i64 0)).setCell ⟨w9.heap.size, 3, none⟩ (.bool false)) := by
                iterate 4 (refine Only.setCell ?_ (.inl (by simp)) _)
                exact Only.refl _ _
              have bCW := koW.blk bC2 (by simp; omega)
              have bAW := koW.blk bA2 (by simp; omega)
              have hDW := hD2.keep koW (by have := h.only.size; simp; omega) (fun b hb => by simp; exact fun e => hgh (e ▸ hb))
              have hStW := (((hSt2.setB (g := w9.heap.size) (k := 0) (u := .int .i64 22) hz9).setB (g := w9.heap.size) (k := 1) (u := .int .i64 ((nL : Int) - 1)) hz9).setB (g := w9.heap.size) (k := 2) (u := .int .i64 0) hz9).setB (g := w9.heap.size) (k := 3) (u := .bool false) hz9
              obtain ⟨WW, hWW⟩ : ∃ W, W = (((wr.setCell ⟨w9.heap.size, 0, none⟩ (.int .i64 22)).setCell ⟨w9.heap.size, 1, none⟩ (.int .i64 ((nL : Int) - 1))).setCell ⟨w9.heap.size, 2, none⟩ (.int .i64 0)).setCell ⟨w9.heap.size, 3, none⟩ (.bool false) := ⟨_, rfl⟩
              rw [← hWW] at bhW koW bCW bAW hDW hStW ⊢
              clear hWW
              clear hXc hHc hHf hC2
              have HKp := Lib.hid (dkeep_any hDW c.stream (hft).few hsR ((hft).mt _) ((hft).kept _) (hft).now)
              have hCz := fun i => (bCW).cell i
              go_wp2_with fail
              refine HKp.out.mono ?_
              rintro eK wK ⟨rfl, HK, hDK, hStK⟩
              obtain ⟨bAK, gAK⟩ := hStK.keepB bAW hgA
              obtain ⟨bhK, ghK⟩ := hStK.keepB bhW hgh
              have hAKc := fun i => bAK.cell i
              have hAKf := fun i => bAK.free i
              have hhKc := fun i => bhK.cell i
              have hStT := (hStW).trans hStK
              clear HKp hCz
              rw [← HFin.out.2] at hDK
              go_wp2
              have hS4 := (((bAK.set 0 (.int .i64 22)).set 1 (.int .i64 ((nL : Int) - 1))).set 2 (.int .i64 0)).set 3 (.bool false)
              have hge : w.heap.size ≤ w.heap.size + 1 := by omega
              have hD4 := (((hDK.setB (k := 0) (u := .int .i64 22) gAK haz).setB (k := 1) (u := .int .i64 ((nL : Int) - 1)) gAK haz).setB (k := 2) (u := .int .i64 0) gAK haz).setB (k := 3) (u := .bool false) gAK haz
              have hSt4 := (((hStT.setB (k := 0) (u := .int .i64 22) hge).setB (k := 1) (u := .int .i64 ((nL : Int) - 1)) hge).setB (k := 2) (u := .int .i64 0) hge).setB (k := 3) (u := .bool false) hge
              have hc4 := hS4.cell
              refine bodyPost_ret (v := .agg #[.int .i64 22, .int .i64 ((nL : Int) - 1), .int .i64 0, .bool false]) (by simp [results, Tryz.results10, go_sem, hc4]) rfl ⟨?ans, _, hD4, hSt4⟩
              case ans => rw [HFin.out.1]
            | true =>
              have hgf : (g0 && idsAt c.events (L.drop fn)) = true := hgk.symm
              obtain ⟨hgt, -⟩ : g0 = true ∧ idsAt c.events (L.drop fn) = true := by simpa using hgf
              have hroom : fn + c.events.length ≤ nL := by
                have := HG0.out
                rw [hgt] at this
                simp at this
                omega
              have hin6 : fn + c.events.length - 1 < L.length := by have := HLen.out; omega
              obtain ⟨b6, o6, hA6, hb6, hc6⟩ := HEl.out (fn + c.events.length - 1) hin6
              subst hA6
              have hb69 := (hlt6.out b6 rfl).2
              obtain ⟨x, hx⟩ : ∃ x, x = L[fn + c.events.length - 1] := ⟨_, rfl⟩
              rw [← hx] at hc6
              have hFa := Lib.hid (HAct.out.1 hgf)
              have HFin : Hid ((((r.tick c.time).act c).1.val = .agg #[.int .i64 0, .int .i64 fn, .int .i64 x.position, .bool true]) ∧ ((r.tick c.time).act c).2 = R.keep c.stream) := by
                unfold Hid
                rw [hFa.out]
                refine ⟨?_, rfl⟩
                rw [show ((fn : Int) + (c.events.length : Int) - 1).toNat = fn + c.events.length - 1 by omega, List.getElem?_eq_getElem hin6, ← hx]
                rfl
              have hXc := fun t => (hO2.blk bx (by simp)).cell t
              have hHc := fun t => (hO2.blk bh (by simp)).cell t
              have hHf := fun t => (hO2.blk bh (by simp)).free t
              have hD2 := hD14.keep0 hO2
              have hSt2 := hSt14.then0 hO2
              have bh2 := hO2.blk bh (by simp)
              have bA2 := hO2.blk bA14 (by simp)
              have hc66 : W14.cell? ⟨b6, o6 + (fn + c.events.length - 1) * 8 + 6, none⟩ = some (.int .i64 x.position) := hc6 6 (by omega)
              have hd6 := (hO2.cell (p := ⟨b6, o6 + (fn + c.events.length - 1) * 8 + 6, none⟩) hb6 (by simp)).trans hc66
              have hsR : R.s.length + 1 ≤ 1000000 := by rw [HR.out]; show r.s.length + 1 ≤ _; omega
              have hkge : ¬ (k : Int) < (c.events.length : Int) := by omega
              clear hc6 hc66 hx hgk hgf hgt hg hkn2
              go_upto_region 28 with (fail)
              have bhW := (((bh2.set 0 (.int .i64 22)).set 1 (.int .i64 ((nL : Int) - 1))).set 2 (.int .i64 0)).set 3 (.bool false)
              have koW : Only [w9.heap.size] wr ((((wr.setCell ⟨w9.heap.size, 0, none⟩ (.int .i64 22)).setCell ⟨w9.heap.size, 1, none⟩ (.int .i64 ((nL : Int) - 1))).setCell ⟨w9.heap.size, 2, none⟩ (.int .i64 0)).setCell ⟨w9.heap.size, 3, none⟩ (.bool false)) := by
                iterate 4 (refine Only.setCell ?_ (.inl (by simp)) _)
                exact Only.refl _ _
              have bCW := koW.blk bC2 (by simp; omega)
              have bAW := koW.blk bA2 (by simp; omega)
              have hDW := hD2.keep koW (by have := h.only.size; simp; omega) (fun b hb => by simp; exact fun e => hgh (e ▸ hb))
              have hStW := (((hSt2.setB (g := w9.heap.size) (k := 0) (u := .int .i64 22) hz9).setB (g := w9.heap.size) (k := 1) (u := .int .i64 ((nL : Int) - 1)) hz9).setB (g := w9.heap.size) (k := 2) (u := .int .i64 0) hz9).setB (g := w9.heap.size) (k := 3) (u := .bool false) hz9
              obtain ⟨WW, hWW⟩ : ∃ W, W = (((wr.setCell ⟨w9.heap.size, 0, none⟩ (.int .i64 22)).setCell ⟨w9.heap.size, 1, none⟩ (.int .i64 ((nL : Int) - 1))).setCell ⟨w9.heap.size, 2, none⟩ (.int .i64 0)).setCell ⟨w9.heap.size, 3, none⟩ (.bool false) := ⟨_, rfl⟩
              rw [← hWW] at bhW koW bCW bAW hDW hStW ⊢
              clear hWW
              have hd7 := (koW.cell (p := ⟨b6, o6 + (fn + c.events.length - 1) * 8 + 6, none⟩) (by have := hO2.size; show b6 < _; omega) (by simp; omega)).trans hd6
              have hCW := fun t => bCW.cell t
              have hHW := fun t => bhW.cell t
              have hHWf := fun t => bhW.free t
              have hidx1 : (fn : Int) + (c.events.length : Int) - 1 < (nL : Int) := by omega
              have hidx0 : ¬ (fn : Int) + (c.events.length : Int) - 1 < 0 := by omega
              have hidx2 : ((fn : Int) + (c.events.length : Int) - 1).toNat = fn + c.events.length - 1 := by omega
              clear hXc hHc hHf hd6 hC2
              go_upto_region 50 with (fail)
              have bhW := (((bhW.set 0 (.int .i64 0)).set 1 (.int .i64 fn)).set 2 (.int .i64 x.position)).set 3 (.bool true)
              have koW : Only [w9.heap.size] WW ((((WW.setCell ⟨w9.heap.size, 0, none⟩ (.int .i64 0)).setCell ⟨w9.heap.size, 1, none⟩ (.int .i64 fn)).setCell ⟨w9.heap.size, 2, none⟩ (.int .i64 x.position)).setCell ⟨w9.heap.size, 3, none⟩ (.bool true)) := by
                iterate 4 (refine Only.setCell ?_ (.inl (by simp)) _)
                exact Only.refl _ _
              have bCW := koW.blk bCW (by simp; omega)
              have bAW := koW.blk bAW (by simp; omega)
              have hDW := hDW.keep koW (by have := h.only.size; simp; omega) (fun b hb => by simp; exact fun e => hgh (e ▸ hb))
              have hStW := (((hStW.setB (g := w9.heap.size) (k := 0) (u := .int .i64 0) hz9).setB (g := w9.heap.size) (k := 1) (u := .int .i64 fn) hz9).setB (g := w9.heap.size) (k := 2) (u := .int .i64 x.position) hz9).setB (g := w9.heap.size) (k := 3) (u := .bool true) hz9
              obtain ⟨WW, hWW⟩ : ∃ W, W = (((WW.setCell ⟨w9.heap.size, 0, none⟩ (.int .i64 0)).setCell ⟨w9.heap.size, 1, none⟩ (.int .i64 fn)).setCell ⟨w9.heap.size, 2, none⟩ (.int .i64 x.position)).setCell ⟨w9.heap.size, 3, none⟩ (.bool true) := ⟨_, rfl⟩
              rw [← hWW] at bhW koW bCW bAW hDW hStW ⊢
              clear hWW
              clear hCW hHW hHWf hd7
              have HKp := Lib.hid (dkeep_any hDW c.stream (hft).few hsR ((hft).mt _) ((hft).kept _) (hft).now)
              have hCz := fun i => (bCW).cell i
              go_wp2_with fail
              refine HKp.out.mono ?_
              rintro eK wK ⟨rfl, HK, hDK, hStK⟩
              obtain ⟨bAK, gAK⟩ := hStK.keepB bAW hgA
              obtain ⟨bhK, ghK⟩ := hStK.keepB bhW hgh
              have hAKc := fun i => bAK.cell i
              have hAKf := fun i => bAK.free i
              have hhKc := fun i => bhK.cell i
              have hStT := (hStW).trans hStK
              clear HKp hCz
              rw [← HFin.out.2] at hDK
              go_wp2
              have hS4 := (((bAK.set 0 (.int .i64 0)).set 1 (.int .i64 fn)).set 2 (.int .i64 x.position)).set 3 (.bool true)
              have hge : w.heap.size ≤ w.heap.size + 1 := by omega
              have hD4 := (((hDK.setB (k := 0) (u := .int .i64 0) gAK haz).setB (k := 1) (u := .int .i64 fn) gAK haz).setB (k := 2) (u := .int .i64 x.position) gAK haz).setB (k := 3) (u := .bool true) gAK haz
              have hSt4 := (((hStT.setB (k := 0) (u := .int .i64 0) hge).setB (k := 1) (u := .int .i64 fn) hge).setB (k := 2) (u := .int .i64 x.position) hge).setB (k := 3) (u := .bool true) hge
              have hc4 := hS4.cell
              refine bodyPost_ret (v := .agg #[.int .i64 0, .int .i64 fn, .int .i64 x.position, .bool true]) (by simp [results, Tryz.results10, go_sem, hc4]) rfl ⟨?ans, _, hD4, hSt4⟩
              case ans => rw [HFin.out.1]
end
end Go.Proofs.YteinoiicnmemhaaGreatDoor
