/- Proved here: contracts of functions and plain laws, part 1 of 6 of one proof. Conditions: each theorem names its own. -/
import Derived.WalkKit
import Derived.WalkSpells
import Derived.WalkLawsBesides
import Derived.Maps.Own
import Derived.Maps.OwnOps
import Derived.Maps.OwnSet
import Derived.Maps.RangeWalk
import Derived.Lib.Hide
import Derived.Laws.AppendOwn
import Derived.Deep.AppendLies
import Derived.Lib.AppendZeros
import Derived.Lib.OwnBridge
import Derived.Test.YthjgplgfcbhihaaGreatProg
import Derived.Shelf.Small.Bits
import Derived.Shelf.Small.Wraps
import Derived.Shelf.Strconv.Itoa0
import Derived.Shelf.LaysM
import Derived.Shelf.Strconv.Clone
import Derived.Shelf.Sort.Plain
import Derived.Shelf.Slices.Reverse
import Derived.Ground.Names2Prog
import Derived.Shelf.Slices.Clone
import Derived.Shelf.Slices.SearchI
import Derived.Shelf.Slices.Delete
import Derived.Shelf.Slices.Cells
import Derived.Shelf.Slices.In.SortNone
import Derived.Shelf.Slices.Empties
import Derived.Ground.SlgfProg
import Derived.Shelf.SlicesE.IndexFunc
import Derived.Shelf.SlicesE.DeleteFunc
import Derived.Shelf.SlIter.Nil
import Derived.Shelf.SortM.Plain
import Derived.Shelf.SortM.SortNone
import Derived.Ground.GgzProg
import Derived.Ground.SlgmProg
import Derived.Shelf.SlMaps.Clone
import Derived.Ground.SlmcProg
import Derived.Shelf.SlIter.Collect
import Derived.Shelf.Spec.SlicesInsert
import Derived.Shelf.Spec.SlicesInsertGrow
import Derived.StillTail
import Derived.Deep.QuietTactic
import Derived.BigQuiet
import Derived.Lib.QuietBelow
/- Plain laws on worlds, used by all proofs of this seat: blocks known whole, which blocks a call may change, maps with typed keys as association lists, iterators over them. No program is named. -/
set_option linter.unusedVariables false
set_option linter.unusedSimpArgs false
namespace Go.Proofs.YthjgplgfcbhihaaGreat
open Go.RowKit Go.MapKept Go.ChangeMaps

/-! ## blocks -/
/-- Block g is just these cells of type t, none frozen. -/
def Blk (w : World) (g : Nat) (t : TypeId) (cs : Array Value) : Prop := w.heap[g]? = some (.cells cs t (0, 0))

section
variable {w w' : World} {g : Nat} {t : TypeId} {cs : Array Value}
theorem Blk.lt (h : Blk w g t cs) : g < w.heap.size := lt_of_block h
theorem Blk.cell (h : Blk w g t cs) (i : Nat) : w.cell? ⟨g, i, none⟩ = cs[i]? := cell_of_row w g i cs t (0, 0) h
theorem Blk.free (h : Blk w g t cs) (i : Nat) : w.frozen? ⟨g, i, none⟩ = false := frozen_of_row w g i cs t h
theorem Blk.new (w : World) (t : TypeId) (cs : Array Value) : Blk (w.alloc (.cells cs t)) w.heap.size t cs := heap_alloc_new w _
theorem Blk.set (h : Blk w g t cs) (i : Nat) (u : Value) : Blk (w.setCell ⟨g, i, none⟩ u) g t (cs.setIfInBounds i u) := heap_setCell_same w g i cs t u h
theorem Blk.of_eq (h : Blk w g t cs) (e : w'.heap[g]? = w.heap[g]?) : Blk w' g t cs := e.trans h
theorem Blk.other {g' : Nat} {t' : TypeId} {cs' : Array Value} (h : Blk w g t cs) (h' : Blk w g' t' cs') (ht : t ≠ t') : g ≠ g' := by
  intro e
  subst e
  unfold Blk at h h'
  rw [h] at h'
  simp at h'
  exact ht h'.2
theorem Blk.not_map {b : Nat} {es : Array MapEntry} {clock : Nat} (h : Blk w g t cs) (hb : w.heap[b]? = some (.map es clock)) : g ≠ b := by
  intro e
  subst e
  unfold Blk at h
  rw [h] at hb
  simp at hb
end

/-! ## what a call may have changed -/
/-- Of what was there at w only the blocks in S may have turned in w'. -/
structure Only (S : List Nat) (w w' : World) : Prop where
  os : w'.os = w.os
  tape : w'.tape = w.tape
  output : w'.output = w.output
  size : w.heap.size ≤ w'.heap.size
  block : ∀ k, k < w.heap.size → k ∉ S → w'.heap[k]? = w.heap[k]?

section
variable {S S' : List Nat} {a w w' : World}
theorem Only.refl (S : List Nat) (w : World) : Only S w w := ⟨rfl, rfl, rfl, Nat.le_refl _, fun _ _ _ => rfl⟩
theorem Only.trans (h : Only S a w) (k : Only S w w') : Only S a w' :=
  ⟨k.os.trans h.os, k.tape.trans h.tape, k.output.trans h.output, Nat.le_trans h.size k.size, fun i hi hn => (k.block i (Nat.lt_of_lt_of_le hi h.size) hn).trans (h.block i hi hn)⟩
theorem Only.mono (h : Only S a w) (hs : ∀ k, k ∈ S → k ∈ S') : Only S' a w := ⟨h.os, h.tape, h.output, h.size, fun i hi hn => h.block i hi (fun e => hn (hs i e))⟩
theorem Only.of_nil (h : Only [] a w) : Only S a w := h.mono (fun _ e => by cases e)
/-- A step behind: it may turn blocks in S, or blocks that are new since a. -/
theorem Only.step (h : Only S a w) (k : Only S' w w') (hs : ∀ i, i ∈ S' → i ∈ S ∨ a.heap.size ≤ i) : Only S a w' :=
  ⟨k.os.trans h.os, k.tape.trans h.tape, k.output.trans h.output, Nat.le_trans h.size k.size, fun i hi hn =>
    (k.block i (Nat.lt_of_lt_of_le hi h.size) (fun e => (hs i e).elim hn (fun e => absurd hi (by omega)))).trans (h.block i hi hn)⟩
theorem Only.alloc (h : Only S a w) (o : Obj) : Only S a (w.alloc o) :=
  h.trans ⟨rfl, rfl, rfl, by simp, fun k hk _ => Below.heap_alloc _ _ _ hk⟩
theorem Only.setCell (h : Only S a w) {p : Addr} (hp : p.block ∈ S ∨ a.heap.size ≤ p.block) (u : Value) : Only S a (w.setCell p u) :=
  h.step (S' := [p.block]) ⟨rfl, rfl, rfl, by simp [World.setCell], fun k _ hn => Below.heap_setCell _ _ _ _ (by simpa using hn)⟩ (fun i hi => by simp at hi; subst hi; exact hp)
theorem Only.drew (h : Only S a w) : Only S a w.drew := ⟨h.os, h.tape, h.output, h.size, h.block⟩
theorem Only.drewN (h : Only S a w) (n : Nat) : Only S a (w.drewN n) := ⟨h.os, h.tape, h.output, h.size, h.block⟩
theorem Only.setBlock (h : Only S a w) {b : Nat} (hb : b ∈ S ∨ a.heap.size ≤ b) (o : Obj) : Only S a (setBlock w b o) :=
  h.step (S' := [b]) ⟨rfl, rfl, rfl, by simp [Go.ChangeMaps.setBlock], fun k _ hn => by
    simp only [Go.ChangeMaps.setBlock, Array.getElem?_setIfInBounds]
    rw [if_neg (by intro e; exact hn (by simp [e]))]⟩ (fun i hi => by simp at hi; subst hi; exact hb)
theorem Only.grown (h : Only S a w) {row : Option Nat} (hg : w.grownBy w' row) (hr : ∀ k, row = some k → k ∈ S ∨ a.heap.size ≤ k) : Only S a w' :=
  h.step (S' := row.toList) ⟨hg.os, hg.tape, hg.output, hg.size, fun k hk hn => hg.block k hk (fun e => hn (by rw [← e]; simp))⟩ (fun i hi => hr i (by simpa using hi))
theorem Only.below (h : Only S a w) {B : Nat} (hb : Below B w w') (hB : w.heap.size ≤ B) : Only S a w' :=
  h.trans ⟨hb.os, hb.tape, hb.output, hb.size, fun k hk _ => hb.block k (by omega)⟩
theorem Only.of_below {B : Nat} (hb : Below B w w') (hB : w.heap.size ≤ B) : Only S w w' := (Only.refl S w).below hb hB
theorem Only.toBelow (h : Only [] a w) : Below a.heap.size a w := ⟨h.os, h.tape, h.output, h.size, fun k hk => h.block k hk (by simp)⟩
theorem Only.cell (h : Only S a w) {p : Addr} (hp : p.block < a.heap.size) (hn : p.block ∉ S) : w.cell? p = a.cell? p := World.cell?_of_block (h.block p.block hp hn)
theorem Only.frozen (h : Only S a w) {p : Addr} (hp : p.block < a.heap.size) (hn : p.block ∉ S) : w.frozen? p = a.frozen? p := World.frozen?_of_block (h.block p.block hp hn)
theorem Only.blk (h : Only S a w) {g : Nat} {t : TypeId} {cs : Array Value} (hg : Blk a g t cs) (hn : g ∉ S) : Blk w g t cs := hg.of_eq (h.block g hg.lt hn)
end

/-! ## association lists -/
section
variable {κ ν : Type} [DecidableEq κ]
def aget : List (κ × ν) → κ → Option ν
  | [], _ => none
  | (a, b) :: l, k => if a = k then some b else aget l k
def aput : List (κ × ν) → κ → ν → List (κ × ν)
  | [], k, v => [(k, v)]
  | (a, b) :: l, k, v => if a = k then (k, v) :: l else (a, b) :: aput l k v
def adel : List (κ × ν) → κ → List (κ × ν)
  | [], _ => []
  | (a, b) :: l, k => if a = k then l else (a, b) :: adel l k
/-- No key stands twice. -/
def ANodup (l : List (κ × ν)) : Prop := (l.map (·.1)).Nodup

theorem aget_none {l : List (κ × ν)} {k : κ} : aget l k = none ↔ k ∉ l.map (·.1) := by
  induction l with
  | nil => simp [aget]
  | cons p l ih =>
    obtain ⟨a, b⟩ := p
    simp only [aget]
    split
    · rename_i h; subst h; simp
    · rename_i h; rw [ih]; simp only [List.map_cons, List.mem_cons, not_or]; exact ⟨fun x => ⟨fun e => h e.symm, x⟩, fun x => x.2⟩
theorem aget_mem {l : List (κ × ν)} {k : κ} {v : ν} (h : aget l k = some v) : (k, v) ∈ l := by
  induction l with
  | nil => simp [aget] at h
  | cons p l ih =>
    obtain ⟨a, b⟩ := p
    simp only [aget] at h
    split at h
    · rename_i e; subst e; cases h; simp
    · exact List.mem_cons_of_mem _ (ih h)
theorem aget_of_mem {l : List (κ × ν)} (hn : ANodup l) {k : κ} {v : ν} (h : (k, v) ∈ l) : aget l k = some v := by
  induction l with
  | nil => simp at h
  | cons p l ih =>
    obtain ⟨a, b⟩ := p
    simp only [ANodup, List.map_cons, List.nodup_cons] at hn
    simp only [List.mem_cons, Prod.mk.injEq] at h
    simp only [aget]
    rcases h with ⟨rfl, rfl⟩ | h
    · simp
    · rw [if_neg, ih hn.2 h]
      intro e; subst e
      exact hn.1 (List.mem_map.2 ⟨_, h, rfl⟩)
theorem aput_keys (l : List (κ × ν)) (k : κ) (v : ν) : (aput l k v).map (·.1) = if k ∈ l.map (·.1) then l.map (·.1) else l.map (·.1) ++ [k] := by
  induction l with
  | nil => simp [aput]
  | cons p l ih =>
    obtain ⟨a, b⟩ := p
    simp only [aput]
    by_cases h : a = k
    · subst h; simp
    · have h' : ¬ k = a := fun e => h e.symm
      rw [if_neg h]
      simp only [List.map_cons, ih, List.mem_cons, h', false_or]
      split <;> simp
theorem aput_nodup {l : List (κ × ν)} (h : ANodup l) (k : κ) (v : ν) : ANodup (aput l k v) := by
  unfold ANodup at *
  rw [aput_keys]
  split
  · exact h
  · rename_i hk
    refine List.nodup_append.2 ⟨h, by simp, ?_⟩
    intro a ha b hb
    simp at hb
    subst hb
    intro e
    subst e
    exact hk ha
theorem adel_sublist (l : List (κ × ν)) (k : κ) : (adel l k).Sublist l := by
  induction l with
  | nil => exact List.Sublist.refl _
  | cons p l ih =>
    obtain ⟨a, b⟩ := p
    simp only [adel]
    split
    · exact List.sublist_cons_self _ _
    · exact ih.cons_cons _
theorem adel_nodup {l : List (κ × ν)} (h : ANodup l) (k : κ) : ANodup (adel l k) := List.Nodup.sublist ((adel_sublist l k).map _) h
theorem aget_aput (l : List (κ × ν)) (k q : κ) (v : ν) : aget (aput l k v) q = if k = q then some v else aget l q := by
  induction l with
  | nil => simp [aput, aget]
  | cons p l ih =>
    obtain ⟨a, b⟩ := p
    simp only [aput]
    by_cases h : a = k
    · subst h
      simp only [if_true, aget]
      split <;> simp_all
    · rw [if_neg h]
      simp only [aget, ih]
      by_cases h2 : a = q
      · subst h2; simp; intro e; exact absurd e.symm h
      · simp [h2]
theorem aget_adel {l : List (κ × ν)} (hn : ANodup l) (k q : κ) : aget (adel l k) q = if k = q then none else aget l q := by
  induction l with
  | nil => simp [adel, aget]
  | cons p l ih =>
    obtain ⟨a, b⟩ := p
    simp only [ANodup, List.map_cons, List.nodup_cons] at hn
    simp only [adel]
    by_cases h : a = k
    · subst h
      simp only [if_true, aget]
      split
      · rename_i e; subst e; exact aget_none.2 hn.1
      · rfl
    · rw [if_neg h]
      simp only [aget, ih hn.2]
      by_cases h2 : a = q
      · subst h2; simp; intro e; exact absurd e.symm h
      · simp [h2]
theorem length_aput (l : List (κ × ν)) (k : κ) (v : ν) : (aput l k v).length = if (aget l k).isSome then l.length else l.length + 1 := by
  induction l with
  | nil => simp [aput, aget]
  | cons p l ih =>
    obtain ⟨a, b⟩ := p
    simp only [aput, aget]
    by_cases h : a = k
    · simp [h]
    · simp only [if_neg h, List.length_cons, ih]; split <;> rfl
theorem length_adel (l : List (κ × ν)) (k : κ) : (adel l k).length = if (aget l k).isSome then l.length - 1 else l.length := by
  induction l with
  | nil => simp [adel, aget]
  | cons p l ih =>
    obtain ⟨a, b⟩ := p
    simp only [adel, aget]
    by_cases h : a = k
    · simp [h]
    · simp only [if_neg h, List.length_cons, ih]
      split
      · rename_i hs
        have : 0 < l.length := by
          cases l with
          | nil => simp [aget] at hs
          | cons => simp
        omega
      · rfl
theorem aput_map {μ : Type} (f : ν → μ) (l : List (κ × ν)) (k : κ) (v : ν) : (aput l k v).map (fun p => (p.1, f p.2)) = aput (l.map fun p => (p.1, f p.2)) k (f v) := by
  induction l with
  | nil => simp [aput]
  | cons p l ih => obtain ⟨a, b⟩ := p; simp only [aput, List.map_cons]; split <;> simp [ih]
theorem adel_map {μ : Type} (f : ν → μ) (l : List (κ × ν)) (k : κ) : (adel l k).map (fun p => (p.1, f p.2)) = adel (l.map fun p => (p.1, f p.2)) k := by
  induction l with
  | nil => simp [adel]
  | cons p l ih => obtain ⟨a, b⟩ := p; simp only [adel, List.map_cons]; split <;> simp [ih]
theorem aget_map {μ : Type} (f : ν → μ) (l : List (κ × ν)) (k : κ) : aget (l.map fun p => (p.1, f p.2)) k = (aget l k).map f := by
  induction l with
  | nil => simp [aget]
  | cons p l ih => obtain ⟨a, b⟩ := p; simp only [aget, List.map_cons]; split <;> simp [ih]
end

theorem map_eraseIdx' {α β : Type} (f : α → β) : ∀ (l : List α) (i : Nat), (l.eraseIdx i).map f = (l.map f).eraseIdx i
  | [], _ => rfl
  | _ :: _, 0 => rfl
  | a :: l, i + 1 => by simp [map_eraseIdx' f l i]

/-! ## maps -/
/-- How a key of Go lies as a value. -/
structure KeyEnc {κ : Type} (d : TypeDesc) (enc : κ → Value) : Prop where
  key : ∀ a, IsKey d (enc a)
  inj : ∀ a b, enc a = enc b → a = b

theorem keyEnc_string : KeyEnc .string Value.string := ⟨fun _ => trivial, fun _ _ h => by injection h⟩
theorem keyEnc_int (q : IntKind) : KeyEnc (.int q) (Value.int q) := ⟨fun _ => rfl, fun _ _ h => by injection h⟩
theorem KeyEnc.same {κ : Type} [DecidableEq κ] {d : TypeDesc} {enc : κ → Value} (K : KeyEnc d enc) (a b : κ) : Instr.sameNow d (enc a) (enc b) = some (decide (a = b)) := by
  obtain ⟨r, hr, hi⟩ := sameNow_of_keys (K.key a) (K.key b)
  rw [hr]
  by_cases h : a = b
  · subst h; simp [hi]
  · have : r = false := by
      cases r with
      | false => rfl
      | true => exact absurd (K.inj _ _ (hi.1 rfl)) h
    simp [this, h]

set_option linter.unusedSectionVars false
section
variable {κ : Type} [DecidableEq κ]
/-- Block b is a map that holds just these, in this order of coming. -/
def MapIs (enc : κ → Value) (w : World) (b : Nat) (kv : List (κ × Value)) : Prop :=
  ∃ es clock, w.heap[b]? = some (.map es clock) ∧ Stamped es clock ∧ es.toList.map (fun x => (x.key, x.val)) = kv.map (fun p => (enc p.1, p.2))

variable {enc : κ → Value} {w w' : World} {b : Nat} {kv : List (κ × Value)}
theorem MapIs.of_eq (h : MapIs enc w b kv) (e : w'.heap[b]? = w.heap[b]?) : MapIs enc w' b kv := by
  obtain ⟨es, clock, h1, h2⟩ := h
  exact ⟨es, clock, e.trans h1, h2⟩
theorem MapIs.lt (h : MapIs enc w b kv) : b < w.heap.size := by
  obtain ⟨es, clock, h1, _⟩ := h
  exact lt_of_block h1
theorem MapIs.only {S : List Nat} (h : MapIs enc w b kv) (k : Only S w w') (hn : b ∉ S) : MapIs enc w' b kv := h.of_eq (k.block b h.lt hn)
theorem MapIs.alloc (h : MapIs enc w b kv) (o : Obj) : MapIs enc (w.alloc o) b kv := h.of_eq (Below.heap_alloc _ _ _ h.lt)
theorem MapIs.drew (h : MapIs enc w b kv) : MapIs enc w.drew b kv := h
theorem MapIs.ne_blk {g : Nat} {t : TypeId} {cs : Array Value} (h : MapIs enc w b kv) (hg : Blk w g t cs) : b ≠ g := by
  obtain ⟨es, clock, h1, _⟩ := h
  exact fun e => hg.not_map h1 e.symm
theorem MapIs.setCell (h : MapIs enc w b kv) {p : Addr} (hp : b ≠ p.block) (u : Value) : MapIs enc (w.setCell p u) b kv := h.of_eq (Below.heap_setCell _ _ _ _ hp)
/-- A store into a cell that is there does not turn a map. -/
theorem MapIs.new (enc : κ → Value) (w : World) : MapIs enc (w.alloc (.map #[] 0)) w.heap.size [] := ⟨#[], 0, heap_alloc_new w _, stamped_empty 0, rfl⟩

theorem findNow_enc {d : TypeDesc} (K : KeyEnc d enc) (k : κ) : ∀ (es : List MapEntry) (kv : List (κ × Value)) (i : Nat), es.map (fun x => (x.key, x.val)) = kv.map (fun p => (enc p.1, p.2)) →
    (Instr.findNow d (enc k) es i = some none ∧ aget kv k = none ∧ (∀ x ∈ es, x.key ≠ enc k) ∧ (∀ v, aput kv k v = kv ++ [(k, v)]) ∧ adel kv k = kv) ∨
    ∃ j e v, Instr.findNow d (enc k) es i = some (some (i + j, v)) ∧ es[j]? = some e ∧ e.key = enc k ∧ e.val = v ∧ kv[j]? = some (k, v) ∧ aget kv k = some v ∧ (∀ v, aput kv k v = kv.set j (k, v)) ∧ adel kv k = kv.eraseIdx j
  | [], [], _, _ => .inl ⟨rfl, rfl, by simp, fun _ => rfl, rfl⟩
  | [], _ :: _, _, h => by simp at h
  | _ :: _, [], _, h => by simp at h
  | e :: es, (a, v) :: kv, i, h => by
    simp only [List.map_cons, List.cons.injEq, Prod.mk.injEq] at h
    obtain ⟨⟨h1, h2⟩, h3⟩ := h
    have hs := K.same k a
    rw [← h1] at hs
    by_cases hk : a = k
    · subst hk
      refine .inr ⟨0, e, v, ?_, rfl, h1, h2, rfl, by simp [aget], fun _ => by simp [aput], by simp [adel]⟩
      simp [Instr.findNow, hs, h2]
    · have hk' : ¬ k = a := fun e => hk e.symm
      have hs' : Instr.sameNow d (enc k) e.key = some false := by simp [hs, hk']
      have hne : e.key ≠ enc k := by
        intro q
        have := K.same k k
        rw [q] at hs'
        rw [hs'] at this
        simp at this
      rcases findNow_enc K k es kv (i + 1) h3 with ⟨p1, p2, p3, p4, p5⟩ | ⟨j, e', v', p1, p2, p3, p4, p5, p6, p7, p8⟩
      · refine .inl ⟨by simp [Instr.findNow, hs', p1], by simp [aget, hk, p2], ?_, fun u => by simp [aput, hk, p4], by simp [adel, hk, p5]⟩
        intro x hx
        cases hx with
        | head => exact hne
        | tail _ hx => exact p3 x hx
      · refine .inr ⟨j + 1, e', v', by simp [Instr.findNow, hs', p1]; omega, by simpa using p2, p3, p4, by simpa using p5, by simp [aget, hk, p6], fun u => by simp [aput, hk, p7], by simp [adel, hk, p8]⟩

variable {P : Program} {t k e : TypeId} {d : TypeDesc}
theorem MapIs.nodup (h : MapIs enc w b kv) : ANodup kv := by
  obtain ⟨es, clock, _, ⟨_, _, h3⟩, h4⟩ := h
  have e1 : es.toList.map (·.key) = (kv.map (·.1)).map enc := by
    have := congrArg (List.map Prod.fst) h4
    simpa [List.map_map, Function.comp_def] using this
  rw [e1] at h3
  unfold ANodup
  generalize kv.map (·.1) = l at h3
  induction l with
  | nil => simp
  | cons a l ih =>
    simp only [List.map_cons, List.nodup_cons] at h3
    exact List.nodup_cons.2 ⟨fun hm => h3.1 (List.mem_map.2 ⟨a, hm, rfl⟩), ih h3.2⟩

theorem MapIs.lookup (K : KeyEnc d enc) (ht : P.underlying t = some (.map k e)) (hk : P.underlying k = some d) {z : Value} (hz : (zeroValue e).run P w = .ok z w) (h : MapIs enc w b kv) (q : κ) (ok : Bool) :
    (Instr.lookup t (.map (some b)) (enc q) ok).run P w = .ok (if ok then .tuple #[(aget kv q).getD z, .bool (aget kv q).isSome] else (aget kv q).getD z) w := by
  obtain ⟨es, clock, hb, hs, hm⟩ := h
  rcases findNow_enc K q es.toList kv 0 hm with ⟨p1, p2, _⟩ | ⟨j, e', v, p1, _, _, _, _, p6, _⟩
  · cases ok <;> simp [Instr.lookup, run_underlying ht, MapKept.run_getObj_map hb, MapKept.run_checkKey hk (K.key q), MapKept.run_findKey hk p1, hz, p2, Result.andThen]
  · cases ok <;> simp [Instr.lookup, run_underlying ht, MapKept.run_getObj_map hb, MapKept.run_checkKey hk (K.key q), MapKept.run_findKey hk p1, p6, Result.andThen]

theorem MapIs.update (K : KeyEnc d enc) (ht : P.underlying t = some (.map k e)) (hk : P.underlying k = some d) (h : MapIs enc w b kv) (q : κ) (v : Value) :
    ∃ o, (Instr.mapUpdate t (.map (some b)) (enc q) v).run P w = .ok () (setBlock w b o) ∧ MapIs enc (setBlock w b o) b (aput kv q v) := by
  obtain ⟨es, clock, hb, hs, hm⟩ := h
  rcases findNow_enc K q es.toList kv 0 hm with ⟨p1, p2, p3, p4, _⟩ | ⟨j, e', v0, p1, p2, p3, p4, p5, _, p7, _⟩
  · refine ⟨.map (es.push { key := enc q, val := v, born := clock }) (clock + 1), ?_, _, _, heap_setBlock_same hb _, stamped_push hs p3, ?_⟩
    · simp [Instr.mapUpdate, run_underlying ht, MapKept.run_getObj_map hb, MapKept.run_checkKey hk (K.key q), MapKept.run_findKey hk p1, MapKept.run_setObj_map _ hb, Result.andThen, Go.ChangeMaps.setBlock]
    · rw [p4]; simp [hm]
  · have hj : es[j]? = some e' := by simpa using p2
    have hkey : ∀ x, es[j]? = some x → ({ x with key := enc q, val := v } : MapEntry).key = x.key := fun x hx => by rw [hj] at hx; cases hx; exact p3.symm
    refine ⟨.map (es.modify j fun x => { x with key := enc q, val := v }) clock, ?_, _, _, heap_setBlock_same hb _, stamped_modify hs j _ (fun _ _ => rfl) (fun x _ hx => hkey x hx), ?_⟩
    · simp [Instr.mapUpdate, run_underlying ht, MapKept.run_getObj_map hb, MapKept.run_checkKey hk (K.key q), MapKept.run_findKey hk p1, hj, p3, MapKept.run_keyThatStays (K.key q), MapKept.run_setObj_map _ hb, Result.andThen, Go.ChangeMaps.setBlock]
    · rw [p7]
      apply List.ext_getElem?
      intro i
      have hm' := congrArg (fun l => l[i]?) hm
      simp only [List.getElem?_map] at hm'
      simp only [List.getElem?_map, Array.getElem?_toList, Array.getElem?_modify, List.getElem?_set]
      by_cases e : j = i
      · subst e
        have hl : j < kv.length := (List.getElem?_eq_some_iff.1 p5).1
        simp [hj, hl]
      · rw [if_neg e, if_neg e]
        simpa using hm'

theorem MapIs.delete (K : KeyEnc d enc) (ht : P.underlying t = some (.map k e)) (hk : P.underlying k = some d) (h : MapIs enc w b kv) (q : κ) (ty : TypeId) :
    ∃ o, (Builtin.delete_ #[t, k] ty #[.map (some b), enc q]).run P w = .ok (.tuple #[]) (setBlock w b o) ∧ MapIs enc (setBlock w b o) b (adel kv q) := by
  obtain ⟨es, clock, hb, hs, hm⟩ := h
  rcases findNow_enc K q es.toList kv 0 hm with ⟨p1, _, _, _, p5⟩ | ⟨j, e', v0, p1, p2, _, _, _, _, _, p8⟩
  · refine ⟨.map es clock, ?_, _, _, heap_setBlock_same hb _, hs, ?_⟩
    · simp [Builtin.delete_, run_underlying ht, MapKept.run_getObj_map hb, MapKept.run_checkKey hk (K.key q), MapKept.run_findKey hk p1, MapKept.run_setObj_map _ hb, Result.andThen, Go.ChangeMaps.setBlock]
    · rw [p5]; exact hm
  · refine ⟨.map (es.eraseIdxIfInBounds j) clock, ?_, _, _, heap_setBlock_same hb _, stamped_erase hs j, ?_⟩
    · simp [Builtin.delete_, run_underlying ht, MapKept.run_getObj_map hb, MapKept.run_checkKey hk (K.key q), MapKept.run_findKey hk p1, MapKept.run_setObj_map _ hb, Result.andThen, Go.ChangeMaps.setBlock]
    · have hl : j < es.size := by have := (List.getElem?_eq_some_iff.1 p2).1; simpa using this
      rw [p8, map_eraseIdx', ← hm, ← map_eraseIdx']
      simp [Array.eraseIdxIfInBounds, hl]

theorem MapIs.len (ht : P.underlying t = some (.map k e)) (h : MapIs enc w b kv) (ty : TypeId) :
    (Builtin.len_ #[t] ty #[.map (some b)]).run P w = .ok (.int .i64 kv.length) w := by
  obtain ⟨es, clock, hb, _, hm⟩ := h
  have hl := congrArg List.length hm
  simp at hl
  simp [Builtin.len_, run_underlying ht, MapKept.run_getObj_map hb, Result.andThen, goInt, hl]

/-! the laws at the operation -/
variable {ops : Array Oper} {rest : List Oper} {o : Oper} {a : Act} {Q : Exit → Act → World → Prop}
theorem wpList_lookup_is (hg : o.guard = none) {m x : Operand} (t : TypeId) (hop : o.op = .lookup t m x false) (K : KeyEnc d enc) (ht : P.underlying t = some (.map k e)) (hk : P.underlying k = some d) {z : Value}
    (hz : (zeroValue e).run P w = .ok z w) (q : κ) (hm : a.eval m = .map (some b)) (hx : a.eval x = enc q) (h : MapIs enc w b kv) (v : Value) (hv : (aget kv q).getD z = v)
    (hK : wpList P ops Q rest (a.put o.dst v) w) : wpList P ops Q (o :: rest) a w := by
  refine wpList_plain hg fun K' hK' => ?_
  unfold Oper.wp
  simp only [execOp, hop, hm, hx, h.lookup K ht hk hz q false, Sem.run_bind, Sem.run_pure, Result.andThen_ok, hv]
  exact hK' _ _ hK
theorem wpList_lookup_ok_is (hg : o.guard = none) {m x : Operand} (t : TypeId) (hop : o.op = .lookup t m x true) (K : KeyEnc d enc) (ht : P.underlying t = some (.map k e)) (hk : P.underlying k = some d) {z : Value}
    (hz : (zeroValue e).run P w = .ok z w) (q : κ) (hm : a.eval m = .map (some b)) (hx : a.eval x = enc q) (h : MapIs enc w b kv) (v : Value) (is : Bool) (hv : (aget kv q).getD z = v) (hi : (aget kv q).isSome = is)
    (hK : wpList P ops Q rest (a.put o.dst (.tuple #[v, .bool is])) w) : wpList P ops Q (o :: rest) a w := by
  refine wpList_plain hg fun K' hK' => ?_
  unfold Oper.wp
  simp only [execOp, hop, hm, hx, h.lookup K ht hk hz q true, Sem.run_bind, Sem.run_pure, Result.andThen_ok, hv, hi]
  exact hK' _ _ hK
theorem wpList_update_is (hg : o.guard = none) {m x v : Operand} (t : TypeId) (hop : o.op = .mapUpdate t m x v) (K : KeyEnc d enc) (ht : P.underlying t = some (.map k e)) (hk : P.underlying k = some d)
    (q : κ) (val : Value) (hm : a.eval m = .map (some b)) (hx : a.eval x = enc q) (hv : a.eval v = val) (h : MapIs enc w b kv)
    (hK : ∀ w', MapIs enc w' b (aput kv q val) → Only [b] w w' → wpList P ops Q rest (a.put o.dst undef) w') : wpList P ops Q (o :: rest) a w := by
  refine wpList_plain hg fun K' hK' => ?_
  obtain ⟨o', hrun, r1⟩ := h.update K ht hk q val
  unfold Oper.wp
  simp [execOp, hop, hm, hx, hv, hrun, Result.andThen]
  exact hK' _ _ (hK _ r1 ((Only.refl _ w).setBlock (.inl (by simp)) _))
theorem wpList_delete_is (hg : o.guard = none) {m x : Operand} (t k : TypeId) (hop : o.op = .call { callee := .builtin .delete, args := #[m, x], argTypes := #[t, k] }) (K : KeyEnc d enc) (ht : P.underlying t = some (.map k e)) (hk : P.underlying k = some d)
    (q : κ) (hm : a.eval m = .map (some b)) (hx : a.eval x = enc q) (h : MapIs enc w b kv)
    (hK : ∀ w', MapIs enc w' b (adel kv q) → Only [b] w w' → wpList P ops Q rest (a.put o.dst (.tuple #[])) w') : wpList P ops Q (o :: rest) a w := by
  refine wpList_plain hg fun K' hK' => ?_
  obtain ⟨o', hrun, r1⟩ := h.delete K ht hk q o.type
  unfold Oper.wp
  simp [execOp, hop, resolve, invoke, builtin, hm, hx, hrun, Result.andThen]
  exact hK' _ _ (hK _ r1 ((Only.refl _ w).setBlock (.inl (by simp)) _))
theorem wpList_len_is (hg : o.guard = none) {m : Operand} (t : TypeId) (hop : o.op = .call { callee := .builtin .len, args := #[m], argTypes := #[t] }) (ht : P.underlying t = some (.map k e))
    (hm : a.eval m = .map (some b)) (h : MapIs enc w b kv) (hK : wpList P ops Q rest (a.put o.dst (.int .i64 kv.length)) w) : wpList P ops Q (o :: rest) a w := by
  refine wpList_plain hg fun K' hK' => ?_
  unfold Oper.wp
  simp [execOp, hop, resolve, invoke, builtin, hm, h.len ht o.type, Result.andThen]
  exact hK' _ _ hK
end

end Go.Proofs.YthjgplgfcbhihaaGreat
/- A group of consumers as plain data: what each method of sub.Group answers and leaves, as functions on lists. No program is named. -/
set_option linter.unusedVariables false
set_option linter.unusedSimpArgs false
namespace Go.Proofs.YthjgplgfcbhihaaGreat
open Go.RowKit
/-! ## lists in order -/
def lb (l : List Int) (n : Int) : Nat := l.countP (fun x => decide (x < n))
def insL (l : List Int) (n : Int) : List Int := if l.contains n then l else l.take (lb l n) ++ n :: l.drop (lb l n)
def remL (l : List Int) (n : Int) : List Int := if l.contains n then l.take (lb l n) ++ l.drop (lb l n + 1) else l
/-- Strictly rising. -/
def Ris (l : List Int) : Prop := l.Pairwise (· < ·)
theorem Ris.le {l : List Int} (h : Ris l) : l.Pairwise (· ≤ ·) := h.imp (fun h => Int.le_of_lt h)
theorem lb_split : ∀ (l : List Int) (n : Int), Ris l → (∀ x ∈ l.take (lb l n), x < n) ∧ (∀ x ∈ l.drop (lb l n), n ≤ x)
  | [], _, _ => ⟨fun x h => (by cases h), fun x h => (by cases h)⟩
  | y :: l, n, h => by
    have h' := List.pairwise_cons.1 h
    by_cases q : y < n
    · have e : lb (y :: l) n = lb l n + 1 := by simp [lb, q]
      obtain ⟨h1, h2⟩ := lb_split l n h'.2
      rw [e, List.take_succ_cons, List.drop_succ_cons]
      refine ⟨fun x hx => ?_, h2⟩
      rcases List.mem_cons.1 hx with rfl | hx
      · exact q
      · exact h1 x hx
    · have e0 : ∀ x ∈ y :: l, n ≤ x := fun x hx => by
        rcases List.mem_cons.1 hx with rfl | hx
        · omega
        · have := h'.1 x hx
          omega
      have e : lb (y :: l) n = 0 := List.countP_eq_zero.2 (fun x hx => by have := e0 x hx; simp; omega)
      rw [e]
      exact ⟨fun x hx => (by cases hx), e0⟩
theorem lb_le (l : List Int) (n : Int) : lb l n ≤ l.length := List.countP_le_length
theorem lb_found {l : List Int} {n : Int} (h : Ris l) (hc : l.contains n = true) : l[lb l n]? = some n := by
  have hm : n ∈ l := by simpa using hc
  obtain ⟨h1, h2⟩ := lb_split l n h
  rw [← List.take_append_drop (lb l n) l] at hm
  rcases List.mem_append.1 hm with q | q
  · have := h1 n q
    omega
  · have hr : Ris (l.drop (lb l n)) := List.Pairwise.sublist (List.drop_sublist _ _) h
    cases hd : l.drop (lb l n) with
    | nil => rw [hd] at q; cases q
    | cons y r =>
      rw [hd] at q hr h2
      have hy := h2 y (by simp)
      have e : y = n := by
        rcases List.mem_cons.1 q with q | q
        · exact q.symm
        · have := (List.pairwise_cons.1 hr).1 n q
          omega
      have := congrArg (fun l => l[0]?) hd
      simp only [List.getElem?_drop, Nat.add_zero, List.getElem?_cons_zero] at this
      rw [this, e]
theorem mem_insL {l : List Int} {n x : Int} : x ∈ insL l n ↔ x = n ∨ x ∈ l := by
  unfold insL
  split
  · rename_i h
    have hm : n ∈ l := by simpa using h
    constructor
    · exact .inr
    · rintro (rfl | q)
      · exact hm
      · exact q
  · have e : x ∈ l ↔ x ∈ l.take (lb l n) ∨ x ∈ l.drop (lb l n) := by
      rw [← List.mem_append, List.take_append_drop]
    rw [List.mem_append, List.mem_cons, e]
    constructor
    · rintro (q | q | q)
      · exact .inr (.inl q)
      · exact .inl q
      · exact .inr (.inr q)
    · rintro (q | q | q)
      · exact .inr (.inl q)
      · exact .inl q
      · exact .inr (.inr q)
theorem ris_insL {l : List Int} {n : Int} (h : Ris l) : Ris (insL l n) := by
  unfold insL
  split
  · exact h
  · rename_i hc
    have hn : n ∉ l := by simpa using hc
    obtain ⟨h1, h2⟩ := lb_split l n h
    refine List.pairwise_append.2 ⟨List.Pairwise.sublist (List.take_sublist _ _) h, List.pairwise_cons.2 ⟨fun x hx => ?_, List.Pairwise.sublist (List.drop_sublist _ _) h⟩, fun x hx y hy => ?_⟩
    · have := h2 x hx
      have hne : x ≠ n := fun e => hn (by rw [← e]; exact List.mem_of_mem_drop hx)
      omega
    · have hx1 := h1 x hx
      rcases List.mem_cons.1 hy with rfl | hy
      · exact hx1
      · have := h2 y hy
        omega
theorem len_insL (l : List Int) (n : Int) : (insL l n).length = if l.contains n then l.length else l.length + 1 := by
  unfold insL
  split
  · rfl
  · have := lb_le l n
    simp
    omega
theorem ris_remL {l : List Int} {n : Int} (h : Ris l) : Ris (remL l n) := by
  unfold remL
  split
  · refine List.Pairwise.sublist ?_ h
    have e : l = l.take (lb l n) ++ l.drop (lb l n) := (List.take_append_drop _ _).symm
    conv => rhs; rw [e]
    refine List.Sublist.append (List.Sublist.refl _) ?_
    rw [← List.drop_drop]
    exact List.drop_sublist _ _
  · exact h
theorem mem_remL {l : List Int} {n x : Int} (h : Ris l) : x ∈ remL l n ↔ x ∈ l ∧ x ≠ n := by
  unfold remL
  split
  · rename_i hc
    have hf := lb_found h hc
    have hlt : lb l n < l.length := (List.getElem?_eq_some_iff.1 hf).1
    have hg : l[lb l n] = n := (List.getElem?_eq_some_iff.1 hf).2
    have e : l = l.take (lb l n) ++ n :: l.drop (lb l n + 1) := by
      conv => lhs; rw [← List.take_append_drop (lb l n) l, List.drop_eq_getElem_cons hlt, hg]
    have hr := h
    rw [e] at hr
    obtain ⟨_, h2, h3⟩ := List.pairwise_append.1 hr
    have h4 := List.pairwise_cons.1 h2
    have hm : x ∈ l ↔ x ∈ l.take (lb l n) ∨ x = n ∨ x ∈ l.drop (lb l n + 1) := by
      conv => lhs; rw [e]
      rw [List.mem_append, List.mem_cons]
    rw [List.mem_append, hm]
    constructor
    · rintro (q | q)
      · exact ⟨.inl q, fun e2 => by have := h3 x q n (by simp); omega⟩
      · exact ⟨.inr (.inr q), fun e2 => by have := h4.1 x q; omega⟩
    · rintro ⟨q | q | q, hne⟩
      · exact .inl q
      · exact absurd q hne
      · exact .inr q
  · rename_i hc
    have hn : n ∉ l := by simpa using hc
    exact ⟨fun q => ⟨q, fun e => hn (by rw [← e]; exact q)⟩, fun q => q.1⟩
theorem len_remL {l : List Int} {n : Int} (h : Ris l) : (remL l n).length = if l.contains n then l.length - 1 else l.length := by
  unfold remL
  split
  · rename_i hc
    have hf := lb_found h hc
    have hlt : lb l n < l.length := (List.getElem?_eq_some_iff.1 hf).1
    simp
    omega
  · rfl
/-! ## a group -/
structure GS where
  from_ : Int
  buffer : Int
  retries : Int
  next : Int
  waiting : List Int
  flight : List (ByteArray × List Int)
  parked : List Int
  acked : List Int
  skipped : List Int
  tries : List (Int × Int)
def rangeUp : Nat → Int → List Int
  | 0, _ => []
  | n + 1, a => a :: rangeUp n (a + 1)
namespace GS
def new (f b r : Int) : GS := ⟨f, b, r, f, [], [], [], [], [], []⟩
def okNew (f b r : Int) : Bool := decide (0 ≤ f ∧ f ≤ 1099511627776 ∧ 1 ≤ b ∧ b ≤ 100 ∧ 0 ≤ r ∧ r ≤ 100)
def is (g : GS) (who : ByteArray) : Bool := (aget g.flight who).isSome
def fl (g : GS) (who : ByteArray) : List Int := (aget g.flight who).getD []
def tr (g : GS) (n : Int) : Int := (aget g.tries n).getD 0
def join (g : GS) (who : ByteArray) : Int × GS :=
  if who.size < 1 ∨ 60 < who.size then (1, g) else if g.is who then (9, g) else if 20 ≤ g.flight.length then (20, g) else (0, { g with flight := aput g.flight who [] })
def leave (g : GS) (who : ByteArray) : Int × GS :=
  if g.is who then (0, { g with waiting := (g.fl who).foldl insL g.waiting, flight := adel g.flight who }) else (8, g)
def openN (g : GS) : Nat := g.waiting.length + (g.flight.map (fun p => p.2.length)).sum
def feed (g : GS) (n : Int) : Int × GS :=
  if n < 1 then (0, g)
  else
    let k := (max (min n (1000 - g.openN)) 0).toNat
    (k, { g with waiting := (g.waiting ++ rangeUp k g.next).mergeSort (fun x y => decide (x ≤ y)), next := g.next + k })
def take1 (g : GS) (who : ByteArray) : Option (Int × GS) :=
  if g.is who = false ∨ g.buffer ≤ (g.fl who).length then none
  else match g.waiting with
    | [] => none
    | n :: w => some (n, { g with waiting := w, flight := aput g.flight who (insL (g.fl who) n), tries := aput g.tries n (g.tr n + 1) })
def least (l : List Int) (d : Int) : Int := match l with | [] => d | x :: _ => min d x
def checkpoint (g : GS) : Int := g.flight.foldl (fun a p => least p.2 a) (least g.waiting g.next)
/-- What of l is in somebody's flight is taken out, one behind the other. -/
def takeGo : List Int → List Int → List Int × List Int
  | f, [] => (f, [])
  | f, n :: l => if f.contains n then ((takeGo (remL f n) l).1, n :: (takeGo (remL f n) l).2) else takeGo f l
def take (g : GS) (who : ByteArray) (l : List Int) : List Int × GS :=
  if g.is who then
    let r := takeGo (g.fl who) l
    (r.2, if r.2 = [] then g else { g with flight := aput g.flight who r.1 })
  else ([], g)
def forget (g : GS) : GS :=
  { g with acked := g.acked.filter (fun n => !decide (n < g.checkpoint)), skipped := g.skipped.filter (fun n => !decide (n < g.checkpoint)) }
def ack (g : GS) (who : ByteArray) (l : List Int) : Int × GS :=
  let r := g.take who l
  let h : GS := { r.2 with acked := r.1.foldl insL r.2.acked, tries := r.1.foldl adel r.2.tries }
  (r.1.length, if r.1 = [] then h else h.forget)
def nak1 (how : Int) (g : GS) (n : Int) : GS :=
  if how = 3 then { g with skipped := insL g.skipped n, tries := adel g.tries n }
  else if how = 2 ∧ g.tr n ≤ g.retries then { g with waiting := insL g.waiting n }
  else { g with parked := insL g.parked n }
def nak (g : GS) (who : ByteArray) (how : Int) (l : List Int) : Int × GS :=
  if how ≠ 1 ∧ how ≠ 2 ∧ how ≠ 3 then (0, g)
  else
    let r := g.take who l
    let h := r.1.foldl (nak1 how) r.2
    (r.1.length, if r.1 = [] then h else h.forget)
def who (g : GS) : List ByteArray := ((g.flight.map (fun p => p.1.data.toList)).mergeSort (fun x y => decide (x ≤ y))).map (fun x => ⟨x.toArray⟩)
def lateGo : List ByteArray → Int → GS → Int × GS
  | [], n, g => (n, g)
  | w :: l, n, g => lateGo l (n + (g.nak w 2 (g.fl w)).1) (g.nak w 2 (g.fl w)).2
def late (g : GS) : Int × GS := lateGo g.who 0 g
def replay (g : GS) : Int × GS :=
  (g.parked.length, { g with parked := [], waiting := g.parked.foldl insL g.waiting, tries := g.parked.foldl adel g.tries })
end GS
end Go.Proofs.YthjgplgfcbhihaaGreat
/- What every call keeps of a group: lists rise, and hold what was fed. -/
set_option linter.unusedVariables false
set_option linter.unusedSimpArgs false
namespace Go.Proofs.YthjgplgfcbhihaaGreat
open Go.RowKit
theorem aput_in {κ ν : Type} [DecidableEq κ] {l : List (κ × ν)} {k : κ} {v : ν} {p : κ × ν} (h : p ∈ aput l k v) : p = (k, v) ∨ p ∈ l := by
  induction l with
  | nil => simp [aput] at h; exact .inl h
  | cons q l ih =>
    obtain ⟨a, b⟩ := q
    simp only [aput] at h
    split at h
    · simp only [List.mem_cons] at h ⊢
      rcases h with h | h
      · exact .inl h
      · exact .inr (.inr h)
    · simp only [List.mem_cons] at h ⊢
      rcases h with h | h
      · exact .inr (.inl h)
      · exact (ih h).imp id .inr
/-- A list of what was fed. -/
structure Fed (f n : Int) (l : List Int) : Prop where
  ris : Ris l
  mem : ∀ x ∈ l, f ≤ x ∧ x < n
theorem Fed.nil (f n : Int) : Fed f n [] := ⟨List.Pairwise.nil, fun x h => by cases h⟩
theorem Fed.ins {f n x : Int} {l : List Int} (h : Fed f n l) (hx : f ≤ x ∧ x < n) : Fed f n (insL l x) :=
  ⟨ris_insL h.ris, fun y hy => by
    rcases mem_insL.1 hy with rfl | q
    · exact hx
    · exact h.mem y q⟩
theorem Fed.rem {f n x : Int} {l : List Int} (h : Fed f n l) : Fed f n (remL l x) := ⟨ris_remL h.ris, fun y hy => h.mem y ((mem_remL h.ris).1 hy).1⟩
theorem Fed.more {f n m : Int} {l : List Int} (h : Fed f n l) (hm : n ≤ m) : Fed f m l := ⟨h.ris, fun x hx => ⟨(h.mem x hx).1, by have := (h.mem x hx).2; omega⟩⟩
theorem Fed.sub {f n : Int} {l m : List Int} (h : Fed f n l) (hs : m.Sublist l) : Fed f n m := ⟨List.Pairwise.sublist hs h.ris, fun x hx => h.mem x (hs.subset hx)⟩
theorem Fed.fold {f n : Int} : ∀ (l m : List Int), Fed f n m → (∀ x ∈ l, f ≤ x ∧ x < n) → Fed f n (l.foldl insL m)
  | [], _, h, _ => h
  | x :: l, m, h, hx => Fed.fold l (insL m x) (h.ins (hx x (by simp))) (fun y hy => hx y (by simp [hy]))
theorem Fed.len : ∀ {l : List Int} {f n : Int}, Fed f n l → f ≤ n → (l.length : Int) ≤ n - f
  | [], f, n, _, hn => by simp; omega
  | x :: l, f, n, h, hn => by
    have h1 := List.pairwise_cons.1 h.ris
    have hx := h.mem x (by simp)
    have := Fed.len (l := l) (f := x + 1) (n := n) ⟨h1.2, fun y hy => ⟨by have := h1.1 y hy; omega, (h.mem y (by simp [hy])).2⟩⟩ (by omega)
    simp
    omega
theorem rangeUp_mem : ∀ (k : Nat) (a x : Int), x ∈ rangeUp k a ↔ a ≤ x ∧ x < a + k
  | 0, a, x => by
    simp [rangeUp]
    try omega
  | k + 1, a, x => by
    rw [rangeUp, List.mem_cons, rangeUp_mem k (a + 1) x]
    constructor
    · rintro (rfl | q) <;> omega
    · intro q
      by_cases e : x = a
      · exact .inl e
      · exact .inr (by omega)
theorem rangeUp_len : ∀ (k : Nat) (a : Int), (rangeUp k a).length = k
  | 0, _ => rfl
  | k + 1, a => by simp [rangeUp, rangeUp_len k (a + 1)]
theorem rangeUp_ris : ∀ (k : Nat) (a : Int), Ris (rangeUp k a)
  | 0, _ => List.Pairwise.nil
  | k + 1, a => List.pairwise_cons.2 ⟨fun x hx => by have := (rangeUp_mem k (a + 1) x).1 hx; omega, rangeUp_ris k (a + 1)⟩
theorem Fed.up {f n : Int} {l : List Int} (h : Fed f n l) (hf : f ≤ n) (k : Nat) : Fed f (n + k) (l ++ rangeUp k n) :=
  ⟨List.pairwise_append.2 ⟨h.ris, rangeUp_ris k n, fun x hx y hy => by have := (h.mem x hx).2; have := (rangeUp_mem k n y).1 hy; omega⟩, fun x hx => by
    rcases List.mem_append.1 hx with q | q
    · have := h.mem x q
      omega
    · have := (rangeUp_mem k n x).1 q
      omega⟩
theorem ris_sort {l : List Int} (h : Ris l) : l.mergeSort (fun x y => decide (x ≤ y)) = l :=
  List.mergeSort_of_pairwise (h.imp (fun q => by simp; omega))
structure GS.Ok (g : GS) (N : Nat) : Prop where
  fr : 0 ≤ g.from_ ∧ g.from_ ≤ 1099511627776
  bu : 1 ≤ g.buffer ∧ g.buffer ≤ 100
  re : 0 ≤ g.retries ∧ g.retries ≤ 100
  nx : g.from_ ≤ g.next ∧ g.next ≤ g.from_ + 1000 * N
  wa : Fed g.from_ g.next g.waiting
  pa : Fed g.from_ g.next g.parked
  ac : Fed g.from_ g.next g.acked
  sk : Fed g.from_ g.next g.skipped
  fl : ∀ p ∈ g.flight, Fed g.from_ g.next p.2
  few : g.flight.length ≤ 20
  nod : ANodup g.flight
  tr : ∀ p ∈ g.tries, 0 ≤ p.2 ∧ p.2 ≤ N
namespace GS
variable {g : GS} {N : Nat}
theorem new_ok {f b r : Int} (h : okNew f b r = true) : (new f b r).Ok 0 := by
  simp [okNew] at h
  exact ⟨by show 0 ≤ f ∧ f ≤ _; omega, by show 1 ≤ b ∧ b ≤ _; omega, by show 0 ≤ r ∧ r ≤ _; omega, by show f ≤ f ∧ f ≤ f + 1000 * (0 : Nat); omega, Fed.nil _ _, Fed.nil _ _, Fed.nil _ _, Fed.nil _ _, fun p hp => (by cases hp), Nat.zero_le _, List.nodup_nil, fun p hp => (by cases hp)⟩
theorem Ok.more (h : g.Ok N) {M : Nat} (hm : N ≤ M) : g.Ok M :=
  ⟨h.fr, h.bu, h.re, ⟨h.nx.1, by have := h.nx.2; omega⟩, h.wa, h.pa, h.ac, h.sk, h.fl, h.few, h.nod, fun p hp => ⟨(h.tr p hp).1, by have := (h.tr p hp).2; omega⟩⟩
theorem Ok.flOf (h : g.Ok N) (who : ByteArray) : Fed g.from_ g.next (g.fl who) := by
  unfold GS.fl
  cases hx : aget g.flight who with
  | none => exact Fed.nil _ _
  | some l => exact h.fl _ (aget_mem hx)
theorem Ok.trOf (h : g.Ok N) (n : Int) : 0 ≤ g.tr n ∧ g.tr n ≤ N := by
  unfold GS.tr
  cases hx : aget g.tries n with
  | none => simp
  | some k => exact h.tr _ (aget_mem hx)
theorem Ok.len (h : g.Ok N) {l : List Int} (hl : Fed g.from_ g.next l) : l.length ≤ 1000 * N := by
  have := hl.len h.nx.1
  have := h.nx.2
  omega
theorem few_aput {l : List (ByteArray × List Int)} {who : ByteArray} {v : List Int} (h : (aget l who).isSome = true ∨ l.length < 20) (hl : l.length ≤ 20) : (aput l who v).length ≤ 20 := by
  rw [length_aput]
  split
  · exact hl
  · rename_i q
    rcases h with h | h
    · exact absurd h q
    · omega
theorem join_ok (h : g.Ok N) (who : ByteArray) : (g.join who).2.Ok (N + 1) := by
  have h' := h.more (Nat.le_succ N)
  unfold join
  split
  · exact h'
  split
  · exact h'
  split
  · exact h'
  · rename_i q1 q2 q3
    exact ⟨h'.fr, h'.bu, h'.re, h'.nx, h'.wa, h'.pa, h'.ac, h'.sk, fun p hp => by
      rcases aput_in hp with rfl | hp
      · exact Fed.nil _ _
      · exact h'.fl p hp, few_aput (.inr (by omega)) h'.few, aput_nodup h'.nod _ _, h'.tr⟩
theorem adel_len {κ ν : Type} [DecidableEq κ] (l : List (κ × ν)) (k : κ) : (adel l k).length ≤ l.length := (adel_sublist l k).length_le
theorem leave_ok (h : g.Ok N) (who : ByteArray) : (g.leave who).2.Ok (N + 1) := by
  have h' := h.more (Nat.le_succ N)
  unfold leave
  split
  · exact ⟨h'.fr, h'.bu, h'.re, h'.nx, Fed.fold _ _ h'.wa (h'.flOf who).mem, h'.pa, h'.ac, h'.sk, fun p hp => h'.fl p ((adel_sublist _ _).subset hp), Nat.le_trans (adel_len _ _) h'.few, adel_nodup h'.nod _, h'.tr⟩
  · exact h'
theorem feed_wait (h : g.Ok N) (k : Nat) : (g.waiting ++ rangeUp k g.next).mergeSort (fun x y => decide (x ≤ y)) = g.waiting ++ rangeUp k g.next := ris_sort (h.wa.up h.nx.1 k).ris
theorem feed_ok (h : g.Ok N) (n : Int) : (g.feed n).2.Ok (N + 1) := by
  have h' := h.more (Nat.le_succ N)
  unfold feed
  split
  · exact h'
  · dsimp only
    rw [feed_wait h]
    generalize hk : (max (min n (1000 - (g.openN : Int))) 0).toNat = k
    have hk1 : k ≤ 1000 := by omega
    have hw := h.wa.up h.nx.1 k
    have hn : g.next ≤ g.next + (k : Int) := by omega
    exact ⟨h.fr, h.bu, h.re, ⟨by show g.from_ ≤ g.next + k; have := h.nx.1; omega, by show g.next + k ≤ g.from_ + 1000 * ((N + 1 : Nat) : Int); have := h.nx.2; omega⟩, hw, h.pa.more hn, h.ac.more hn, h.sk.more hn, fun p hp => (h.fl p hp).more hn, h.few, h.nod, h'.tr⟩
theorem take1_ok (h : g.Ok N) (who : ByteArray) {n : Int} {t : GS} (he : g.take1 who = some (n, t)) : t.Ok (N + 1) := by
  have h' := h.more (Nat.le_succ N)
  unfold take1 at he
  split at he
  · cases he
  · rename_i q
    split at he
    · cases he
    · rename_i m w hw
      injection he with he
      injection he with e1 e2
      subst e1 e2
      have hwa := h.wa
      rw [hw] at hwa
      have hm := hwa.mem m (by simp)
      have hi : (aget g.flight who).isSome = true := by
        cases hh : (aget g.flight who).isSome with
        | true => rfl
        | false => exact absurd (.inl hh) q
      have ht := h.trOf m
      exact ⟨h.fr, h.bu, h.re, h'.nx, hwa.sub (List.sublist_cons_self _ _), h.pa, h.ac, h.sk, fun p hp => by
        rcases aput_in hp with rfl | hp
        · exact (h.flOf who).ins hm
        · exact h.fl p hp, few_aput (.inl hi) h.few, aput_nodup h.nod _ _, fun p hp => by
        rcases aput_in hp with rfl | hp
        · show 0 ≤ g.tr m + 1 ∧ g.tr m + 1 ≤ ((N + 1 : Nat) : Int)
          omega
        · exact h'.tr p hp⟩
theorem takeGo_fed {f n : Int} : ∀ (l fl : List Int), Fed f n fl → Fed f n (takeGo fl l).1 ∧ (∀ x ∈ (takeGo fl l).2, f ≤ x ∧ x < n)
  | [], _, h => ⟨h, fun x hx => by cases hx⟩
  | y :: l, fl, h => by
    unfold takeGo
    split
    · rename_i hc
      have hm := h.mem y (by simpa using hc)
      obtain ⟨h1, h2⟩ := takeGo_fed l (remL fl y) h.rem
      exact ⟨h1, fun x hx => by
        rcases List.mem_cons.1 hx with rfl | hx
        · exact hm
        · exact h2 x hx⟩
    · exact takeGo_fed l fl h
/-- What take leaves: the flights, nothing else. -/
theorem take_ok (h : g.Ok N) (who : ByteArray) (l : List Int) : (g.take who l).2.Ok N ∧ (∀ x ∈ (g.take who l).1, g.from_ ≤ x ∧ x < g.next) ∧ (g.take who l).2.from_ = g.from_ ∧ (g.take who l).2.next = g.next := by
  unfold take
  split
  · rename_i hi
    obtain ⟨h1, h2⟩ := takeGo_fed l (g.fl who) (h.flOf who)
    dsimp only
    refine ⟨?_, h2, ?_⟩
    · split
      · exact h
      · exact ⟨h.fr, h.bu, h.re, h.nx, h.wa, h.pa, h.ac, h.sk, fun p hp => by
          rcases aput_in hp with rfl | hp
          · exact h1
          · exact h.fl p hp, few_aput (.inl hi) h.few, aput_nodup h.nod _ _, h.tr⟩
    · split <;> exact ⟨rfl, rfl⟩
  · exact ⟨h, fun x hx => (by cases hx), rfl, rfl⟩
theorem adel_tr {P : Int × Int → Prop} : ∀ (d : List Int) {l : List (Int × Int)} (h : ∀ p ∈ l, P p), ∀ p ∈ d.foldl adel l, P p
  | [], _, h => h
  | x :: d, l, h => adel_tr d (l := adel l x) (fun p hp => h p ((adel_sublist l x).subset hp))
theorem forget_ok (h : g.Ok N) : g.forget.Ok N :=
  ⟨h.fr, h.bu, h.re, h.nx, h.wa, h.pa, h.ac.sub (List.filter_sublist), h.sk.sub (List.filter_sublist), h.fl, h.few, h.nod, h.tr⟩
theorem ack_ok (h : g.Ok N) (who : ByteArray) (l : List Int) : (g.ack who l).2.Ok N := by
  obtain ⟨h1, h2, h3, h4⟩ := take_ok h who l
  unfold ack
  dsimp only
  have hk : ({ (g.take who l).2 with acked := (g.take who l).1.foldl insL (g.take who l).2.acked, tries := (g.take who l).1.foldl adel (g.take who l).2.tries } : GS).Ok N :=
    ⟨h1.fr, h1.bu, h1.re, h1.nx, h1.wa, h1.pa, Fed.fold _ _ h1.ac (fun x hx => by rw [h3, h4]; exact h2 x hx), h1.sk, h1.fl, h1.few, h1.nod, adel_tr _ h1.tr⟩
  split
  · exact hk
  · exact forget_ok hk
theorem nak1_ok (h : g.Ok N) (how n : Int) (hn : g.from_ ≤ n ∧ n < g.next) : (nak1 how g n).Ok N ∧ (nak1 how g n).from_ = g.from_ ∧ (nak1 how g n).next = g.next := by
  unfold nak1
  split
  · exact ⟨⟨h.fr, h.bu, h.re, h.nx, h.wa, h.pa, h.ac, h.sk.ins hn, h.fl, h.few, h.nod, fun p hp => h.tr p ((adel_sublist _ _).subset hp)⟩, rfl, rfl⟩
  split
  · exact ⟨⟨h.fr, h.bu, h.re, h.nx, h.wa.ins hn, h.pa, h.ac, h.sk, h.fl, h.few, h.nod, h.tr⟩, rfl, rfl⟩
  · exact ⟨⟨h.fr, h.bu, h.re, h.nx, h.wa, h.pa.ins hn, h.ac, h.sk, h.fl, h.few, h.nod, h.tr⟩, rfl, rfl⟩
theorem nakAll_ok (how : Int) : ∀ (d : List Int) {g : GS}, g.Ok N → (∀ x ∈ d, g.from_ ≤ x ∧ x < g.next) → (d.foldl (nak1 how) g).Ok N
  | [], _, h, _ => h
  | x :: d, g, h, hd => by
    obtain ⟨h1, h2, h3⟩ := nak1_ok h how x (hd x (by simp))
    exact nakAll_ok how d h1 (fun y hy => by rw [h2, h3]; exact hd y (by simp [hy]))
theorem nak_ok (h : g.Ok N) (who : ByteArray) (how : Int) (l : List Int) : (g.nak who how l).2.Ok N := by
  obtain ⟨h1, h2, h3, h4⟩ := take_ok h who l
  unfold nak
  split
  · exact h
  · dsimp only
    have hk := nakAll_ok how (g.take who l).1 h1 (fun x hx => by rw [h3, h4]; exact h2 x hx)
    split
    · exact hk
    · exact forget_ok hk
theorem lateGo_ok : ∀ (l : List ByteArray) (n : Int) {g : GS}, g.Ok N → (lateGo l n g).2.Ok N
  | [], _, _, h => h
  | w :: l, n, g, h => lateGo_ok l _ (nak_ok h w 2 (g.fl w))
theorem late_ok (h : g.Ok N) : g.late.2.Ok N := lateGo_ok g.who 0 h
theorem replay_ok (h : g.Ok N) : g.replay.2.Ok N :=
  ⟨h.fr, h.bu, h.re, h.nx, Fed.fold _ _ h.wa h.pa.mem, Fed.nil _ _, h.ac, h.sk, h.fl, h.few, h.nod, adel_tr _ h.tr⟩
end GS
end Go.Proofs.YthjgplgfcbhihaaGreat
/- The document's group of consumers as plain data. No program is named. -/
set_option linter.unusedVariables false
set_option linter.unusedSimpArgs false
namespace Go.Proofs.YthjgplgfcbhihaaGreat
open Go.RowKit
structure Item where
  n : Int
  st : Int
  tries : Int
  own : ByteArray
def Item.cells (x : Item) : List Value := [.int .i64 x.n, .int .i64 x.st, .int .i64 x.tries, .string x.own]
structure RG where
  from_ : Int
  buf : Int
  ret : Int
  who : List ByteArray
  l : List Item
def emptyB : ByteArray := ⟨#[]⟩
def whoIx (l : List ByteArray) (s : ByteArray) : Int := if l.findIdx (fun x => decide (x = s)) < l.length then (l.findIdx (fun x => decide (x = s)) : Int) else -1
def pList (st : Int) (a : ByteArray) (x : Item) : Bool := x.st == st && (st != 2 || decide (x.own = a))
def pOpen (x : Item) : Bool := decide (x.st ≤ 2)
def pTries (n : Int) (x : Item) : Bool := x.n == n && (decide (x.st ≤ 2) || x.st == 4)
def pHit (v : Int) (s : ByteArray) (x : Item) : Bool := x.n == v && x.st == 2 && decide (x.own = s) && decide (s ≠ emptyB)
def giveI (ret how : Int) (x : Item) : Item := ⟨x.n, if how = 0 then 3 else if how = 1 then 4 else if how = 3 then 5 else if x.tries ≤ ret then 1 else 4, x.tries, emptyB⟩
def tidyI (c : Int) (x : Item) : Item := if (x.st = 3 ∨ x.st = 5) ∧ x.n < c then ⟨x.n, 6, x.tries, x.own⟩ else x
def replayI (x : Item) : Item := if x.st = 4 then ⟨x.n, 1, 0, x.own⟩ else x
def leaveI (s : ByteArray) (x : Item) : Item := if x.st = 2 ∧ x.own = s then ⟨x.n, 1, x.tries, emptyB⟩ else x
def lateI (ret : Int) (x : Item) : Item := if x.st = 2 then giveI ret 2 x else x
def giveAt (ret how v : Int) (s : ByteArray) (x : Item) : Item := if pHit v s x = true then giveI ret how x else x
def giveGo (ret how : Int) (s : ByteArray) : List Int → List Item → Nat × List Item
  | [], L => (0, L)
  | v :: l, L => (L.countP (pHit v s) + (giveGo ret how s l (L.map (giveAt ret how v s))).1, (giveGo ret how s l (L.map (giveAt ret how v s))).2)
def addI (a : Int) : Nat → List Item
  | 0 => []
  | k + 1 => addI a k ++ [⟨a + k, 1, 0, emptyB⟩]
def bytesLt (x y : ByteArray) : Bool := Go.Op.bytesLess x.toList y.toList
namespace RG
def new (f b r : Int) : RG := ⟨f, b, r, [], []⟩
def list (r : RG) (st : Int) (a : ByteArray) : List Int := (r.l.filter (pList st a)).map (·.n)
def ckpt (r : RG) : Int := match r.l.find? pOpen with | some x => x.n | none => r.from_ + r.l.length
def triesOf (r : RG) (n : Int) : Int := match r.l.find? (pTries n) with | some x => x.tries | none => 0
def tidy (r : RG) : RG := { r with l := r.l.map (tidyI r.ckpt) }
def late (r : RG) : Int × RG := (r.l.countP (fun x => x.st == 2), { r with l := r.l.map (lateI r.ret) })
def replay (r : RG) : Int × RG := (r.l.countP (fun x => x.st == 4), { r with l := r.l.map replayI })
def put (r : RG) (s : ByteArray) : List ByteArray := r.who.take (r.who.findIdx (fun x => !bytesLt x s)) ++ s :: r.who.drop (r.who.findIdx (fun x => !bytesLt x s))
def join (r : RG) (s : ByteArray) : Int × RG :=
  if s.size < 1 ∨ 60 < s.size then (1, r) else if 0 ≤ whoIx r.who s then (9, r) else if 20 ≤ r.who.length then (20, r) else (0, { r with who := r.put s })
def leave (r : RG) (s : ByteArray) : Int × RG :=
  if whoIx r.who s < 0 then (8, r)
  else (0, { r with who := r.who.take (whoIx r.who s).toNat ++ r.who.drop ((whoIx r.who s).toNat + 1), l := r.l.map (leaveI s) })
def feedN (r : RG) (n : Int) : Nat := (max (min n (1000 - (r.l.countP pOpen : Nat))) 0).toNat
def feed (r : RG) (n : Int) : Int × RG := (r.feedN n, { r with l := r.l ++ addI (r.from_ + r.l.length) (r.feedN n) })
def next (r : RG) (s : ByteArray) : (Int × Bool) × RG :=
  if whoIx r.who s < 0 ∨ r.buf ≤ (r.list 2 s).length then ((0, false), r)
  else if h : r.l.findIdx (fun x => x.st == 1) < r.l.length then
    (((r.l[r.l.findIdx (fun x => x.st == 1)]).n, true), { r with l := r.l.set (r.l.findIdx (fun x => x.st == 1)) ⟨(r.l[r.l.findIdx (fun x => x.st == 1)]).n, 2, (r.l[r.l.findIdx (fun x => x.st == 1)]).tries + 1, s⟩ })
  else ((0, false), r)
def give (r : RG) (s : ByteArray) (how : Int) (l : List Int) : Int × RG :=
  if 0 ≤ how ∧ how ≤ 3 then ((giveGo r.ret how s l r.l).1, { r with l := (giveGo r.ret how s l r.l).2 }) else (0, r)
end RG
theorem eqB_t {x s : ByteArray} (h : x = s) : (x.toList == s.toList) = true := by
  rw [h]
  exact beq_self_eq_true _
theorem eqB_f {x s : ByteArray} (h : ¬ x = s) : (x.toList == s.toList) = false := by
  rw [beq_eq_false_iff_ne]
  intro q
  rw [ByteArray.toList_eq, ByteArray.toList_eq] at q
  exact h (ByteArray.ext (Array.toList_inj.1 q))
/-! ## loops that stop at the first one -/
theorem findIdx_hit {α : Type} {p : α → Bool} {l : List α} {j : Nat} (hj : j < l.length) (h1 : ∀ k (hk : k < j) (hl : k < l.length), p l[k] = false) (h2 : p l[j] = true) : l.findIdx p = j :=
  (List.findIdx_eq hj).2 ⟨h2, fun k hk => h1 k hk (by omega)⟩
theorem findIdx_end {α : Type} {p : α → Bool} {l : List α} (h : ∀ k (hl : k < l.length), p l[k] = false) : l.findIdx p = l.length :=
  List.findIdx_eq_length.2 (fun x hx => by
    obtain ⟨k, hk, rfl⟩ := List.getElem_of_mem hx
    exact h k hk)
theorem find_hit {α : Type} {p : α → Bool} {l : List α} {j : Nat} (hj : j < l.length) (h1 : ∀ k (hk : k < j) (hl : k < l.length), p l[k] = false) (h2 : p l[j] = true) : l.find? p = some l[j] := by
  rw [List.find?_eq_some_iff_getElem]
  exact ⟨h2, j, hj, rfl, fun k hk => by simp [h1 k hk (by omega)]⟩
theorem find_end {α : Type} {p : α → Bool} {l : List α} (h : ∀ k (hl : k < l.length), p l[k] = false) : l.find? p = none :=
  List.find?_eq_none.2 (fun x hx => by
    obtain ⟨k, hk, rfl⟩ := List.getElem_of_mem hx
    simp [h k hk])
/-! ## loops that turn one after the other -/
theorem turn_next {α : Type} (f : α → α) (l : List α) (j : Nat) (h : j < l.length) : ((l.take j).map f ++ l.drop j).set j (f l[j]) = (l.take (j + 1)).map f ++ l.drop (j + 1) := by
  have hl : ((l.take j).map f).length = j := by simp; omega
  rw [List.drop_eq_getElem_cons h, List.take_succ_eq_append_getElem h, List.map_append, List.set_append_right _ _ (by omega), hl]
  simp only [Nat.sub_self, List.set_cons_zero, List.append_assoc, List.map_cons, List.map_nil, List.cons_append, List.nil_append]
theorem turn_same {α : Type} (f : α → α) (l : List α) (j : Nat) (h : j < l.length) (e : f l[j] = l[j]) : (l.take j).map f ++ l.drop j = (l.take (j + 1)).map f ++ l.drop (j + 1) := by
  rw [List.drop_eq_getElem_cons h, List.take_succ_eq_append_getElem h, List.map_append]
  simp [e]
theorem turn_get {α : Type} (f : α → α) (l : List α) (j : Nat) (h : j < l.length) (h' : j < ((l.take j).map f ++ l.drop j).length) : ((l.take j).map f ++ l.drop j)[j] = l[j] := by
  rw [List.getElem_append_right (by simp; omega)]
  simp [Nat.min_eq_left (Nat.le_of_lt h)]
theorem turn_len {α : Type} (f : α → α) (l : List α) (j : Nat) : ((l.take j).map f ++ l.drop j).length = l.length := by
  simp
  omega
theorem turn_end {α : Type} (f : α → α) (l : List α) : (l.take l.length).map f ++ l.drop l.length = l.map f := by simp
theorem count_next {α : Type} (p : α → Bool) (l : List α) (j : Nat) (h : j < l.length) : (l.take (j + 1)).countP p = (l.take j).countP p + (if p l[j] = true then 1 else 0) := by
  rw [List.take_succ_eq_append_getElem h, List.countP_append]
  simp [List.countP_cons]
section
variable {r : RG}
theorem next_none {s : ByteArray} (h : whoIx r.who s < 0 ∨ r.buf ≤ (r.list 2 s).length) : r.next s = ((0, false), r) := by
  unfold RG.next
  rw [if_pos h]
theorem next_hit {s : ByteArray} (h : ¬ (whoIx r.who s < 0 ∨ r.buf ≤ (r.list 2 s).length)) {j : Nat} (hj : j < r.l.length) (h1 : ∀ k (hk : k < j) (hl : k < r.l.length), (r.l[k].st == 1) = false) (h2 : (r.l[j].st == 1) = true) :
    r.next s = ((r.l[j].n, true), { r with l := r.l.set j ⟨r.l[j].n, 2, r.l[j].tries + 1, s⟩ }) := by
  have e := findIdx_hit (p := fun x : Item => x.st == 1) hj h1 h2
  unfold RG.next
  rw [if_neg h]
  split
  · rename_i q
    simp only [e]
  · rename_i q
    rw [e] at q
    exact absurd hj q
theorem next_end {s : ByteArray} (h : ¬ (whoIx r.who s < 0 ∨ r.buf ≤ (r.list 2 s).length)) (h1 : ∀ k (hl : k < r.l.length), (r.l[k].st == 1) = false) : r.next s = ((0, false), r) := by
  have e := findIdx_end (p := fun x : Item => x.st == 1) h1
  unfold RG.next
  rw [if_neg h]
  split
  · rename_i q
    rw [e] at q
    exact absurd q (Nat.lt_irrefl _)
  · rfl
end
end Go.Proofs.YthjgplgfcbhihaaGreat
/- Slices that are read, in whatever world; slices in memory that stays. No program is named. -/
set_option linter.unusedVariables false
set_option linter.unusedSimpArgs false
namespace Go.Proofs.YthjgplgfcbhihaaGreat
open Go.RowKit
/-! ## slices that are only read -/
/-- v is a slice of n elements, size cells each, that holds the cells cs. -/
def Slc (w : World) (size : Nat) (v : Value) (n : Nat) (cs : List Value) : Prop :=
  ∃ A cap, v = .slice A n cap ∧ cs.length = n * size ∧ n ≤ cap ∧ cap ≤ maxLen ∧ (0 < n → ∃ b off, A = some ⟨b, off, none⟩ ∧ b < w.heap.size ∧ ∀ j, j < cs.length → w.cell? ⟨b, off + j, none⟩ = cs[j]?)
section
variable {w w' : World} {size n : Nat} {v : Value} {cs : List Value}
theorem Slc.keep (h : Slc w size v n cs) (hs : w.heap.size ≤ w'.heap.size) (hk : ∀ g, v.ownBlock = some g → g < w.heap.size → w'.heap[g]? = w.heap[g]?) : Slc w' size v n cs := by
  obtain ⟨A, cap, rfl, h1, h2, h3, h4⟩ := h
  refine ⟨A, cap, rfl, h1, h2, h3, fun hn => ?_⟩
  obtain ⟨b, off, rfl, hb, hc⟩ := h4 hn
  exact ⟨b, off, rfl, by omega, fun j hj => (World.cell?_of_block (hk b rfl hb)).trans (hc j hj)⟩
theorem Slc.only {S : List Nat} (h : Slc w size v n cs) (k : Only S w w') (hn : ∀ g, v.ownBlock = some g → g ∉ S) : Slc w' size v n cs :=
  h.keep k.size fun g hg hl => k.block g hl (hn g hg)
theorem Slc.nil (w : World) (size : Nat) : Slc w size (.slice none 0 0) 0 [] := ⟨none, 0, rfl, by simp, Nat.le_refl _, by simp [maxLen], fun h => absurd h (by omega)⟩
theorem Slc.of_own {base : Nat} {e : TypeId} (h : w.ownsRow base e size v n cs) : Slc w size v n cs ∧ ∀ g, v.ownBlock = some g → base ≤ g ∧ g < w.heap.size := by
  refine ⟨?_, h.lt⟩
  obtain ⟨h1, h2⟩ := h
  rcases h2 with ⟨rfl, rfl⟩ | ⟨g, cap, cur, rfl, hb, hg, hn, hc, hs, ht⟩
  · exact ⟨none, 0, rfl, h1, Nat.le_refl _, by simp [maxLen], fun h => absurd h (by omega)⟩
  · refine ⟨some ⟨g, 0, none⟩, cap, rfl, h1, hn, hc, fun _ => ⟨g, 0, rfl, lt_of_block hg, fun j hj => ?_⟩⟩
    rw [cell_of_row w g _ cur e (0, 0) hg, ← ht]
    have hj2 : j < n * size := by omega
    simp [hj2]
end

theorem Slc.cell {w : World} {size n : Nat} {v : Value} {cs : List Value} (h : Slc w size v n cs) : ∃ A cap, v = .slice A n cap ∧ n ≤ cap ∧ cap ≤ maxLen ∧ cs.length = n * size ∧ (n = 0 ∨ ∃ b off, A = some ⟨b, off, none⟩ ∧ b < w.heap.size ∧ ∀ j, j < cs.length → w.cell? ⟨b, off + j, none⟩ = cs[j]?) := by
  obtain ⟨A, cap, hv, h1, h2, h3, h4⟩ := h
  refine ⟨A, cap, hv, h2, h3, h1, ?_⟩
  rcases Nat.eq_zero_or_pos n with h0 | h0
  · exact .inl h0
  · exact .inr (h4 h0)

def ints (l : List Int) : List Value := l.map (Value.int .i64)
def strs (l : List ByteArray) : List Value := l.map Value.string
theorem flat_len {E : Type} (cells : E → List Value) (k : Nat) : ∀ (os : List E), (∀ o ∈ os, (cells o).length = k) → (os.flatMap cells).length = os.length * k
  | [], _ => by simp
  | o :: os, h => by
    rw [List.flatMap_cons, List.length_append, flat_len cells k os (fun x hx => h x (by simp [hx])), h o (by simp), List.length_cons, Nat.add_mul]
    omega
theorem flat_get {E : Type} (cells : E → List Value) (k : Nat) : ∀ (os : List E), (∀ o ∈ os, (cells o).length = k) → ∀ (i r : Nat) (hi : i < os.length), r < k → (os.flatMap cells)[i * k + r]? = (cells os[i])[r]?
  | [], _, _, _, hi, _ => absurd hi (Nat.not_lt_zero _)
  | o :: os, h, 0, r, _, hr => by
    rw [List.flatMap_cons, Nat.zero_mul, Nat.zero_add, List.getElem?_append_left (by rw [h o (by simp)]; exact hr)]
    rfl
  | o :: os, h, i + 1, r, hi, hr => by
    rw [List.flatMap_cons, List.getElem?_append_right (by rw [h o (by simp), Nat.add_mul]; omega), h o (by simp)]
    have : (i + 1) * k + r - k = i * k + r := by rw [Nat.add_mul]; omega
    rw [this, flat_get cells k os (fun x hx => h x (by simp [hx])) i r (by simpa using hi) hr]
    rfl
theorem own_only {S : List Nat} {w w' : World} {base size n : Nat} {e : TypeId} {v : Value} {xs : List Value} (h : w.ownsRow base e size v n xs) (k : Only S w w') (hn : ∀ g, v.ownBlock = some g → g ∉ S) : w'.ownsRow base e size v n xs := by
  obtain ⟨h1, h2⟩ := h
  rcases h2 with ⟨rfl, rfl⟩ | ⟨g, cap, cur, rfl, hb, hg, q⟩
  · exact ⟨h1, .inl ⟨rfl, rfl⟩⟩
  · exact ⟨h1, .inr ⟨g, cap, cur, rfl, hb, (k.block g (lt_of_block hg) (hn g rfl)).trans hg, q⟩⟩

/-- An opened slice of elements of k cells. -/
theorem Slc.openE {E : Type} {w : World} {v : Value} {k : Nat} {os : List E} (cells : E → List Value) (hk : ∀ o, (cells o).length = k) (h : Slc w k v os.length (os.flatMap cells)) :
    ∃ A cap, v = .slice A os.length cap ∧ os.length ≤ cap ∧ cap ≤ maxLen ∧ ∀ j (hj : j < os.length), ∃ b off, A = some ⟨b, off, none⟩ ∧ b < w.heap.size ∧ ∀ r, r < k → w.cell? ⟨b, off + j * k + r, none⟩ = (cells os[j])[r]? := by
  obtain ⟨A, cap, hv, h2, h3, h4, h5⟩ := h.cell
  refine ⟨A, cap, hv, h2, h3, fun j hj => ?_⟩
  rcases h5 with h5 | ⟨b, off, h5, h6, h7⟩
  · omega
  · refine ⟨b, off, h5, h6, fun r hr => ?_⟩
    have hlt : j * k + r < os.length * k := by
      have : (j + 1) * k ≤ os.length * k := Nat.mul_le_mul_right k hj
      rw [Nat.add_mul] at this
      omega
    rw [Nat.add_assoc, h7 _ (by rw [h4]; exact hlt)]
    exact flat_get cells k os (fun o _ => hk o) j r hj hr
theorem Slc.openI {w : World} {v : Value} {zs : List Int} (h : Slc w 1 v zs.length (ints zs)) :
    ∃ A cap, v = .slice A zs.length cap ∧ zs.length ≤ cap ∧ cap ≤ maxLen ∧ ∀ j (hj : j < zs.length), ∃ b off, A = some ⟨b, off, none⟩ ∧ b < w.heap.size ∧ w.cell? ⟨b, off + j, none⟩ = some (.int .i64 zs[j]) := by
  obtain ⟨A, cap, hv, h2, h3, h4, h5⟩ := h.cell
  refine ⟨A, cap, hv, h2, h3, fun j hj => ?_⟩
  rcases h5 with h5 | ⟨b, off, h5, h6, h7⟩
  · omega
  · refine ⟨b, off, h5, h6, ?_⟩
    rw [h7 j (by simpa [ints] using hj)]
    simp [ints, hj]
theorem Slc.openS {w : World} {v : Value} {ss : List ByteArray} (h : Slc w 1 v ss.length (strs ss)) :
    ∃ A cap, v = .slice A ss.length cap ∧ ss.length ≤ cap ∧ cap ≤ maxLen ∧ ∀ j (hj : j < ss.length), ∃ b off, A = some ⟨b, off, none⟩ ∧ b < w.heap.size ∧ w.cell? ⟨b, off + j, none⟩ = some (.string ss[j]) := by
  obtain ⟨A, cap, hv, h2, h3, h4, h5⟩ := h.cell
  refine ⟨A, cap, hv, h2, h3, fun j hj => ?_⟩
  rcases h5 with h5 | ⟨b, off, h5, h6, h7⟩
  · omega
  · refine ⟨b, off, h5, h6, ?_⟩
    rw [h7 j (by simpa [strs] using hj)]
    simp [strs, hj]
theorem Slc.only0 {w w' : World} {size n : Nat} {v : Value} {cs : List Value} (h : Slc w size v n cs) (k : Only [] w w') : Slc w' size v n cs := h.only k (by simp)

/-! ## slices in memory that stays: M are the blocks that may turn -/
def Rd (M : List Nat) (w : World) (size : Nat) (v : Value) (n : Nat) (cs : List Value) : Prop := Slc w size v n cs ∧ ∀ g, v.ownBlock = some g → (g ∉ M ∧ g < w.heap.size) ∨ n = 0
section
variable {M M' S : List Nat} {w w' : World} {size n : Nat} {v : Value} {cs : List Value}
theorem Slc.empty {w' : World} (h : Slc w size v 0 cs) : Slc w' size v 0 cs := by
  obtain ⟨A, cap, hv, h1, h2, h3, h4⟩ := h
  exact ⟨A, cap, hv, h1, h2, h3, fun q => absurd q (Nat.lt_irrefl _)⟩
theorem Rd.only (h : Rd M w size v n cs) (k : Only S w w') (hS : ∀ g ∈ S, g ∈ M) : Rd M w' size v n cs := by
  obtain ⟨h1, h2⟩ := h
  rcases Nat.eq_zero_or_pos n with h0 | h0
  · subst h0
    exact ⟨h1.empty, fun g hg => .inr rfl⟩
  · refine ⟨h1.only k fun g hg q => ?_, fun g hg => ?_⟩
    · rcases h2 g hg with q2 | q2
      · exact q2.1 (hS g q)
      · omega
    · rcases h2 g hg with q2 | q2
      · exact .inl ⟨q2.1, Nat.lt_of_lt_of_le q2.2 k.size⟩
      · omega
theorem Rd.only0 (h : Rd M w size v n cs) (k : Only [] w w') : Rd M w' size v n cs := h.only k (by simp)
theorem Rd.ext (h : Rd M w size v n cs) (hm : ∀ g ∈ M', g ∈ M ∨ w.heap.size ≤ g) : Rd M' w size v n cs :=
  ⟨h.1, fun g hg => (h.2 g hg).imp (fun q => ⟨fun q2 => (hm g q2).elim q.1 (fun q3 => by omega), q.2⟩) id⟩
theorem Rd.nil (M : List Nat) (w : World) (size : Nat) : Rd M w size (.slice none 0 0) 0 [] := ⟨Slc.nil w size, fun g hg => by cases hg⟩
end
end Go.Proofs.YthjgplgfcbhihaaGreat
/- Rows of numbers that are owned beside each other. No program is named (but the numbers of the types). -/
set_option linter.unusedVariables false
set_option linter.unusedSimpArgs false
namespace Go.Proofs.YthjgplgfcbhihaaGreat
open Go.RowKit
theorem ret_b {a b : Bool} (h : a = b) : Ending.returned (.bool a) = .returned (.bool b) := by rw [h]
theorem ret_i {a b : Int} (h : a = b) : Ending.returned (.int .i64 a) = .returned (.int .i64 b) := by rw [h]
section
variable {w w' : World} {base base' size n : Nat} {e : TypeId} {v : Value} {xs : List Value}
theorem own_form (h : w.ownsRow base e size v n xs) : ∃ A cap, v = .slice A n cap ∧ n ≤ cap ∧ cap ≤ maxLen := by
  obtain ⟨_, h2⟩ := h
  rcases h2 with ⟨rfl, rfl⟩ | ⟨g, cap, cur, rfl, hb, hg, hn, hc, _⟩
  · exact ⟨none, 0, rfl, Nat.le_refl _, Nat.zero_le _⟩
  · exact ⟨_, cap, rfl, hn, hc⟩
theorem own_base (h : w.ownsRow base e size v n xs) (hb : base' ≤ base) : w.ownsRow base' e size v n xs := by
  obtain ⟨h1, h2⟩ := h
  rcases h2 with q | ⟨g, cap, cur, q1, q2, q3⟩
  · exact ⟨h1, .inl q⟩
  · exact ⟨h1, .inr ⟨g, cap, cur, q1, Nat.le_trans hb q2, q3⟩⟩
theorem own_up (h : w.ownsRow base e size v n xs) (hb : ∀ g, v.ownBlock = some g → base' ≤ g) : w.ownsRow base' e size v n xs := by
  obtain ⟨h1, h2⟩ := h
  rcases h2 with q | ⟨g, cap, cur, rfl, q2, q3⟩
  · exact ⟨h1, .inl q⟩
  · exact ⟨h1, .inr ⟨g, cap, cur, rfl, hb g rfl, q3⟩⟩
theorem own_type (h : w.ownsRow base e size v n xs) {g : Nat} (hg : v.ownBlock = some g) : ∃ cur, Blk w g e cur := by
  obtain ⟨_, h2⟩ := h
  rcases h2 with ⟨rfl, rfl⟩ | ⟨g', cap, cur, rfl, hb, hg', _⟩
  · cases hg
  · cases hg; exact ⟨cur, hg'⟩
theorem news_blk {g : Nat} {us : List Value} (hb : Blk w g e us.toArray) : ∀ j x, us[j]? = some x → w.cell? ((⟨g, 0, none⟩ : Addr).add j) = some x := by
  intro j x hx
  rw [Addr.add_lit, Nat.zero_add, hb.cell j]
  simpa using hx
theorem run_append_nothing {P : Program} (w : World) (t e ty : TypeId) (A : Option Addr) (size n cap c : Nat) (ht : P.underlying t = some (.slice e)) (hs : (Go.sizeOf e).run P w = .ok size w) (hnc : n ≤ cap) :
    (Builtin.append_ #[t, t] ty #[.slice A n cap, .slice none 0 c]).run P w = .ok (.slice A n cap) w := by
  cases A <;> simp [Builtin.append_, run_underlying ht, hs, hnc, Builtin.lenOf, Builtin.firstCells, storeCells]
theorem run_append_none {P : Program} (w : World) (t e ty : TypeId) (A : Option Addr) (size n cap m c : Nat) (ht : P.underlying t = some (.slice e)) (hs : (Go.sizeOf e).run P w = .ok size w) (hnc : n ≤ cap) (hm : m = 0) :
    (Builtin.append_ #[t, t] ty #[.slice A n cap, .slice none m c]).run P w = .ok (.slice A n cap) w := by
  subst hm
  exact run_append_nothing w t e ty A size n cap c ht hs hnc
end
section
variable {w : World} {g : Nat} {t : TypeId} {cs : Array Value}
theorem Blk.sets : ∀ (zs : List Value) (o : Nat) {w : World} {cs : Array Value} (h : Blk w g t cs), ∃ cs', Blk (w.setCells g o zs) g t cs' ∧ cs'.size = cs.size ∧ (∀ j, j < o → cs'[j]? = cs[j]?) ∧ (∀ j, o + zs.length ≤ j → cs'[j]? = cs[j]?) ∧ ∀ j, j < zs.length → o + j < cs.size → cs'[o + j]? = zs[j]?
  | [], _, _, cs, h => ⟨cs, h, rfl, fun _ _ => rfl, fun _ _ => rfl, fun j hj => absurd hj (Nat.not_lt_zero _)⟩
  | z :: zs, o, _, cs, h => by
    obtain ⟨cs', h1, h2, h3, h4, h5⟩ := Blk.sets zs (o + 1) (h.set o z)
    refine ⟨cs', h1, by rw [h2]; simp, fun j hj => ?_, fun j hj => ?_, fun j hj hs => ?_⟩
    · rw [h3 j (by omega), Array.getElem?_setIfInBounds, if_neg (by omega)]
    · rw [h4 j (by simp at hj; omega), Array.getElem?_setIfInBounds, if_neg (by simp at hj; omega)]
    · cases j with
      | zero =>
        rw [Nat.add_zero, h3 o (by omega), Array.getElem?_setIfInBounds, if_pos rfl]
        simp at hs
        simp [hs]
      | succ j =>
        have := h5 j (by simpa using hj) (by simp; omega)
        rw [show o + (j + 1) = o + 1 + j by omega, this]
        simp
theorem Only.setCells {S : List Nat} {a : World} {g : Nat} (hg : g ∈ S ∨ a.heap.size ≤ g) : ∀ (zs : List Value) (o : Nat) {w : World}, Only S a w → Only S a (w.setCells g o zs)
  | [], _, _, h => h
  | z :: zs, o, _, h => Only.setCells hg zs (o + 1) (h.setCell hg z)
end
/-- A row of numbers of one's own. -/
def Own (w : World) (v : Value) (xs : List Int) : Prop := w.ownsRow 0 3 1 v xs.length (ints xs)
/-- The row turned to another one: in place, or into a new block. -/
structure RowTo (w : World) (v : Value) (w' : World) (v' : Value) (ys : List Int) : Prop where
  own : Own w' v' ys
  only : Only v.ownBlock.toList w w'
  blk : ∀ g, v'.ownBlock = some g → v.ownBlock = some g ∨ w.heap.size ≤ g
section
variable {w w' w'' : World} {v v' v'' : Value} {xs ys zs : List Int}
theorem Own.slc (h : Own w v xs) : Slc w 1 v xs.length (ints xs) := (Slc.of_own h).1
theorem Own.lt (h : Own w v xs) : ∀ g, v.ownBlock = some g → g < w.heap.size := fun g hg => (World.ownsRow.lt h g hg).2
theorem Own.only {S : List Nat} (h : Own w v xs) (k : Only S w w') (hn : ∀ g, v.ownBlock = some g → g ∉ S) : Own w' v xs := own_only h k hn
theorem Own.only0 (h : Own w v xs) (k : Only [] w w') : Own w' v xs := h.only k (by simp)
theorem Own.nil (w : World) : Own w (.slice none 0 0) [] := World.ownsRow_nil _ _ _ _
theorem RowTo.same (h : Own w v xs) (k : Only [] w w') : RowTo w v w' v xs := ⟨h.only0 k, k.of_nil, fun g hg => .inl hg⟩
theorem RowTo.trans (h : RowTo w v w' v' ys) (k : RowTo w' v' w'' v'' zs) : RowTo w v w'' v'' zs := by
  refine ⟨k.own, h.only.step k.only (fun g hg => ?_), fun g hg => ?_⟩
  · have hg' : v'.ownBlock = some g := by simpa using hg
    rcases h.blk g hg' with q | q
    · exact .inl (by simp [q])
    · exact .inr q
  · rcases k.blk g hg with q | q
    · exact h.blk g q
    · exact .inr (Nat.le_trans h.only.size q)
theorem RowTo.then0 (h : RowTo w v w' v' ys) (k : Only [] w' w'') : RowTo w v w'' v' ys := ⟨h.own.only0 k, h.only.trans k.of_nil, h.blk⟩
theorem RowTo.first0 (k : Only [] w w') (h : RowTo w' v w'' v' ys) : RowTo w v w'' v' ys := ⟨h.own, k.of_nil.trans h.only, fun g hg => (h.blk g hg).imp id (fun q => Nat.le_trans k.size q)⟩
end
/-! ## many of them beside each other -/
def blocksOf (L : List (Value × List Int)) : List Nat := L.flatMap fun p => p.1.ownBlock.toList
structure Rows (w : World) (L : List (Value × List Int)) : Prop where
  own : ∀ p ∈ L, Own w p.1 p.2
  nodup : (blocksOf L).Nodup
section
variable {w w' : World} {L L' : List (Value × List Int)} {v v' : Value} {xs ys : List Int} {S : List Nat}
theorem mem_blocksOf {g : Nat} : g ∈ blocksOf L ↔ ∃ p ∈ L, p.1.ownBlock = some g := by simp [blocksOf]
theorem Rows.only (h : Rows w L) (k : Only S w w') (hn : ∀ g ∈ blocksOf L, g ∉ S) : Rows w' L :=
  ⟨fun p hp => (h.own p hp).only k (fun g hg => hn g (mem_blocksOf.2 ⟨p, hp, hg⟩)), h.nodup⟩
theorem Rows.only0 (h : Rows w L) (k : Only [] w w') : Rows w' L := h.only k (by simp)
theorem Rows.lt (h : Rows w L) : ∀ g ∈ blocksOf L, g < w.heap.size := fun g hg => by
  obtain ⟨p, hp, q⟩ := mem_blocksOf.1 hg
  exact (h.own p hp).lt g q
theorem Rows.perm (h : Rows w L) (p : L.Perm L') : Rows w L' := by
  refine ⟨fun q hq => h.own q (p.mem_iff.2 hq), ?_⟩
  have := p.flatMap_right (fun q => q.1.ownBlock.toList)
  exact (this.nodup_iff).1 h.nodup
theorem Rows.nil (w : World) : Rows w [] := ⟨fun p hp => (by cases hp), List.nodup_nil⟩
theorem Rows.head (h : Rows w ((v, xs) :: L)) : Own w v xs := h.own (v, xs) (by simp)
theorem Rows.tail (h : Rows w ((v, xs) :: L)) : Rows w L := ⟨fun p hp => h.own p (by simp [hp]), by
  have := h.nodup
  unfold blocksOf at this
  rw [List.flatMap_cons] at this
  exact (List.nodup_append.1 this).2.1⟩
theorem Rows.apart (h : Rows w ((v, xs) :: L)) : ∀ g, v.ownBlock = some g → g ∉ blocksOf L := by
  intro g hg hm
  have := h.nodup
  unfold blocksOf at this
  rw [List.flatMap_cons] at this
  exact (List.nodup_append.1 this).2.2 g (by simp [hg]) g hm rfl
/-- The first one turned. -/
theorem Rows.turn (h : Rows w ((v, xs) :: L)) (k : RowTo w v w' v' ys) : Rows w' ((v', ys) :: L) := by
  have ht := h.tail.only k.only (fun g hg q => h.apart g (by simpa using q) hg)
  refine ⟨fun p hp => ?_, ?_⟩
  · rcases List.mem_cons.1 hp with rfl | hp
    · exact k.own
    · exact ht.own p hp
  · unfold blocksOf
    rw [List.flatMap_cons]
    refine List.nodup_append.2 ⟨?_, ht.nodup, fun g hg i hi e => ?_⟩
    · cases v'.ownBlock <;> simp
    · subst e
      have hg' : v'.ownBlock = some g := by simpa using hg
      rcases k.blk g hg' with q | q
      · exact h.apart g q hi
      · have := h.tail.lt g hi
        omega
/-- A new one beside them. -/
theorem Rows.add (h : Rows w L) (k : Only [] w w') (ho : Own w' v xs) (hb : ∀ g, v.ownBlock = some g → w.heap.size ≤ g) : Rows w' ((v, xs) :: L) := by
  have ht := h.only0 k
  refine ⟨fun p hp => ?_, ?_⟩
  · rcases List.mem_cons.1 hp with rfl | hp
    · exact ho
    · exact ht.own p hp
  · unfold blocksOf
    rw [List.flatMap_cons]
    refine List.nodup_append.2 ⟨?_, ht.nodup, fun g hg i hi e => ?_⟩
    · cases v.ownBlock <;> simp
    · subst e
      have hg' : v.ownBlock = some g := by simpa using hg
      have := hb g hg'
      have := h.lt g hi
      omega
end
end Go.Proofs.YthjgplgfcbhihaaGreat
/- Ranging over a map whose entries are known as an association list: what is still to come is a list too; which entry comes next is left open. No program is named. -/
set_option linter.unusedVariables false
set_option linter.unusedSimpArgs false
namespace Go.Proofs.YthjgplgfcbhihaaGreat
open Go.RowKit Go.MapKept Go.ChangeMaps

section
variable {κ : Type} [DecidableEq κ]
/-- Block r is an iterator over the map in block b that holds kv; left is still to come. -/
def IterIs (enc : κ → Value) (w : World) (r b : Nat) (kv left : List (κ × Value)) : Prop :=
  ∃ es clock since seen c0, w.heap[b]? = some (.map es clock) ∧ Stamped es clock ∧ es.toList.map (fun x => (x.key, x.val)) = kv.map (fun p => (enc p.1, p.2)) ∧
    w.heap[r]? = some (.mapIter (some b) since seen c0) ∧ (∀ x ∈ es.toList, x.born < since) ∧ since ≤ c0 ∧ since ≤ clock ∧
    (leftOf es seen).toList.map (fun x => (x.key, x.val)) = left.map (fun p => (enc p.1, p.2))

set_option linter.unusedSectionVars false
variable {enc : κ → Value} {w w' : World} {r b : Nat} {kv left : List (κ × Value)}
theorem IterIs.map (h : IterIs enc w r b kv left) : MapIs enc w b kv := by
  obtain ⟨es, clock, _, _, _, h1, h2, h3, _⟩ := h
  exact ⟨es, clock, h1, h2, h3⟩
theorem IterIs.ne (h : IterIs enc w r b kv left) : r ≠ b := by
  obtain ⟨es, clock, _, _, _, h1, _, _, h2, _⟩ := h
  intro e
  subst e
  rw [h1] at h2
  simp at h2
theorem IterIs.lt (h : IterIs enc w r b kv left) : r < w.heap.size ∧ b < w.heap.size := by
  obtain ⟨es, clock, _, _, _, h1, _, _, h2, _⟩ := h
  exact ⟨lt_of_block h2, lt_of_block h1⟩
theorem IterIs.of_eq (h : IterIs enc w r b kv left) (hr : w'.heap[r]? = w.heap[r]?) (hb : w'.heap[b]? = w.heap[b]?) : IterIs enc w' r b kv left := by
  obtain ⟨es, clock, since, seen, c0, h1, h2, h3, h4, h5⟩ := h
  exact ⟨es, clock, since, seen, c0, hb.trans h1, h2, h3, hr.trans h4, h5⟩
theorem IterIs.only {S : List Nat} (h : IterIs enc w r b kv left) (k : Only S w w') (hr : r ∉ S) (hb : b ∉ S) : IterIs enc w' r b kv left :=
  h.of_eq (k.block r h.lt.1 hr) (k.block b h.lt.2 hb)
theorem IterIs.left_eq (h : IterIs enc w r b kv left) : w.rangeLeft b r = left.length := by
  obtain ⟨es, clock, since, seen, c0, h1, _, _, h2, _, _, _, h3⟩ := h
  have hl := congrArg List.length h3
  simp only [World.rangeLeft, h1, h2]
  simpa using hl

theorem leftOf_push (es : Array MapEntry) (hn : (es.toList.map (·.born)).Nodup) (seen : Array Nat) (l1 l2 : List MapEntry) (e : MapEntry) (h : (leftOf es seen).toList = l1 ++ e :: l2) : (leftOf es (seen.push e.born)).toList = l1 ++ l2 := by
  have hf : (leftOf es (seen.push e.born)).toList = (leftOf es seen).toList.filter (fun x => x.born != e.born) := by
    simp only [leftOf, Array.toList_filter, List.filter_filter]
    apply List.filter_congr
    intro x _
    rw [Bool.eq_iff_iff]
    simp
    exact ⟨fun hx => ⟨hx.2, hx.1⟩, fun hx => ⟨hx.2, hx.1⟩⟩
  have hs : ((leftOf es seen).toList.map (·.born)).Nodup := by
    simp only [leftOf, Array.toList_filter]
    exact List.Nodup.sublist (List.Sublist.map _ List.filter_sublist) hn
  rw [hf, h]
  rw [h] at hs
  simp only [List.map_append, List.map_cons] at hs
  have hs' := List.nodup_append.1 hs
  obtain ⟨_, hs2, hs3⟩ := hs'
  have hs4 := List.nodup_cons.1 hs2
  rw [List.filter_append, List.filter_cons_of_neg (by simp)]
  rw [List.filter_eq_self.2, List.filter_eq_self.2]
  · intro x hx
    simp only [bne_iff_ne]
    intro q
    exact hs4.1 (List.mem_map.2 ⟨x, hx, q⟩)
  · intro x hx
    simp only [bne_iff_ne]
    intro q
    exact hs3 x.born (List.mem_map.2 ⟨x, hx, rfl⟩) e.born (by simp) q

theorem map_split {α β γ : Type} {f : α → γ} {g : β → γ} : ∀ {l : List α} {l1 : List α} {x : α} {l2 : List α} {m : List β}, l = l1 ++ x :: l2 → l.map f = m.map g → ∃ m1 y m2, m = m1 ++ y :: m2 ∧ l1.map f = m1.map g ∧ f x = g y ∧ l2.map f = m2.map g
  | l, [], x, l2, m, h, e => by
    subst h
    cases m with
    | nil => simp at e
    | cons y m => simp at e; exact ⟨[], y, m, rfl, rfl, e.1, e.2⟩
  | l, a :: l1, x, l2, m, h, e => by
    subst h
    cases m with
    | nil => simp at e
    | cons y m =>
      simp only [List.cons_append, List.map_cons, List.cons.injEq] at e
      obtain ⟨m1, z, m2, p1, p2, p3, p4⟩ := map_split (l := l1 ++ x :: l2) rfl e.2
      exact ⟨y :: m1, z, m2, by simp [p1], by simp [e.1, p2], p3, p4⟩

variable {P : Program} {t k e : TypeId}
theorem MapIs.range (ht : P.underlying t = some (.map k e)) (h : MapIs enc w b kv) :
    ∃ o, (Instr.range t (.map (some b))).run P w = .ok (.pointer (some ⟨w.heap.size, 0, none⟩)) (w.alloc o) ∧ IterIs enc (w.alloc o) w.heap.size b kv kv := by
  have hlt := h.lt
  obtain ⟨es, clock, hb, hs, hm⟩ := h
  refine ⟨.mapIter (some b) clock #[] clock, ?_, es, clock, clock, #[], clock, ?_, hs, hm, heap_alloc_new w _, hs.1, Nat.le_refl _, Nat.le_refl _, ?_⟩
  · simp [Instr.range, run_underlying ht, MapKept.run_getObj_map hb, Result.andThen]
  · exact (Below.heap_alloc _ _ _ hlt).trans hb
  · have : leftOf es #[] = es := by simp [leftOf]
    rw [this]; exact hm

theorem IterIs.next (h : IterIs enc w r b kv left) (ty : TypeId) :
    (left = [] ∧ (Instr.next (.pointer (some ⟨r, 0, none⟩)) false ty).run P w = .ok (.tuple #[.bool false]) w) ∨
    ∃ l1 p l2 w', left = l1 ++ p :: l2 ∧ (Instr.next (.pointer (some ⟨r, 0, none⟩)) false ty).run P w = .ok (.tuple #[.bool true, enc p.1, p.2]) w' ∧ IterIs enc w' r b kv (l1 ++ l2) ∧ Only [r] w w' ∧
      (Instr.entry (.pointer (some ⟨r, 0, none⟩))).run P w' = .ok (.tuple #[enc p.1, p.2]) w' := by
  have hne := h.ne
  obtain ⟨es, clock, since, seen, c0, hb, hs, hm, hr, hold, hsc, hsk, hl⟩ := h
  rcases run_next_at (P := P) w ty r b since c0 seen es clock hr hb hold hsc with ⟨h0, hrun⟩ | ⟨x, hx, w1, hw1, hrun⟩
  · refine .inl ⟨?_, hrun⟩
    have h1 : (leftOf es seen).toList = [] := by simpa using h0
    rw [h1] at hl
    simpa using hl.symm
  · obtain ⟨s1, s2, hsp⟩ := List.append_of_mem hx
    obtain ⟨l1, p, l2, e1, e2, e3, e4⟩ := map_split hsp hl
    simp only [Prod.mk.injEq] at e3
    have hheap : w1.heap = w.heap := by rcases hw1 with rfl | rfl <;> rfl
    have ho1 : Only [r] w w1 := by rcases hw1 with rfl | rfl; exact Only.refl _ _; exact (Only.refl _ _).drew
    have hr1 : r < w1.heap.size := by rw [hheap]; exact lt_of_block hr
    have ha : (setBlock w1 r (.mapIter (some b) since (seen.push x.born) clock)).heap[r]? = some (.mapIter (some b) since (seen.push x.born) clock) := by
      simp [setBlock, hr1]
    have hbb : (setBlock w1 r (.mapIter (some b) since (seen.push x.born) clock)).heap[b]? = some (.map es clock) := by
      simp only [setBlock, Array.getElem?_setIfInBounds]
      rw [if_neg hne, hheap, hb]
    have hx' : x ∈ es.toList := (mem_left hx).1
    refine .inr ⟨l1, p, l2, _, e1, ?_, ⟨es, clock, since, seen.push x.born, clock, hbb, hs, hm, ha, hold, hsk, hsk, ?_⟩, ho1.setBlock (.inl (by simp)) _, ?_⟩
    · rw [← e3.1, ← e3.2]; exact hrun
    · rw [leftOf_push es hs.2.1 seen s1 s2 x hsp]
      simp [e2, e4]
    · rw [← e3.1, ← e3.2]
      exact run_entry_at _ r b since seen es clock x ha hbb hx' hs.2.1

variable {ops : Array Oper} {rest : List Oper} {o : Oper} {a : Act} {Q : Exit → Act → World → Prop}
theorem wpList_range_is (hg : o.guard = none) {m : Operand} (t : TypeId) (hop : o.op = .range t m) (ht : P.underlying t = some (.map k e)) (hm : a.eval m = .map (some b)) (h : MapIs enc w b kv)
    (hK : ∀ o', IterIs enc (w.alloc o') w.heap.size b kv kv → wpList P ops Q rest (a.put o.dst (.pointer (some ⟨w.heap.size, 0, none⟩))) (w.alloc o')) : wpList P ops Q (o :: rest) a w := by
  refine wpList_plain hg fun K' hK' => ?_
  obtain ⟨o', hrun, r1⟩ := h.range ht
  unfold Oper.wp
  simp [execOp, hop, hm, hrun, Result.andThen]
  exact hK' _ _ (hK o' r1)
theorem wpList_next_is (hg : o.guard = none) {it : Operand} (hop : o.op = .next it false) (hit : a.eval it = .pointer (some ⟨r, 0, none⟩)) (h : IterIs enc w r b kv left)
    (hDone : left = [] → wpList P ops Q rest (a.put o.dst (.tuple #[.bool false])) w)
    (hMore : ∀ l1 p l2 w', left = l1 ++ p :: l2 → IterIs enc w' r b kv (l1 ++ l2) → Only [r] w w' → (Instr.entry (.pointer (some ⟨r, 0, none⟩))).run P w' = .ok (.tuple #[enc p.1, p.2]) w' →
      wpList P ops Q rest (a.put o.dst (.tuple #[.bool true, enc p.1, p.2])) w') : wpList P ops Q (o :: rest) a w := by
  refine wpList_plain hg fun K' hK' => ?_
  unfold Oper.wp
  rcases h.next (P := P) o.type with ⟨h0, hrun⟩ | ⟨l1, p, l2, w', h0, hrun, h1, h2, h3⟩
  · simp [execOp, hop, hit, hrun, Result.andThen]
    exact hK' _ _ (hDone h0)
  · simp [execOp, hop, hit, hrun, Result.andThen]
    exact hK' _ _ (hMore l1 p l2 w' h0 h1 h2 h3)
end
end Go.Proofs.YthjgplgfcbhihaaGreat
/- A group in memory. -/
set_option linter.unusedVariables false
set_option linter.unusedSimpArgs false
namespace Go.Proofs.YthjgplgfcbhihaaGreat
open Go.RowKit
/-- All rows of a group, each with its list. -/
def rowsOf (vw vp va vs : Value) (pf : ByteArray → Value) (g : GS) : List (Value × List Int) :=
  (vw, g.waiting) :: (vp, g.parked) :: (va, g.acked) :: (vs, g.skipped) :: g.flight.map fun p => (pf p.1, p.2)
/-- The group g lies in block gb, its maps in fb and tb, its lists in these rows. -/
structure GAt (w : World) (gb fb tb : Nat) (vw vp va vs : Value) (pf : ByteArray → Value) (g : GS) : Prop where
  blk : Blk w gb 60 #[.int .i64 g.from_, .int .i64 g.buffer, .int .i64 g.retries, .int .i64 g.next, vw, .map (some fb), vp, va, vs, .map (some tb)]
  flight : MapIs Value.string w fb (g.flight.map fun p => (p.1, pf p.1))
  tries : MapIs (Value.int .i64) w tb (g.tries.map fun p => (p.1, Value.int .i64 p.2))
  rows : Rows w (rowsOf vw vp va vs pf g)
  ne : fb ≠ tb
/-- The blocks that a call may turn. -/
def hG (gb fb tb : Nat) (L : List (Value × List Int)) : List Nat := gb :: fb :: tb :: blocksOf L
section
variable {w w' : World} {gb fb tb : Nat} {vw vp va vs : Value} {pf : ByteArray → Value} {g : GS} {S : List Nat}
theorem GAt.only (h : GAt w gb fb tb vw vp va vs pf g) (k : Only S w w') (hd : ∀ b ∈ hG gb fb tb (rowsOf vw vp va vs pf g), b ∉ S) : GAt w' gb fb tb vw vp va vs pf g :=
  ⟨k.blk h.blk (hd gb (by simp [hG])), h.flight.only k (hd fb (by simp [hG])), h.tries.only k (hd tb (by simp [hG])), h.rows.only k (fun b hb => hd b (by simp [hG, hb])), h.ne⟩
theorem GAt.only0 (h : GAt w gb fb tb vw vp va vs pf g) (k : Only [] w w') : GAt w' gb fb tb vw vp va vs pf g := h.only k (by simp)
theorem GAt.nef (h : GAt w gb fb tb vw vp va vs pf g) : fb ≠ gb := h.flight.ne_blk h.blk
theorem GAt.net (h : GAt w gb fb tb vw vp va vs pf g) : tb ≠ gb := h.tries.ne_blk h.blk
theorem GAt.rowne (h : GAt w gb fb tb vw vp va vs pf g) : ∀ b ∈ blocksOf (rowsOf vw vp va vs pf g), b ≠ gb ∧ b ≠ fb ∧ b ≠ tb := by
  intro b hb
  obtain ⟨p, hp, hq⟩ := mem_blocksOf.1 hb
  obtain ⟨cur, hcur⟩ := own_type (h.rows.own p hp) hq
  exact ⟨hcur.other h.blk (by decide), fun e => h.flight.ne_blk hcur e.symm, fun e => h.tries.ne_blk hcur e.symm⟩
theorem GAt.lt (h : GAt w gb fb tb vw vp va vs pf g) : ∀ b ∈ hG gb fb tb (rowsOf vw vp va vs pf g), b < w.heap.size := by
  intro b hb
  simp only [hG, List.mem_cons] at hb
  rcases hb with rfl | rfl | rfl | hb
  · exact h.blk.lt
  · exact h.flight.lt
  · exact h.tries.lt
  · exact h.rows.lt b hb
theorem GAt.nod (h : GAt w gb fb tb vw vp va vs pf g) : ANodup g.flight := by
  have := h.flight.nodup
  unfold ANodup at this ⊢
  rw [List.map_map] at this
  exact this
theorem GAt.nodT (h : GAt w gb fb tb vw vp va vs pf g) : ANodup g.tries := by
  have := h.tries.nodup
  unfold ANodup at this ⊢
  rw [List.map_map] at this
  exact this
theorem aget_mapk {κ μ ν : Type} [DecidableEq κ] (f : κ → ν → μ) (l : List (κ × ν)) (k : κ) : aget (l.map fun p => (p.1, f p.1 p.2)) k = (aget l k).map (f k) := by
  induction l with
  | nil => simp [aget]
  | cons p l ih =>
    obtain ⟨a, b⟩ := p
    simp only [aget, List.map_cons]
    split
    · rename_i h; subst h; rfl
    · exact ih
theorem aput_mapk {κ μ ν : Type} [DecidableEq κ] (f g : κ → ν → μ) (l : List (κ × ν)) (hn : ANodup l) (k : κ) (v : ν) (u : μ) (hu : u = g k v) (hfg : ∀ a, a ≠ k → f a = g a) : aput (l.map fun p => (p.1, f p.1 p.2)) k u = (aput l k v).map fun p => (p.1, g p.1 p.2) := by
  subst hu
  induction l with
  | nil => simp [aput]
  | cons p l ih =>
    obtain ⟨a, b⟩ := p
    simp only [ANodup, List.map_cons, List.nodup_cons] at hn
    simp only [aput, List.map_cons]
    by_cases h : a = k
    · subst h
      rw [if_pos rfl, if_pos rfl]
      simp only [List.map_cons, List.cons.injEq, true_and]
      apply List.map_congr_left
      intro q hq
      rw [hfg q.1 (fun e => hn.1 (List.mem_map.2 ⟨q, hq, e⟩))]
    · rw [if_neg h, if_neg h, ih hn.2, List.map_cons, hfg a h]
theorem adel_mapk {κ μ ν : Type} [DecidableEq κ] (f : κ → ν → μ) (l : List (κ × ν)) (k : κ) : adel (l.map fun p => (p.1, f p.1 p.2)) k = (adel l k).map fun p => (p.1, f p.1 p.2) := by
  induction l with
  | nil => simp [adel]
  | cons p l ih =>
    obtain ⟨a, b⟩ := p
    simp only [adel, List.map_cons]
    split
    · rfl
    · rw [List.map_cons, ih]
/-- The row of somebody's flight, put ahead of all others. -/
theorem GAt.front (h : GAt w gb fb tb vw vp va vs pf g) {who : ByteArray} {l : List Int} (hl : aget g.flight who = some l) :
    ∃ L, (rowsOf vw vp va vs pf g).Perm ((pf who, l) :: L) ∧ ∀ (l' : List Int) (v' : Value), ((v', l') :: L).Perm (rowsOf vw vp va vs (fun a => if a = who then v' else pf a) { g with flight := aput g.flight who l' }) := by
  have hm : ∀ (fl : List (ByteArray × List Int)), ANodup fl → aget fl who = some l → ∃ M, (fl.map fun p => (pf p.1, p.2)).Perm ((pf who, l) :: M) ∧ ∀ (l' : List Int) (v' : Value), ((v', l') :: M).Perm ((aput fl who l').map fun p => ((fun a => if a = who then v' else pf a) p.1, p.2)) := by
    intro fl
    induction fl with
    | nil => intro _ q; cases q
    | cons p fl ih =>
      intro hn q
      obtain ⟨a, b⟩ := p
      have hn' : a ∉ fl.map (·.1) ∧ ANodup fl := List.nodup_cons.1 hn
      simp only [aget] at q
      by_cases e : a = who
      · subst e
        rw [if_pos rfl] at q
        injection q with q
        subst q
        refine ⟨fl.map fun p => (pf p.1, p.2), List.Perm.refl _, fun l' v' => ?_⟩
        simp only [aput, if_pos, List.map_cons]
        refine List.Perm.cons _ ?_
        rw [show (fl.map fun p => ((if p.1 = a then v' else pf p.1), p.2)) = fl.map fun p => (pf p.1, p.2) from List.map_congr_left (fun p hp => by
          rw [if_neg (fun e => hn'.1 (List.mem_map.2 ⟨p, hp, e⟩))])]
      · rw [if_neg e] at q
        obtain ⟨M, h1, h2⟩ := ih hn'.2 q
        refine ⟨(pf a, b) :: M, ?_, fun l' v' => ?_⟩
        · rw [List.map_cons]
          exact (h1.cons _).trans (List.Perm.swap _ _ _)
        · simp only [aput, if_neg e, List.map_cons]
          exact (List.Perm.swap _ _ _).trans ((h2 l' v').cons _)
  obtain ⟨M, h1, h2⟩ := hm g.flight h.nod hl
  have mid : ∀ (a b c d x : Value × List Int) (M : List (Value × List Int)), (a :: b :: c :: d :: x :: M).Perm (x :: a :: b :: c :: d :: M) := fun a b c d x M => by
    have := List.perm_middle (a := x) (l₁ := [a, b, c, d]) (l₂ := M)
    simpa using this
  refine ⟨(vw, g.waiting) :: (vp, g.parked) :: (va, g.acked) :: (vs, g.skipped) :: M, ?_, fun l' v' => ?_⟩
  · unfold rowsOf
    exact ((((h1.cons _).cons _).cons _).cons _).trans (mid _ _ _ _ _ _)
  · unfold rowsOf
    exact (mid _ _ _ _ _ _).symm.trans (((((h2 l' v').cons _).cons _).cons _).cons _)
end
end Go.Proofs.YthjgplgfcbhihaaGreat
/- Contracts of library functions at this dump, laid by the kit's tools in plain words: each is one application of a theorem of the kit's shelf. -/
namespace Go.Proofs
open Go.Shelf
def Tryz.keys86_ren : Go.Shelf.Ren := ⟨fun | 7 => 86 | 10 => 120 | n => n, fun | 23 => 57 | 26 => 9 | 3 => 43 | 28 => 103 | 0 => 0 | 27 => 102 | 33 => 68 | 4 => 4 | n => n, fun | n => n⟩
theorem Tryz.keys86 : Go.Proofs.SlLaysZ.n7 Tryz.prog Tryz.keys86_ren := {
  mixed := by kernel_rfl
  f7 := ⟨Tryz.f86.name, by decide, Tryz.func86.trans (congrArg some (by kernel_rfl))⟩
  f10 := ⟨Tryz.f120.name, by decide, Tryz.func120.trans (congrArg some (by kernel_rfl))⟩
  t0 := Tryz.underlying0
  a0 := Tryz.isAgg0
  z0 := Tryz.sizeOf0
  v0 := Tryz.zeroValue0
  t4 := Tryz.underlying4
  a4 := Tryz.isAgg4
  z4 := Tryz.sizeOf4
  v4 := Tryz.zeroValue4
  t23 := Tryz.underlying57
  a23 := Tryz.isAgg57
  z23 := Tryz.sizeOf57
  v23 := Tryz.zeroValue57
  t26 := Tryz.underlying9
  a26 := Tryz.isAgg9
  z26 := Tryz.sizeOf9
  v26 := Tryz.zeroValue9
  t27 := Tryz.underlying102
  a27 := Tryz.isAgg102
  z27 := Tryz.sizeOf102
  v27 := Tryz.zeroValue102
  t28 := Tryz.underlying103
  a28 := Tryz.isAgg103
  z28 := Tryz.sizeOf103
  v28 := Tryz.zeroValue103
  t33 := Tryz.underlying68
  a33 := Tryz.isAgg68
  z33 := Tryz.sizeOf68
  v33 := Tryz.zeroValue68 }
def Tryz.sorted85_ren : Go.Shelf.Ren := ⟨fun | 6 => 85 | 8 => 118 | 9 => 119 | 11 => 133 | 13 => 84 | 12 => 134 | 23 => 116 | 24 => 117 | 14 => 138 | 15 => 139 | 16 => 140 | 17 => 141 | 18 => 142 | 19 => 143 | 20 => 144 | 21 => 145 | 22 => 146 | 25 => 149 | 26 => 128 | 27 => 129 | 28 => 150 | 29 => 151 | 30 => 152 | 31 => 154 | n => n, fun | 26 => 9 | 28 => 103 | 24 => 61 | 0 => 0 | 3 => 3 | 37 => 100 | 48 => 150 | 50 => 152 | 4 => 4 | 40 => 143 | 39 => 142 | 45 => 53 | 5 => 5 | 9 => 9 | 51 => 157 | 55 => 161 | 57 => 166 | 58 => 167 | 33 => 68 | n => n, fun | n => n⟩
theorem Tryz.sorted85 : Go.Proofs.SlLaysZ.n6 Tryz.prog Tryz.sorted85_ren := {
  mixed := by kernel_rfl
  f6 := ⟨Tryz.f85.name, by decide, Tryz.func85.trans (congrArg some (by kernel_rfl))⟩
  f8 := ⟨Tryz.f118.name, by decide, Tryz.func118.trans (congrArg some (by kernel_rfl))⟩
  f11 := ⟨Tryz.f133.name, by decide, Tryz.func133.trans (congrArg some (by kernel_rfl))⟩
  t0 := Tryz.underlying0
  a0 := Tryz.isAgg0
  z0 := Tryz.sizeOf0
  v0 := Tryz.zeroValue0
  t24 := Tryz.underlying61
  a24 := Tryz.isAgg61
  z24 := Tryz.sizeOf61
  v24 := Tryz.zeroValue61
  t26 := Tryz.underlying9
  a26 := Tryz.isAgg9
  z26 := Tryz.sizeOf9
  v26 := Tryz.zeroValue9
  t28 := Tryz.underlying103
  a28 := Tryz.isAgg103
  z28 := Tryz.sizeOf103
  v28 := Tryz.zeroValue103
  i26 := by kernel_rfl }
def Tryz.sort119_ren : Go.Shelf.Ren := ⟨fun | 6 => 119 | 8 => 84 | 9 => 134 | 19 => 116 | 20 => 117 | 21 => 138 | 22 => 139 | 23 => 140 | 24 => 141 | 25 => 142 | 26 => 143 | 27 => 144 | 28 => 145 | 29 => 146 | 36 => 149 | 31 => 128 | 32 => 129 | 37 => 150 | 38 => 151 | 39 => 152 | 41 => 154 | n => n, fun | 27 => 61 | 29 => 9 | 3 => 3 | 32 => 100 | 26 => 61 | 0 => 0 | 44 => 150 | 46 => 152 | 4 => 4 | 36 => 143 | 35 => 142 | 41 => 53 | 5 => 5 | 9 => 9 | 53 => 157 | 57 => 161 | 63 => 166 | 64 => 167 | n => n, fun | n => n⟩
theorem Tryz.sort119 : Go.Proofs.SlLaysM.n6 Tryz.prog Tryz.sort119_ren := {
  mixed := by kernel_rfl
  f6 := ⟨Tryz.f119.name, by decide, Tryz.func119.trans (congrArg some (by kernel_rfl))⟩
  f8 := Tryz.func84.trans (congrArg some (by kernel_rfl))
  f9 := ⟨Tryz.f134.name, by decide, Tryz.func134.trans (congrArg some (by kernel_rfl))⟩
  f19 := Tryz.func116.trans (congrArg some (by kernel_rfl))
  f20 := Tryz.func117.trans (congrArg some (by kernel_rfl))
  f21 := ⟨Tryz.f138.name, by decide, Tryz.func138.trans (congrArg some (by kernel_rfl))⟩
  f22 := ⟨Tryz.f139.name, by decide, Tryz.func139.trans (congrArg some (by kernel_rfl))⟩
  f23 := ⟨Tryz.f140.name, by decide, Tryz.func140.trans (congrArg some (by kernel_rfl))⟩
  f24 := ⟨Tryz.f141.name, by decide, Tryz.func141.trans (congrArg some (by kernel_rfl))⟩
  f25 := ⟨Tryz.f142.name, by decide, Tryz.func142.trans (congrArg some (by kernel_rfl))⟩
  f26 := ⟨Tryz.f143.name, by decide, Tryz.func143.trans (congrArg some (by kernel_rfl))⟩
  f27 := ⟨Tryz.f144.name, by decide, Tryz.func144.trans (congrArg some (by kernel_rfl))⟩
  f28 := ⟨Tryz.f145.name, by decide, Tryz.func145.trans (congrArg some (by kernel_rfl))⟩
  f29 := ⟨Tryz.f146.name, by decide, Tryz.func146.trans (congrArg some (by kernel_rfl))⟩
  f31 := Tryz.func128.trans (congrArg some (by kernel_rfl))
  f32 := Tryz.func129.trans (congrArg some (by kernel_rfl))
  f36 := ⟨Tryz.f149.name, by decide, Tryz.func149.trans (congrArg some (by kernel_rfl))⟩
  f37 := ⟨Tryz.f150.name, by decide, Tryz.func150.trans (congrArg some (by kernel_rfl))⟩
  f38 := ⟨Tryz.f151.name, by decide, Tryz.func151.trans (congrArg some (by kernel_rfl))⟩
  f39 := ⟨Tryz.f152.name, by decide, Tryz.func152.trans (congrArg some (by kernel_rfl))⟩
  f41 := ⟨Tryz.f154.name, by decide, Tryz.func154.trans (congrArg some (by kernel_rfl))⟩
  t0 := Tryz.underlying0
  a0 := Tryz.isAgg0
  z0 := Tryz.sizeOf0
  v0 := Tryz.zeroValue0
  t3 := Tryz.underlying3
  a3 := Tryz.isAgg3
  z3 := Tryz.sizeOf3
  v3 := Tryz.zeroValue3
  t4 := Tryz.underlying4
  a4 := Tryz.isAgg4
  z4 := Tryz.sizeOf4
  v4 := Tryz.zeroValue4
  t5 := Tryz.underlying5
  a5 := Tryz.isAgg5
  z5 := Tryz.sizeOf5
  v5 := Tryz.zeroValue5
  t9 := Tryz.underlying9
  a9 := Tryz.isAgg9
  z9 := Tryz.sizeOf9
  v9 := Tryz.zeroValue9
  t26 := Tryz.underlying61
  a26 := Tryz.isAgg61
  z26 := Tryz.sizeOf61
  v26 := Tryz.zeroValue61
  t27 := Tryz.underlying61
  a27 := Tryz.isAgg61
  z27 := Tryz.sizeOf61
  v27 := Tryz.zeroValue61
  t29 := Tryz.underlying9
  a29 := Tryz.isAgg9
  z29 := Tryz.sizeOf9
  v29 := Tryz.zeroValue9
  t32 := Tryz.underlying100
  a32 := Tryz.isAgg100
  z32 := Tryz.sizeOf100
  v32 := Tryz.zeroValue100
  t35 := Tryz.underlying142
  a35 := Tryz.isAgg142
  z35 := Tryz.sizeOf142
  v35 := Tryz.zeroValue142
  t36 := Tryz.underlying143
  a36 := Tryz.isAgg143
  z36 := Tryz.sizeOf143
  v36 := Tryz.zeroValue143
  t41 := Tryz.underlying53
  a41 := Tryz.isAgg53
  z41 := Tryz.sizeOf53
  v41 := Tryz.zeroValue53
  t44 := Tryz.underlying150
  a44 := Tryz.isAgg150
  z44 := Tryz.sizeOf150
  v44 := Tryz.zeroValue150
  t46 := Tryz.underlying152
  a46 := Tryz.isAgg152
  z46 := Tryz.sizeOf152
  v46 := Tryz.zeroValue152
  t53 := Tryz.underlying157
  a53 := Tryz.isAgg157
  z53 := Tryz.sizeOf157
  v53 := Tryz.zeroValue157
  t57 := Tryz.underlying161
  a57 := Tryz.isAgg161
  z57 := Tryz.sizeOf161
  v57 := Tryz.zeroValue161
  t63 := Tryz.underlying166
  a63 := Tryz.isAgg166
  z63 := Tryz.sizeOf166
  v63 := Tryz.zeroValue166
  t64 := Tryz.underlying167
  a64 := Tryz.isAgg167
  z64 := Tryz.sizeOf167
  v64 := Tryz.zeroValue167 }
def Tryz.cloneMF_ren : Go.Shelf.Ren := ⟨fun | 5 => 20 | 7 => 81 | n => n, fun | 23 => 57 | 25 => 9 | 3 => 43 | 4 => 4 | 20 => 20 | n => n, fun | n => n⟩
theorem Tryz.cloneMF : Go.Proofs.SlLaysW.n5 Tryz.prog Tryz.cloneMF_ren := {
  mixed := by kernel_rfl
  f5 := ⟨Tryz.f20.name, by decide, Tryz.func20.trans (congrArg some (by kernel_rfl))⟩
  f7 := Tryz.func81.trans (congrArg some (by kernel_rfl))
  t4 := Tryz.underlying4
  a4 := Tryz.isAgg4
  z4 := Tryz.sizeOf4
  v4 := Tryz.zeroValue4
  t20 := Tryz.underlying20
  a20 := Tryz.isAgg20
  z20 := Tryz.sizeOf20
  v20 := Tryz.zeroValue20
  t23 := Tryz.underlying57
  a23 := Tryz.isAgg57
  z23 := Tryz.sizeOf57
  v23 := Tryz.zeroValue57 }
def Tryz.cloneMT_ren : Go.Shelf.Ren := ⟨fun | 5 => 21 | 7 => 81 | n => n, fun | 23 => 58 | 25 => 3 | 3 => 3 | 4 => 4 | 20 => 20 | n => n, fun | n => n⟩
theorem Tryz.cloneMT : Go.Proofs.SlLaysW.n5 Tryz.prog Tryz.cloneMT_ren := {
  mixed := by kernel_rfl
  f5 := ⟨Tryz.f21.name, by decide, Tryz.func21.trans (congrArg some (by kernel_rfl))⟩
  f7 := Tryz.func81.trans (congrArg some (by kernel_rfl))
  t4 := Tryz.underlying4
  a4 := Tryz.isAgg4
  z4 := Tryz.sizeOf4
  v4 := Tryz.zeroValue4
  t20 := Tryz.underlying20
  a20 := Tryz.isAgg20
  z20 := Tryz.sizeOf20
  v20 := Tryz.zeroValue20
  t23 := Tryz.underlying58
  a23 := Tryz.isAgg58
  z23 := Tryz.sizeOf58
  v23 := Tryz.zeroValue58 }
def Tryz.delFuncI_ren : Go.Shelf.Ren := ⟨fun | 10 => 106 | 6 => 126 | n => n, fun | 22 => 43 | 23 => 3 | 25 => 137 | 3 => 3 | 4 => 4 | 0 => 0 | n => n, fun | n => n⟩
theorem Tryz.delFuncI : Go.Proofs.SlLaysH.n10 Tryz.prog Tryz.delFuncI_ren := {
  mixed := by kernel_rfl
  f6 := ⟨Tryz.f126.name, by decide, Tryz.func126.trans (congrArg some (by kernel_rfl))⟩
  f10 := ⟨Tryz.f106.name, by decide, Tryz.func106.trans (congrArg some (by kernel_rfl))⟩
  t0 := Tryz.underlying0
  a0 := Tryz.isAgg0
  z0 := Tryz.sizeOf0
  v0 := Tryz.zeroValue0
  t3 := Tryz.underlying3
  a3 := Tryz.isAgg3
  z3 := Tryz.sizeOf3
  v3 := Tryz.zeroValue3
  t4 := Tryz.underlying4
  a4 := Tryz.isAgg4
  z4 := Tryz.sizeOf4
  v4 := Tryz.zeroValue4
  t22 := Tryz.underlying43
  a22 := Tryz.isAgg43
  z22 := Tryz.sizeOf43
  v22 := Tryz.zeroValue43
  a23 := Tryz.isAgg3
  z23 := Tryz.sizeOf3
  t25 := Tryz.underlying137
  a25 := Tryz.isAgg137
  z25 := Tryz.sizeOf137
  v25 := Tryz.zeroValue137 }
def Tryz.insI_ren : Go.Shelf.Ren := ⟨fun | 21 => 103 | 27 => 124 | 28 => 125 | 35 => 136 | 39 => 148 | n => n, fun | 22 => 43 | 3 => 3 | 4 => 4 | 0 => 0 | n => n, fun | n => n⟩
theorem Tryz.insI : Go.Proofs.Lays2.n21 Tryz.prog Tryz.insI_ren := {
  mixed := by kernel_rfl
  f21 := Tryz.func103.trans (congrArg some (by kernel_rfl))
  f27 := Tryz.func124.trans (congrArg some (by kernel_rfl))
  f28 := Tryz.func125.trans (congrArg some (by kernel_rfl))
  f35 := Tryz.func136.trans (congrArg some (by kernel_rfl))
  f39 := Tryz.func148.trans (congrArg some (by kernel_rfl))
  t0 := Tryz.underlying0
  a0 := Tryz.isAgg0
  z0 := Tryz.sizeOf0
  v0 := Tryz.zeroValue0
  t3 := Tryz.underlying3
  a3 := Tryz.isAgg3
  z3 := Tryz.sizeOf3
  v3 := Tryz.zeroValue3
  t4 := Tryz.underlying4
  a4 := Tryz.isAgg4
  z4 := Tryz.sizeOf4
  v4 := Tryz.zeroValue4
  t22 := Tryz.underlying43
  a22 := Tryz.isAgg43
  z22 := Tryz.sizeOf43
  v22 := Tryz.zeroValue43
  i3 := by kernel_rfl }
def Tryz.lays128_ren : Go.Shelf.Ren := ⟨fun | 128 => 116 | n => n, fun | 51 => 150 | 3 => 3 | 4 => 4 | 46 => 100 | 5 => 5 | 9 => 9 | n => n, fun | n => n⟩
theorem Tryz.lays128 : Go.Proofs.Lays.n128 Tryz.prog Tryz.lays128_ren := {
  mixed := by kernel_rfl
  f128 := Tryz.func116.trans (congrArg some (by kernel_rfl))
  t3 := Tryz.underlying3
  a3 := Tryz.isAgg3
  z3 := Tryz.sizeOf3
  v3 := Tryz.zeroValue3
  t4 := Tryz.underlying4
  a4 := Tryz.isAgg4
  z4 := Tryz.sizeOf4
  v4 := Tryz.zeroValue4
  t5 := Tryz.underlying5
  a5 := Tryz.isAgg5
  z5 := Tryz.sizeOf5
  v5 := Tryz.zeroValue5
  t9 := Tryz.underlying9
  a9 := Tryz.isAgg9
  z9 := Tryz.sizeOf9
  v9 := Tryz.zeroValue9
  t46 := Tryz.underlying100
  a46 := Tryz.isAgg100
  z46 := Tryz.sizeOf100
  v46 := Tryz.zeroValue100
  t51 := Tryz.underlying150
  a51 := Tryz.isAgg150
  z51 := Tryz.sizeOf150
  v51 := Tryz.zeroValue150 }
theorem Tryz.bits_Len32 (x : Int) (w : World) (h0 : 0 ≤ x) (h1 : x ≤ 4294967295) :
    Calls Tryz.prog 116 #[.int .u32 x] w fun e w' => e = .returned (.int .i64 (Lib.bitLen x.toNat)) ∧ w' = w := Any.bits_Len32 Tryz.lays128 x w h0 h1
def Tryz.lays125_ren : Go.Shelf.Ren := ⟨fun | 125 => 84 | 128 => 116 | 129 => 117 | n => n, fun | 46 => 100 | 3 => 3 | 51 => 150 | 53 => 152 | 4 => 4 | 5 => 5 | 9 => 9 | n => n, fun | n => n⟩
theorem Tryz.lays125 : Go.Proofs.Lays.n125 Tryz.prog Tryz.lays125_ren := {
  mixed := by kernel_rfl
  f125 := Tryz.func84.trans (congrArg some (by kernel_rfl))
  f128 := Tryz.func116.trans (congrArg some (by kernel_rfl))
  f129 := Tryz.func117.trans (congrArg some (by kernel_rfl))
  t3 := Tryz.underlying3
  a3 := Tryz.isAgg3
  z3 := Tryz.sizeOf3
  v3 := Tryz.zeroValue3
  t4 := Tryz.underlying4
  a4 := Tryz.isAgg4
  z4 := Tryz.sizeOf4
  v4 := Tryz.zeroValue4
  t5 := Tryz.underlying5
  a5 := Tryz.isAgg5
  z5 := Tryz.sizeOf5
  v5 := Tryz.zeroValue5
  t9 := Tryz.underlying9
  a9 := Tryz.isAgg9
  z9 := Tryz.sizeOf9
  v9 := Tryz.zeroValue9
  t46 := Tryz.underlying100
  a46 := Tryz.isAgg100
  z46 := Tryz.sizeOf100
  v46 := Tryz.zeroValue100
  t51 := Tryz.underlying150
  a51 := Tryz.isAgg150
  z51 := Tryz.sizeOf150
  v51 := Tryz.zeroValue150
  t53 := Tryz.underlying152
  a53 := Tryz.isAgg152
  z53 := Tryz.sizeOf152
  v53 := Tryz.zeroValue152 }
theorem Tryz.bits_Len (x : Int) (w : World) (h0 : 0 ≤ x) (h1 : x ≤ 18446744073709551615) :
    Calls Tryz.prog 84 #[.int .u64 x] w fun e w' => e = .returned (.int .i64 (Lib.bitLen x.toNat)) ∧ w' = w := Any.bits_Len Tryz.lays125 x w h0 h1
def Tryz.lays215_ren : Go.Shelf.Ren := ⟨fun | 215 => 132 | n => n, fun | 3 => 3 | 4 => 4 | n => n, fun | n => n⟩
theorem Tryz.lays215 : Go.Proofs.Lays.n215 Tryz.prog Tryz.lays215_ren := {
  mixed := by kernel_rfl
  f215 := Tryz.func132.trans (congrArg some (by kernel_rfl))
  t3 := Tryz.underlying3
  a3 := Tryz.isAgg3
  z3 := Tryz.sizeOf3
  v3 := Tryz.zeroValue3
  t4 := Tryz.underlying4
  a4 := Tryz.isAgg4
  z4 := Tryz.sizeOf4
  v4 := Tryz.zeroValue4 }
open Go.RowKit in
theorem Tryz.cmp_isNaN_int (x : Int) (w : World) :
    Calls Tryz.prog 132 #[.int .i64 x] w fun e w' => e = .returned (.bool false) ∧ w' = w := Any.cmp_isNaN_int Tryz.lays215 x w
def Tryz.lays129_ren : Go.Shelf.Ren := ⟨fun | 129 => 117 | n => n, fun | 53 => 152 | 3 => 3 | 4 => 4 | 46 => 100 | 5 => 5 | 9 => 9 | n => n, fun | n => n⟩
theorem Tryz.lays129 : Go.Proofs.Lays.n129 Tryz.prog Tryz.lays129_ren := {
  mixed := by kernel_rfl
  f129 := Tryz.func117.trans (congrArg some (by kernel_rfl))
  t3 := Tryz.underlying3
  a3 := Tryz.isAgg3
  z3 := Tryz.sizeOf3
  v3 := Tryz.zeroValue3
  t4 := Tryz.underlying4
  a4 := Tryz.isAgg4
  z4 := Tryz.sizeOf4
  v4 := Tryz.zeroValue4
  t5 := Tryz.underlying5
  a5 := Tryz.isAgg5
  z5 := Tryz.sizeOf5
  v5 := Tryz.zeroValue5
  t9 := Tryz.underlying9
  a9 := Tryz.isAgg9
  z9 := Tryz.sizeOf9
  v9 := Tryz.zeroValue9
  t46 := Tryz.underlying100
  a46 := Tryz.isAgg100
  z46 := Tryz.sizeOf100
  v46 := Tryz.zeroValue100
  t53 := Tryz.underlying152
  a53 := Tryz.isAgg152
  z53 := Tryz.sizeOf152
  v53 := Tryz.zeroValue152 }
theorem Tryz.bits_Len64 (x : Int) (w : World) (h0 : 0 ≤ x) (h1 : x ≤ 18446744073709551615) :
    Calls Tryz.prog 117 #[.int .u64 x] w fun e w' => e = .returned (.int .i64 (Lib.bitLen x.toNat)) ∧ w' = w := Any.bits_Len64 Tryz.lays129 x w h0 h1
def Tryz.laysM316_ren : Go.Shelf.Ren := ⟨fun | 316 => 82 | n => n, fun | 9 => 9 | 3 => 3 | 4 => 4 | 37 => 139 | 0 => 0 | 127 => 140 | 5 => 5 | n => n, fun | n => n⟩
theorem Tryz.laysM316 : Go.Proofs.LaysM.n316 Tryz.prog Tryz.laysM316_ren := {
  mixed := by kernel_rfl
  f316 := Tryz.func82.trans (congrArg some (by kernel_rfl))
  t0 := Tryz.underlying0
  a0 := Tryz.isAgg0
  z0 := Tryz.sizeOf0
  v0 := Tryz.zeroValue0
  t3 := Tryz.underlying3
  a3 := Tryz.isAgg3
  z3 := Tryz.sizeOf3
  v3 := Tryz.zeroValue3
  t4 := Tryz.underlying4
  a4 := Tryz.isAgg4
  z4 := Tryz.sizeOf4
  v4 := Tryz.zeroValue4
  t9 := Tryz.underlying9
  a9 := Tryz.isAgg9
  z9 := Tryz.sizeOf9
  v9 := Tryz.zeroValue9
  t37 := Tryz.underlying139
  a37 := Tryz.isAgg139
  z37 := Tryz.sizeOf139
  v37 := Tryz.zeroValue139
  t127 := Tryz.underlying140
  a127 := Tryz.isAgg140
  z127 := Tryz.sizeOf140
  v127 := Tryz.zeroValue140
  t5 := Tryz.underlying5
  a5 := Tryz.isAgg5
  z5 := Tryz.sizeOf5
  v5 := Tryz.zeroValue5
  i0 := by kernel_rfl
  i3 := by kernel_rfl
  i4 := by kernel_rfl
  i5 := by kernel_rfl
  i9 := by kernel_rfl
  i37 := by kernel_rfl
  i127 := by kernel_rfl }
open Go.RowKit in
theorem Tryz.stringslite_Clone (s : ByteArray) (w : World) (hlim : s.size ≤ 281474976710656) :
    Calls Tryz.prog 82 #[.string s] w fun e w' => e = .returned (.string s) ∧ Below w.heap.size w w' := Any.stringslite_Clone Tryz.laysM316 s w hlim
def Tryz.lays189_ren : Go.Shelf.Ren := ⟨fun | 189 => 26 | 125 => 84 | 257 => 83 | 128 => 116 | 129 => 117 | 294 => 107 | 295 => 108 | 296 => 109 | 297 => 110 | 298 => 111 | 299 => 112 | 216 => 113 | 300 => 114 | 301 => 115 | 328 => 127 | 329 => 128 | 330 => 129 | 331 => 130 | 332 => 131 | 215 => 132 | 343 => 137 | n => n, fun | 28 => 43 | 3 => 3 | 46 => 100 | 0 => 0 | 51 => 150 | 53 => 152 | 4 => 4 | 183 => 143 | 182 => 142 | 131 => 53 | 5 => 5 | 9 => 9 | 218 => 157 | 222 => 161 | 228 => 166 | 229 => 167 | n => n, fun | n => n⟩
theorem Tryz.lays189 : Go.Proofs.Lays.n189 Tryz.prog Tryz.lays189_ren := {
  mixed := by kernel_rfl
  f125 := Tryz.func84.trans (congrArg some (by kernel_rfl))
  f128 := Tryz.func116.trans (congrArg some (by kernel_rfl))
  f129 := Tryz.func117.trans (congrArg some (by kernel_rfl))
  f189 := Tryz.func26.trans (congrArg some (by kernel_rfl))
  f215 := Tryz.func132.trans (congrArg some (by kernel_rfl))
  f216 := Tryz.func113.trans (congrArg some (by kernel_rfl))
  f257 := Tryz.func83.trans (congrArg some (by kernel_rfl))
  f294 := Tryz.func107.trans (congrArg some (by kernel_rfl))
  f295 := Tryz.func108.trans (congrArg some (by kernel_rfl))
  f296 := Tryz.func109.trans (congrArg some (by kernel_rfl))
  f297 := Tryz.func110.trans (congrArg some (by kernel_rfl))
  f298 := Tryz.func111.trans (congrArg some (by kernel_rfl))
  f299 := Tryz.func112.trans (congrArg some (by kernel_rfl))
  f300 := Tryz.func114.trans (congrArg some (by kernel_rfl))
  f301 := Tryz.func115.trans (congrArg some (by kernel_rfl))
  f328 := Tryz.func127.trans (congrArg some (by kernel_rfl))
  f329 := Tryz.func128.trans (congrArg some (by kernel_rfl))
  f330 := Tryz.func129.trans (congrArg some (by kernel_rfl))
  f331 := Tryz.func130.trans (congrArg some (by kernel_rfl))
  f332 := Tryz.func131.trans (congrArg some (by kernel_rfl))
  f343 := Tryz.func137.trans (congrArg some (by kernel_rfl))
  t0 := Tryz.underlying0
  a0 := Tryz.isAgg0
  z0 := Tryz.sizeOf0
  v0 := Tryz.zeroValue0
  t3 := Tryz.underlying3
  a3 := Tryz.isAgg3
  z3 := Tryz.sizeOf3
  v3 := Tryz.zeroValue3
  t4 := Tryz.underlying4
  a4 := Tryz.isAgg4
  z4 := Tryz.sizeOf4
  v4 := Tryz.zeroValue4
  t5 := Tryz.underlying5
  a5 := Tryz.isAgg5
  z5 := Tryz.sizeOf5
  v5 := Tryz.zeroValue5
  t9 := Tryz.underlying9
  a9 := Tryz.isAgg9
  z9 := Tryz.sizeOf9
  v9 := Tryz.zeroValue9
  t28 := Tryz.underlying43
  a28 := Tryz.isAgg43
  z28 := Tryz.sizeOf43
  v28 := Tryz.zeroValue43
  t46 := Tryz.underlying100
  a46 := Tryz.isAgg100
  z46 := Tryz.sizeOf100
  v46 := Tryz.zeroValue100
  t51 := Tryz.underlying150
  a51 := Tryz.isAgg150
  z51 := Tryz.sizeOf150
  v51 := Tryz.zeroValue150
  t53 := Tryz.underlying152
  a53 := Tryz.isAgg152
  z53 := Tryz.sizeOf152
  v53 := Tryz.zeroValue152
  t131 := Tryz.underlying53
  a131 := Tryz.isAgg53
  z131 := Tryz.sizeOf53
  v131 := Tryz.zeroValue53
  t182 := Tryz.underlying142
  a182 := Tryz.isAgg142
  z182 := Tryz.sizeOf142
  v182 := Tryz.zeroValue142
  t183 := Tryz.underlying143
  a183 := Tryz.isAgg143
  z183 := Tryz.sizeOf143
  v183 := Tryz.zeroValue143
  t218 := Tryz.underlying157
  a218 := Tryz.isAgg157
  z218 := Tryz.sizeOf157
  v218 := Tryz.zeroValue157
  t222 := Tryz.underlying161
  a222 := Tryz.isAgg161
  z222 := Tryz.sizeOf161
  v222 := Tryz.zeroValue161
  t228 := Tryz.underlying166
  a228 := Tryz.isAgg166
  z228 := Tryz.sizeOf166
  v228 := Tryz.zeroValue166
  t229 := Tryz.underlying167
  a229 := Tryz.isAgg167
  z229 := Tryz.sizeOf167
  v229 := Tryz.zeroValue167 }
open Go.Sort Go.RowKit in
theorem Tryz.slices_Sort_int (blk off cap : Nat) (zs : List Int) (w : World) (hH : Holds (Value.int .i64) w blk off zs.toArray) (hblk : blk < w.heap.size) (hsz : zs.length < 4611686018427387904) :
    Calls Tryz.prog 26 #[.slice (some ⟨blk, off, none⟩) zs.length cap] w fun e w' =>
      e = .returned (.tuple #[]) ∧ ∃ n os, w' = grow (putRow (Value.int .i64) (Sort.ahead w n) blk off (zs.mergeSort fun x y => decide (x ≤ y)).toArray) os := Any.slices_Sort_int Tryz.lays189 blk off cap zs w hH hblk hsz
def Tryz.lays190_ren : Go.Shelf.Ren := ⟨fun | 190 => 119 | 125 => 84 | 258 => 134 | 128 => 116 | 129 => 117 | 302 => 138 | 303 => 139 | 304 => 140 | 305 => 141 | 306 => 142 | 307 => 143 | 308 => 144 | 309 => 145 | 310 => 146 | 333 => 149 | 329 => 128 | 330 => 129 | 334 => 150 | 335 => 151 | 336 => 152 | 344 => 154 | n => n, fun | 31 => 61 | 9 => 9 | 3 => 3 | 46 => 100 | 0 => 0 | 51 => 150 | 53 => 152 | 4 => 4 | 183 => 143 | 182 => 142 | 131 => 53 | 5 => 5 | 218 => 157 | 222 => 161 | 228 => 166 | 229 => 167 | n => n, fun | n => n⟩
theorem Tryz.lays190 : Go.Proofs.Lays.n190 Tryz.prog Tryz.lays190_ren := {
  mixed := by kernel_rfl
  f125 := Tryz.func84.trans (congrArg some (by kernel_rfl))
  f128 := Tryz.func116.trans (congrArg some (by kernel_rfl))
  f129 := Tryz.func117.trans (congrArg some (by kernel_rfl))
  f190 := Tryz.func119.trans (congrArg some (by kernel_rfl))
  f258 := Tryz.func134.trans (congrArg some (by kernel_rfl))
  f302 := Tryz.func138.trans (congrArg some (by kernel_rfl))
  f303 := Tryz.func139.trans (congrArg some (by kernel_rfl))
  f304 := Tryz.func140.trans (congrArg some (by kernel_rfl))
  f305 := Tryz.func141.trans (congrArg some (by kernel_rfl))
  f306 := Tryz.func142.trans (congrArg some (by kernel_rfl))
  f307 := Tryz.func143.trans (congrArg some (by kernel_rfl))
  f308 := Tryz.func144.trans (congrArg some (by kernel_rfl))
  f309 := Tryz.func145.trans (congrArg some (by kernel_rfl))
  f310 := Tryz.func146.trans (congrArg some (by kernel_rfl))
  f329 := Tryz.func128.trans (congrArg some (by kernel_rfl))
  f330 := Tryz.func129.trans (congrArg some (by kernel_rfl))
  f333 := Tryz.func149.trans (congrArg some (by kernel_rfl))
  f334 := Tryz.func150.trans (congrArg some (by kernel_rfl))
  f335 := Tryz.func151.trans (congrArg some (by kernel_rfl))
  f336 := Tryz.func152.trans (congrArg some (by kernel_rfl))
  f344 := Tryz.func154.trans (congrArg some (by kernel_rfl))
  t0 := Tryz.underlying0
  a0 := Tryz.isAgg0
  z0 := Tryz.sizeOf0
  v0 := Tryz.zeroValue0
  t3 := Tryz.underlying3
  a3 := Tryz.isAgg3
  z3 := Tryz.sizeOf3
  v3 := Tryz.zeroValue3
  t4 := Tryz.underlying4
  a4 := Tryz.isAgg4
  z4 := Tryz.sizeOf4
  v4 := Tryz.zeroValue4
  t5 := Tryz.underlying5
  a5 := Tryz.isAgg5
  z5 := Tryz.sizeOf5
  v5 := Tryz.zeroValue5
  t9 := Tryz.underlying9
  a9 := Tryz.isAgg9
  z9 := Tryz.sizeOf9
  v9 := Tryz.zeroValue9
  t31 := Tryz.underlying61
  a31 := Tryz.isAgg61
  z31 := Tryz.sizeOf61
  v31 := Tryz.zeroValue61
  t46 := Tryz.underlying100
  a46 := Tryz.isAgg100
  z46 := Tryz.sizeOf100
  v46 := Tryz.zeroValue100
  t51 := Tryz.underlying150
  a51 := Tryz.isAgg150
  z51 := Tryz.sizeOf150
  v51 := Tryz.zeroValue150
  t53 := Tryz.underlying152
  a53 := Tryz.isAgg152
  z53 := Tryz.sizeOf152
  v53 := Tryz.zeroValue152
  t131 := Tryz.underlying53
  a131 := Tryz.isAgg53
  z131 := Tryz.sizeOf53
  v131 := Tryz.zeroValue53
  t182 := Tryz.underlying142
  a182 := Tryz.isAgg142
  z182 := Tryz.sizeOf142
  v182 := Tryz.zeroValue142
  t183 := Tryz.underlying143
  a183 := Tryz.isAgg143
  z183 := Tryz.sizeOf143
  v183 := Tryz.zeroValue143
  t218 := Tryz.underlying157
  a218 := Tryz.isAgg157
  z218 := Tryz.sizeOf157
  v218 := Tryz.zeroValue157
  t222 := Tryz.underlying161
  a222 := Tryz.isAgg161
  z222 := Tryz.sizeOf161
  v222 := Tryz.zeroValue161
  t228 := Tryz.underlying166
  a228 := Tryz.isAgg166
  z228 := Tryz.sizeOf166
  v228 := Tryz.zeroValue166
  t229 := Tryz.underlying167
  a229 := Tryz.isAgg167
  z229 := Tryz.sizeOf167
  v229 := Tryz.zeroValue167 }
open Go.Sort Go.RowKit in
theorem Tryz.slices_Sort_string (blk off cap : Nat) (ss : List (List UInt8)) (w : World) (hH : Holds encStr w blk off ss.toArray) (hblk : blk < w.heap.size) (hsz : ss.length < 4611686018427387904) :
    Calls Tryz.prog 119 #[.slice (some ⟨blk, off, none⟩) ss.length cap] w fun e w' =>
      e = .returned (.tuple #[]) ∧ ∃ n os, w' = grow (putRow encStr (Sort.ahead w n) blk off (ss.mergeSort fun x y => decide (x ≤ y)).toArray) os := Any.slices_Sort_string Tryz.lays190 blk off cap ss w hH hblk hsz
def Tryz.lays112_ren : Go.Shelf.Ren := ⟨fun | 112 => 148 | n => n, fun | 28 => 43 | 3 => 3 | 4 => 4 | 0 => 0 | n => n, fun | n => n⟩
theorem Tryz.lays112 : Go.Proofs.Lays.n112 Tryz.prog Tryz.lays112_ren := {
  mixed := by kernel_rfl
  f112 := Tryz.func148.trans (congrArg some (by kernel_rfl))
  t0 := Tryz.underlying0
  a0 := Tryz.isAgg0
  z0 := Tryz.sizeOf0
  v0 := Tryz.zeroValue0
  t3 := Tryz.underlying3
  a3 := Tryz.isAgg3
  z3 := Tryz.sizeOf3
  v3 := Tryz.zeroValue3
  t4 := Tryz.underlying4
  a4 := Tryz.isAgg4
  z4 := Tryz.sizeOf4
  v4 := Tryz.zeroValue4
  t28 := Tryz.underlying43
  a28 := Tryz.isAgg43
  z28 := Tryz.sizeOf43
  v28 := Tryz.zeroValue43 }
open Go.RowKit Go.Lib Go.Sort in
theorem Tryz.slices_Reverse_int_arr (blk off cap : Nat) (d : Array Int) (w : World) (hH : Holds encI w blk off d) (hsz : d.size ≤ 9223372036854775807) :
    Calls Tryz.prog 148 #[.slice (some ⟨blk, off, none⟩) d.size cap] w fun e w' => e = .returned (.tuple #[]) ∧ ∃ n, w' = putRow encI (Sort.ahead w n) blk off d.reverse := Any.slices_Reverse_int_arr Tryz.lays112 blk off cap d w hH hsz
open Go.RowKit Go.Lib Go.Sort in
theorem Tryz.slices_Reverse_int (blk off cap : Nat) (zs : List Int) (w : World) (hH : Holds (Value.int .i64) w blk off zs.toArray) (hsz : zs.length ≤ 9223372036854775807) :
    Calls Tryz.prog 148 #[.slice (some ⟨blk, off, none⟩) zs.length cap] w fun e w' => e = .returned (.tuple #[]) ∧ ∃ n, w' = putRow (Value.int .i64) (Sort.ahead w n) blk off zs.reverse.toArray := Any.slices_Reverse_int Tryz.lays112 blk off cap zs w hH hsz
open Go.RowKit Go.Lib Go.Sort in
theorem Tryz.slices_Reverse_int_empty (a : Option Addr) (cap : Nat) (w : World) :
    Calls Tryz.prog 148 #[.slice a 0 cap] w fun e w' => e = .returned (.tuple #[]) ∧ w' = w := Any.slices_Reverse_int_empty Tryz.lays112 a cap w
def Tryz.laysNm215_ren : Go.Shelf.Ren := ⟨fun | 15 => 19 | n => n, fun | 22 => 43 | 3 => 3 | 4 => 4 | n => n, fun | n => n⟩
theorem Tryz.laysNm215 : Go.Proofs.Lays2.n15 Tryz.prog Tryz.laysNm215_ren := {
  mixed := by kernel_rfl
  f15 := Tryz.func19.trans (congrArg some (by kernel_rfl))
  t3 := Tryz.underlying3
  a3 := Tryz.isAgg3
  z3 := Tryz.sizeOf3
  v3 := Tryz.zeroValue3
  t4 := Tryz.underlying4
  a4 := Tryz.isAgg4
  z4 := Tryz.sizeOf4
  v4 := Tryz.zeroValue4
  t22 := Tryz.underlying43
  a22 := Tryz.isAgg43
  z22 := Tryz.sizeOf43
  v22 := Tryz.zeroValue43
  i3 := by kernel_rfl }
open Go.RowKit Go.Lib in
theorem Tryz.slices_Clone_int (b off n c : Nat) (zs : List Int) (w : World) (hz : n ≤ zs.length) (hbig : n * 8 ≤ 140737488355328) (hc : ∀ j, j < zs.length → w.cell? ⟨b, off + j, none⟩ = some (.int .i64 (zs.getD j 0))) :
    Calls Tryz.prog 19 #[.slice (some ⟨b, off, none⟩) n c] w fun e w' => ∃ v', e = .returned v' ∧ w'.ownsRow w.heap.size 3 1 v' n ((zs.take n).map (Value.int .i64)) ∧ v' ≠ .slice none 0 0 ∧ Below w.heap.size w w' := Any.slices_Clone_int Tryz.laysNm215 b off n c zs w hz hbig hc
open Go.RowKit Go.Lib in
theorem Tryz.slices_Clone_int_nil (n c : Nat) (w : World) :
    Calls Tryz.prog 19 #[.slice none n c] w fun e w' => e = .returned (.slice none 0 0) ∧ w' = w := Any.slices_Clone_int_nil Tryz.laysNm215 n c w
open Go.RowKit Go.Lib in
theorem Tryz.slices_Clone_int_zero (a : Addr) (c : Nat) (w : World) :
    Calls Tryz.prog 19 #[.slice (some a) 0 c] w fun e w' => ∃ v', e = .returned v' ∧ w'.ownsRow w.heap.size 3 1 v' 0 [] ∧ v' ≠ .slice none 0 0 ∧ Below w.heap.size w w' := Any.slices_Clone_int_zero Tryz.laysNm215 a c w
def Tryz.laysNm237_ren : Go.Shelf.Ren := ⟨fun | 37 => 132 | n => n, fun | 3 => 3 | 4 => 4 | n => n, fun | n => n⟩
theorem Tryz.laysNm237 : Go.Proofs.Lays2.n37 Tryz.prog Tryz.laysNm237_ren := {
  mixed := by kernel_rfl
  f37 := Tryz.func132.trans (congrArg some (by kernel_rfl))
  t3 := Tryz.underlying3
  a3 := Tryz.isAgg3
  z3 := Tryz.sizeOf3
  v3 := Tryz.zeroValue3
  t4 := Tryz.underlying4
  a4 := Tryz.isAgg4
  z4 := Tryz.sizeOf4
  v4 := Tryz.zeroValue4 }
open Go.RowKit Go.Lib in
theorem Tryz.cmp_isNaN_int2 (x : Int) (w : World) :
    Calls Tryz.prog 132 #[.int .i64 x] w fun e w' => e = .returned (.bool false) ∧ w' = w := Any.cmp_isNaN_int2 Tryz.laysNm237 x w
def Tryz.laysNm232_ren : Go.Shelf.Ren := ⟨fun | 32 => 123 | n => n, fun | 3 => 3 | 4 => 4 | n => n, fun | n => n⟩
theorem Tryz.laysNm232 : Go.Proofs.Lays2.n32 Tryz.prog Tryz.laysNm232_ren := {
  mixed := by kernel_rfl
  f32 := Tryz.func123.trans (congrArg some (by kernel_rfl))
  t3 := Tryz.underlying3
  a3 := Tryz.isAgg3
  z3 := Tryz.sizeOf3
  v3 := Tryz.zeroValue3
  t4 := Tryz.underlying4
  a4 := Tryz.isAgg4
  z4 := Tryz.sizeOf4
  v4 := Tryz.zeroValue4 }
open Go.RowKit Go.Lib in
theorem Tryz.slices_isNaN_int2 (x : Int) (w : World) :
    Calls Tryz.prog 123 #[.int .i64 x] w fun e w' => e = .returned (.bool false) ∧ w' = w := Any.slices_isNaN_int2 Tryz.laysNm232 x w
def Tryz.laysNm231_ren : Go.Shelf.Ren := ⟨fun | 31 => 113 | 37 => 132 | n => n, fun | 3 => 3 | 4 => 4 | n => n, fun | n => n⟩
theorem Tryz.laysNm231 : Go.Proofs.Lays2.n31 Tryz.prog Tryz.laysNm231_ren := {
  mixed := by kernel_rfl
  f31 := Tryz.func113.trans (congrArg some (by kernel_rfl))
  f37 := Tryz.func132.trans (congrArg some (by kernel_rfl))
  t3 := Tryz.underlying3
  a3 := Tryz.isAgg3
  z3 := Tryz.sizeOf3
  v3 := Tryz.zeroValue3
  t4 := Tryz.underlying4
  a4 := Tryz.isAgg4
  z4 := Tryz.sizeOf4
  v4 := Tryz.zeroValue4 }
open Go.RowKit Go.Lib in
theorem Tryz.cmp_Less_int2 (x y : Int) (w : World) :
    Calls Tryz.prog 113 #[.int .i64 x, .int .i64 y] w fun e w' => e = .returned (.bool (decide (x < y))) ∧ w' = w := Any.cmp_Less_int2 Tryz.laysNm231 x y w
def Tryz.laysNm225_ren : Go.Shelf.Ren := ⟨fun | 25 => 102 | 31 => 113 | 32 => 123 | 37 => 132 | n => n, fun | 22 => 43 | 3 => 3 | 4 => 4 | 40 => 100 | 0 => 0 | n => n, fun | n => n⟩
theorem Tryz.laysNm225 : Go.Proofs.Lays2.n25 Tryz.prog Tryz.laysNm225_ren := {
  mixed := by kernel_rfl
  f25 := Tryz.func102.trans (congrArg some (by kernel_rfl))
  f31 := Tryz.func113.trans (congrArg some (by kernel_rfl))
  f32 := Tryz.func123.trans (congrArg some (by kernel_rfl))
  f37 := Tryz.func132.trans (congrArg some (by kernel_rfl))
  t0 := Tryz.underlying0
  a0 := Tryz.isAgg0
  z0 := Tryz.sizeOf0
  v0 := Tryz.zeroValue0
  t3 := Tryz.underlying3
  a3 := Tryz.isAgg3
  z3 := Tryz.sizeOf3
  v3 := Tryz.zeroValue3
  t4 := Tryz.underlying4
  a4 := Tryz.isAgg4
  z4 := Tryz.sizeOf4
  v4 := Tryz.zeroValue4
  t22 := Tryz.underlying43
  a22 := Tryz.isAgg43
  z22 := Tryz.sizeOf43
  v22 := Tryz.zeroValue43
  t40 := Tryz.underlying100
  a40 := Tryz.isAgg100
  z40 := Tryz.sizeOf100
  v40 := Tryz.zeroValue100 }
open Go.RowKit Go.Lib in
theorem Tryz.slices_BinarySearch_int (b off n c : Nat) (zs : List Int) (x : Int) (w : World) (hz : n ≤ zs.length) (hbig : n < 4611686018427387904) (hc : ∀ j, j < zs.length → w.cell? ⟨b, off + j, none⟩ = some (.int .i64 (zs.getD j 0))) (hs : (zs.take n).Pairwise (· ≤ ·)) :
    Calls Tryz.prog 102 #[.slice (some ⟨b, off, none⟩) n c, .int .i64 x] w fun e w' => e = .returned (.tuple #[.int .i64 ((zs.take n).countP (· < x) : Nat), .bool ((zs.take n).contains x)]) ∧ ∃ q, w' = w.drewN q := Any.slices_BinarySearch_int Tryz.laysNm225 b off n c zs x w hz hbig hc hs
def Tryz.laysNm223_ren : Go.Shelf.Ren := ⟨fun | 23 => 77 | n => n, fun | 22 => 43 | 3 => 3 | 4 => 4 | 0 => 0 | n => n, fun | n => n⟩
theorem Tryz.laysNm223 : Go.Proofs.Lays2.n23 Tryz.prog Tryz.laysNm223_ren := {
  mixed := by kernel_rfl
  f23 := Tryz.func77.trans (congrArg some (by kernel_rfl))
  t0 := Tryz.underlying0
  a0 := Tryz.isAgg0
  z0 := Tryz.sizeOf0
  v0 := Tryz.zeroValue0
  t3 := Tryz.underlying3
  a3 := Tryz.isAgg3
  z3 := Tryz.sizeOf3
  v3 := Tryz.zeroValue3
  t4 := Tryz.underlying4
  a4 := Tryz.isAgg4
  z4 := Tryz.sizeOf4
  v4 := Tryz.zeroValue4
  t22 := Tryz.underlying43
  a22 := Tryz.isAgg43
  z22 := Tryz.sizeOf43
  v22 := Tryz.zeroValue43
  i3 := by kernel_rfl }
open Go.RowKit Go.Lib Go.Sort in
theorem Tryz.slices_Delete_int_arr (blk off cap i j : Nat) (d : Array Int) (w : World) (hH : Holds encI w blk off d) (hcap : d.size ≤ cap) (hm : cap ≤ 9223372036854775807) (hij : i ≤ j) (hj : j ≤ d.size) :
    Calls Tryz.prog 77 #[.slice (some ⟨blk, off, none⟩) d.size cap, .int .i64 i, .int .i64 j] w fun e w' => e = .returned (.slice (some ⟨blk, off, none⟩) (d.size - (j - i)) cap) ∧ ∃ q, w' = putRow encI (Sort.ahead w q) blk off (d.toList.take i ++ d.toList.drop j ++ List.replicate (j - i) 0).toArray := Any.slices_Delete_int_arr Tryz.laysNm223 blk off cap i j d w hH hcap hm hij hj
open Go.RowKit Go.Lib Go.Sort in
theorem Tryz.slices_Delete_int (blk off cap i j : Nat) (zs : List Int) (w : World) (hH : Holds (Value.int .i64) w blk off zs.toArray) (hcap : zs.length ≤ cap) (hm : cap ≤ 9223372036854775807) (hij : i ≤ j) (hj : j ≤ zs.length) :
    Calls Tryz.prog 77 #[.slice (some ⟨blk, off, none⟩) zs.length cap, .int .i64 i, .int .i64 j] w fun e w' => e = .returned (.slice (some ⟨blk, off, none⟩) (zs.length - (j - i)) cap) ∧ ∃ q, w' = putRow (Value.int .i64) (Sort.ahead w q) blk off (zs.take i ++ zs.drop j ++ List.replicate (j - i) 0).toArray := Any.slices_Delete_int Tryz.laysNm223 blk off cap i j zs w hH hcap hm hij hj
open Go.RowKit Go.Lib Go.Sort in
theorem Tryz.slices_Reverse_int_cells (b off n c : Nat) (zs : List Int) (w : World) (hz : n ≤ zs.length) (hbig : n ≤ 9223372036854775807) (hc : ∀ j, j < zs.length → w.cell? ⟨b, off + j, none⟩ = some (.int .i64 (zs.getD j 0))) (hf : ∀ j, j < n → w.frozen? ⟨b, off + j, none⟩ = false) :
    Calls Tryz.prog 148 #[.slice (some ⟨b, off, none⟩) n c] w fun e w' => e = .returned (.tuple #[]) ∧ ∃ q, w' = (w.drewN q).setCells b off ((zs.take n).reverse.map (Value.int .i64)) := Any.slices_Reverse_int_cells Tryz.lays112 b off n c zs w hz hbig hc hf
open Go.RowKit Go.Lib Go.Sort in
theorem Tryz.slices_Delete_int_cells (b off n c i j : Nat) (zs : List Int) (w : World) (hz : n ≤ zs.length) (hcap : n ≤ c) (hm : c ≤ 9223372036854775807) (hij : i ≤ j) (hj : j ≤ n) (hc : ∀ j, j < zs.length → w.cell? ⟨b, off + j, none⟩ = some (.int .i64 (zs.getD j 0))) (hf : ∀ j, j < n → w.frozen? ⟨b, off + j, none⟩ = false) :
    Calls Tryz.prog 77 #[.slice (some ⟨b, off, none⟩) n c, .int .i64 i, .int .i64 j] w fun e w' => e = .returned (.slice (some ⟨b, off, none⟩) (n - (j - i)) c) ∧ ∃ q, w' = (w.drewN q).setCells b off (((zs.take n).take i ++ (zs.take n).drop j ++ List.replicate (j - i) 0).map (Value.int .i64)) := Any.slices_Delete_int_cells Tryz.laysNm223 b off n c i j zs w hz hcap hm hij hj hc hf
open Go.RowKit Go.Sort in
theorem Tryz.slices_Sort_string_none (p : Option Addr) (cap : Nat) (w : World) :
    Calls Tryz.prog 119 #[.slice p 0 cap] w fun e w' => e = .returned (.tuple #[]) ∧ w' = w := Any.slices_Sort_string_none Tryz.lays190 p cap w
open Go.RowKit Go.Sort in
theorem Tryz.slices_Sort_int_none (p : Option Addr) (cap : Nat) (w : World) :
    Calls Tryz.prog 26 #[.slice p 0 cap] w fun e w' => e = .returned (.tuple #[]) ∧ w' = w := Any.slices_Sort_int_none Tryz.lays189 p cap w
open Go.RowKit Go.Lib in
theorem Tryz.slices_BinarySearch_int_empty (a : Option Addr) (c : Nat) (x : Int) (w : World) :
    Calls Tryz.prog 102 #[.slice a 0 c, .int .i64 x] w fun e w' => e = .returned (.tuple #[.int .i64 0, .bool false]) ∧ w' = w := Any.slices_BinarySearch_int_empty Tryz.laysNm225 a c x w
open Go.RowKit Go.Lib in
theorem Tryz.slices_Delete_int_empty (a : Option Addr) (c : Nat) (w : World) :
    Calls Tryz.prog 77 #[.slice a 0 c, .int .i64 0, .int .i64 0] w fun e w' => e = .returned (.slice a 0 c) ∧ w' = w := Any.slices_Delete_int_empty Tryz.laysNm223 a c w
def Tryz.laysSlH6_f126_ren : Go.Shelf.Ren := ⟨fun | 6 => 126 | n => n, fun | 22 => 43 | 23 => 3 | 25 => 137 | 3 => 3 | 0 => 0 | 4 => 4 | n => n, fun | n => n⟩
theorem Tryz.laysSlH6_f126 : Go.Proofs.SlLaysH.n6 Tryz.prog Tryz.laysSlH6_f126_ren := {
  mixed := by kernel_rfl
  f6 := ⟨Tryz.f126.name, by decide, Tryz.func126.trans (congrArg some (by kernel_rfl))⟩
  t0 := Tryz.underlying0
  a0 := Tryz.isAgg0
  z0 := Tryz.sizeOf0
  v0 := Tryz.zeroValue0
  t3 := Tryz.underlying3
  a3 := Tryz.isAgg3
  z3 := Tryz.sizeOf3
  v3 := Tryz.zeroValue3
  t4 := Tryz.underlying4
  a4 := Tryz.isAgg4
  z4 := Tryz.sizeOf4
  v4 := Tryz.zeroValue4
  t22 := Tryz.underlying43
  a22 := Tryz.isAgg43
  z22 := Tryz.sizeOf43
  v22 := Tryz.zeroValue43
  a23 := Tryz.isAgg3
  z23 := Tryz.sizeOf3
  t25 := Tryz.underlying137
  a25 := Tryz.isAgg137
  z25 := Tryz.sizeOf137
  v25 := Tryz.zeroValue137 }
open Go.RowKit Go.Lib in
theorem Tryz.slices_IndexFunc {α : Type} [Inhabited α] (enc : α → Value) (p : α → Bool) (g : Nat) (lb : Array Value) (eg : ∀ args w, (callFunc g args).run Tryz.prog w = .ok (.enter g args) w) (b off n c : Nat) (zs : List α) (w : World) (hp : PredAt Tryz.prog g lb enc p w) (hz : n ≤ zs.length) (hbig : n ≤ 9223372036854775807) (hc : ∀ j, j < zs.length → w.cell? ⟨b, off + j, none⟩ = some (enc zs[j]!)) :
    Calls Tryz.prog 126 #[.slice (some ⟨b, off, none⟩) n c, .func (.func g) #[] lb] w fun e w' => e = .returned (.int .i64 (Lib.idxBy (fun _ y => p y) (zs.take n) default)) ∧ ∃ q, w' = w.drewN q := AnyE.slices_IndexFunc Tryz.laysSlH6_f126 enc p g lb eg b off n c zs w hp hz hbig hc
open Go.RowKit Go.Lib in
theorem Tryz.slices_IndexFunc_empty {α : Type} [Inhabited α] (a : Option Addr) (c : Nat) (fv : Value) (w : World) :
    Calls Tryz.prog 126 #[.slice a 0 c, fv] w fun e w' => e = .returned (.int .i64 (-1)) ∧ w' = w := AnyE.slices_IndexFunc_empty Tryz.laysSlH6_f126 a c fv w
def Tryz.laysSlH10_f106_ren : Go.Shelf.Ren := ⟨fun | 10 => 106 | 6 => 126 | n => n, fun | 22 => 43 | 23 => 3 | 25 => 137 | 3 => 3 | 4 => 4 | 0 => 0 | n => n, fun | n => n⟩
theorem Tryz.laysSlH10_f106 : Go.Proofs.SlLaysH.n10 Tryz.prog Tryz.laysSlH10_f106_ren := {
  mixed := by kernel_rfl
  f6 := ⟨Tryz.f126.name, by decide, Tryz.func126.trans (congrArg some (by kernel_rfl))⟩
  f10 := ⟨Tryz.f106.name, by decide, Tryz.func106.trans (congrArg some (by kernel_rfl))⟩
  t0 := Tryz.underlying0
  a0 := Tryz.isAgg0
  z0 := Tryz.sizeOf0
  v0 := Tryz.zeroValue0
  t3 := Tryz.underlying3
  a3 := Tryz.isAgg3
  z3 := Tryz.sizeOf3
  v3 := Tryz.zeroValue3
  t4 := Tryz.underlying4
  a4 := Tryz.isAgg4
  z4 := Tryz.sizeOf4
  v4 := Tryz.zeroValue4
  t22 := Tryz.underlying43
  a22 := Tryz.isAgg43
  z22 := Tryz.sizeOf43
  v22 := Tryz.zeroValue43
  a23 := Tryz.isAgg3
  z23 := Tryz.sizeOf3
  t25 := Tryz.underlying137
  a25 := Tryz.isAgg137
  z25 := Tryz.sizeOf137
  v25 := Tryz.zeroValue137 }
open Go.RowKit Go.Lib Go.Sort in
theorem Tryz.slices_DeleteFunc {α : Type} [Inhabited α] (enc : α → Value) (hO : OneCell enc) (p : α → Bool) (g : Nat) (lb : Array Value) (eg : ∀ args w, (callFunc g args).run Tryz.prog w = .ok (.enter g args) w) (zr : α) (v23 : ∀ w, (zeroValue 3).run Tryz.prog w = .ok (enc zr) w) (blk off cap : Nat) (d : Array α) (w : World) (hp : PredAt Tryz.prog g lb enc p w) (hpo : PredOver Tryz.prog g lb enc p blk off d.size w) (hH : Holds enc w blk off d) (hsz : d.size ≤ 9223372036854775807) (hcap : d.size ≤ cap) :
    Calls Tryz.prog 106 #[.slice (some ⟨blk, off, none⟩) d.size cap, .func (.func g) #[] lb] w fun e w' => e = .returned (.slice (some ⟨blk, off, none⟩) (d.toList.filter fun x => !p x).length cap) ∧ ∃ q, w' = putRow enc (Sort.ahead w q) blk off ((d.toList.filter fun x => !p x) ++ List.replicate (d.size - (d.toList.filter fun x => !p x).length) zr).toArray := AnyE.slices_DeleteFunc Tryz.laysSlH10_f106 enc hO p g lb eg zr v23 blk off cap d w hp hpo hH hsz hcap
open Go.RowKit Go.Maps Go.Sort Go.Shelf


theorem Tryz.sorts85 (m : Nat) : AnyZ.SortsIn Tryz.prog Tryz.sorted85_ren Fence.wide m :=
  ⟨fun blk off cap ss W hH hblk hsz => callsIn_wide.2 (AnyM.slices_Sort_string Tryz.sort119 blk off cap ss W hH hblk hsz),
   fun p cap W => callsIn_wide.2 (AnyM.slices_Sort_string_none Tryz.sort119 p cap W)⟩

theorem Tryz.maps_Keys_86 (mb : Option Nat) (W : World) : CallsIn Fence.wide 5 Tryz.prog 86 #[.map mb] W fun e w' => e = .returned (.func (.func 120) #[] #[.pointer (some ⟨W.heap.size, 0, none⟩)]) ∧ w' = W.alloc (.cells #[.map mb] 57) :=
  AnyZ.keys_in Tryz.keys86 Fence.wide 5 trivial rfl mb W

set_option maxHeartbeats 1000000 in
theorem Tryz.slices_Sorted_keys_85_86 {H : Type} (b nn : Nat) (D0 : DataW H) (R : Value → Option (DataW H × List MemPlace)) (w : World) (hown : w.ownsMap Tryz.prog 9 R b nn D0) (hmax : Maps.size D0 ≤ maxLen) (hbytes : Maps.size D0 * 16 ≤ 140737488355328) :
    CallsIn Fence.wide 5 Tryz.prog 85 #[.func (.func 120) #[] #[.pointer (some ⟨w.heap.size, 0, none⟩)]] (w.alloc (.cells #[.map (some b)] 57)) fun e w' => ∃ (v : Value) (ss : List (List UInt8)), e = .returned v ∧ ss.Perm (strKeys D0) ∧
      w'.ownsRow (w.alloc (.cells #[.map (some b)] 57)).heap.size 9 1 v ss.length ((ss.mergeSort (fun x y => decide (x ≤ y))).map encStr) ∧ (v = .slice none 0 0 ↔ ss = []) ∧ Below (w.alloc (.cells #[.map (some b)] 57)).heap.size (w.alloc (.cells #[.map (some b)] 57)) w' := by
  have hbl := hown.lt
  have hseq : SeqGives Fence.wide 2 Tryz.prog 120 #[.pointer (some ⟨w.heap.size, 0, none⟩)] encStr (fun ss => ss.Perm (strKeys D0)) (Maps.size D0) (w.alloc (.cells #[.map (some b)] 57)) :=
    AnyZ.keys_gives (ρ := Tryz.keys86_ren) { Tryz.keys86 with } Fence.wide _ trivial rfl (by omega) w.heap.size b nn D0 _ (by simp) (by simp) (by
      obtain ⟨es, clock, hb, Ft, hs, hD⟩ := hown
      exact ⟨es, clock, (Below.heap_alloc _ _ b hbl).trans hb, Ft, hs, hD⟩)
  exact AnyZ.sorted_in Tryz.sorted85 Fence.wide 5 trivial trivial trivial trivial rfl (by omega) (Tryz.sorts85 _) (enters_of Tryz.func119 (by kernel_rfl) rfl) 120 #[.pointer (some ⟨w.heap.size, 0, none⟩)] trivial (enters_of Tryz.func120 (by kernel_rfl) rfl) _ _ hmax hbytes _ hseq

set_option maxHeartbeats 1000000 in
theorem Tryz.slices_Sorted_keys_nil_85_86 (w : World) :
    CallsIn Fence.wide 5 Tryz.prog 85 #[.func (.func 120) #[] #[.pointer (some ⟨w.heap.size, 0, none⟩)]] (w.alloc (.cells #[.map none] 57)) fun e w' => ∃ (v : Value) (ss : List (List UInt8)), e = .returned v ∧ ss = [] ∧
      w'.ownsRow (w.alloc (.cells #[.map none] 57)).heap.size 9 1 v ss.length ((ss.mergeSort (fun x y => decide (x ≤ y))).map encStr) ∧ (v = .slice none 0 0 ↔ ss = []) ∧ Below (w.alloc (.cells #[.map none] 57)).heap.size (w.alloc (.cells #[.map none] 57)) w' := by
  have hseq : SeqGives Fence.wide 2 Tryz.prog 120 #[.pointer (some ⟨w.heap.size, 0, none⟩)] encStr (fun ss : List (List UInt8) => ss = []) 0 (w.alloc (.cells #[.map none] 57)) :=
    AnyZ.keys_gives_nil (ρ := Tryz.keys86_ren) { Tryz.keys86 with } Fence.wide _ trivial rfl w.heap.size _ (by simp) (by simp)
  exact AnyZ.sorted_in Tryz.sorted85 Fence.wide 5 trivial trivial trivial trivial rfl (by omega) (Tryz.sorts85 _) (enters_of Tryz.func119 (by kernel_rfl) rfl) 120 #[.pointer (some ⟨w.heap.size, 0, none⟩)] trivial (enters_of Tryz.func120 (by kernel_rfl) rfl) _ 0 (Nat.zero_le _) (by omega) _ hseq



end Go.Proofs
/- Contracts: BinarySearch, Insert, Delete of a row of numbers; insert and remove of sub. -/
set_option linter.unusedVariables false
set_option linter.unusedSimpArgs false
namespace Go.Proofs.YthjgplgfcbhihaaGreat
open Go.RowKit Go.Sort Go.Lib
theorem ints_get (xs : List Int) (j : Nat) : (ints xs)[j]? = (xs[j]?).map (Value.int .i64) := by simp [ints]
theorem ints_one : ∀ (xs : List Int), ∀ v ∈ ints xs, v.oneCell' = true := fun xs v hv => by
  obtain ⟨x, _, rfl⟩ := List.mem_map.1 hv
  rfl
theorem bsearch_any {w : World} {v : Value} {xs : List Int} (h : Slc w 1 v xs.length (ints xs)) (hr : Ris xs) (hb : xs.length ≤ 1000000000) (n : Int) :
    Calls Tryz.prog 102 #[v, .int .i64 n] w fun e w' => e = .returned (.tuple #[.int .i64 (lb xs n : Nat), .bool (xs.contains n)]) ∧ Only [] w w' := by
  obtain ⟨A, cap, rfl, hnc, hcm, hel⟩ := h.openI
  by_cases h0 : xs = []
  · subst h0
    exact (Tryz.slices_BinarySearch_int_empty A cap n w).mono fun e w' ⟨q1, q2⟩ => ⟨q1, by rw [q2]; exact Only.refl _ _⟩
  · have hpos : 0 < xs.length := List.length_pos_iff.2 h0
    obtain ⟨b, off, rfl, hbb, _⟩ := hel 0 hpos
    refine (Tryz.slices_BinarySearch_int b off xs.length cap xs n w (Nat.le_refl _) (by omega) (fun j hj => ?_) (by rw [List.take_length]; exact hr.le)).mono fun e w' ⟨q1, q, q2⟩ => ⟨?_, ?_⟩
    · obtain ⟨b', off', e1, _, hc⟩ := hel j hj
      injection e1 with e1
      injection e1 with e2 e3
      subst e2 e3
      rw [hc]
      simp [hj]
    · rw [q1, List.take_length]
      rfl
    · rw [q2]
      exact (Only.refl _ _).drewN q
theorem own_of {w : World} {g cap : Nat} {cs : Array Value} {ys : List Int} (hg : Blk w g 3 cs) (hn : ys.length ≤ cap) (hm : cap ≤ maxLen) (hs : cs.size = cap) (ht : ∀ j, j < ys.length → cs[j]? = (ints ys)[j]?) : Own w (.slice (some ⟨g, 0, none⟩) ys.length cap) ys := by
  refine ⟨by simp [ints], .inr ⟨g, cap, cs, rfl, Nat.zero_le _, hg, hn, hm, by omega, ?_⟩⟩
  apply List.ext_getElem?
  intro j
  by_cases hj : j < ys.length
  · rw [List.getElem?_take_of_lt (by omega), Array.getElem?_toList]
    exact ht j hj
  · rw [List.getElem?_eq_none (by simp; omega), List.getElem?_eq_none (by simp [ints]; omega)]
theorem own_parts {w : World} {v : Value} {xs : List Int} (h : Own w v xs) : (v = .slice none 0 0 ∧ xs = []) ∨
    ∃ g cap cs, v = .slice (some ⟨g, 0, none⟩) xs.length cap ∧ Blk w g 3 cs ∧ xs.length ≤ cap ∧ cap ≤ maxLen ∧ cs.size = cap ∧ ∀ j, j < xs.length → cs[j]? = (ints xs)[j]? := by
  obtain ⟨h1, h2⟩ := h
  rcases h2 with ⟨rfl, q⟩ | ⟨g, cap, cur, rfl, hb, hg, hn, hc, hs, ht⟩
  · exact .inl ⟨rfl, List.length_eq_zero_iff.1 q⟩
  · refine .inr ⟨g, cap, cur, rfl, hg, hn, hc, by omega, fun j hj => ?_⟩
    rw [← ht, List.getElem?_take_of_lt (by omega), Array.getElem?_toList]
theorem ints_ins (xs : List Int) (i : Nat) (n : Int) (j : Nat) (hi : i ≤ xs.length) : (ints (xs.take i ++ n :: xs.drop i))[j]? = if j < i then (ints xs)[j]? else if j = i then some (.int .i64 n) else (ints xs)[j - 1]? := by
  rw [ints_get]
  by_cases h1 : j < i
  · rw [if_pos h1, List.getElem?_append_left (by simp; omega), List.getElem?_take_of_lt h1, ints_get]
  · rw [if_neg h1, List.getElem?_append_right (by simp; omega)]
    have hl : (xs.take i).length = i := by simp; omega
    rw [hl]
    by_cases h2 : j = i
    · subst h2
      simp
    · rw [if_neg h2]
      obtain ⟨k, hk⟩ : ∃ k, j - i = k + 1 := ⟨j - i - 1, by omega⟩
      rw [hk, List.getElem?_cons_succ, List.getElem?_drop, ints_get, show i + k = j - 1 by omega]
theorem zero_size (n : Nat) : (Builtin.zeroCells (Value.int .i64 0).cells n).size = n := by simp [Builtin.zeroCells, Value.cells]
set_option maxHeartbeats 2000000 in
/-- Insert of one number: the row grows, in place or into a new block. -/
theorem insertI_any {w : World} {v : Value} {xs : List Int} (h : Own w v xs) (hb : xs.length ≤ 1000000000) {i : Nat} (hi : i ≤ xs.length) {vb : Nat} {n : Int} (hv : Blk w vb 3 #[.int .i64 n]) (hvb : ∀ g, v.ownBlock = some g → vb ≠ g) :
    Calls Tryz.prog 103 #[v, .int .i64 i, .slice (some ⟨vb, 0, none⟩) 1 1] w fun e w' => ∃ v', e = .returned v' ∧ RowTo w v w' v' (xs.take i ++ n :: xs.drop i) := by
  have hlen : (xs.take i ++ n :: xs.drop i).length = xs.length + 1 := by simp; omega
  have hvs : ∀ j u, [Value.int .i64 n][j]? = some u → w.cell? ⟨vb, 0 + j, none⟩ = some u := fun j u hu => by
    rw [Nat.zero_add, hv.cell j]
    simpa using hu
  have h1v : ∀ u ∈ [Value.int .i64 n], u.oneCell' = true := fun u hu => by simp at hu; subst hu; rfl
  have hge := grownCap_ge w (xs.length + 1)
  have hle := fun c => grownCap_le_maxLen w (xs.length + 1) c 3 (by unfold maxLen; omega)
  rcases own_parts h with ⟨rfl, rfl⟩ | ⟨g, cap, cs, rfl, hg, hn, hm, hs, hc⟩
  · obtain rfl : i = 0 := by simpa using hi
    refine (Any2.slices_Insert_int_end_grow Tryz.insI none 0 0 vb 0 1 1 [] [.int .i64 n] w (by omega) (Nat.le_refl _) (by omega) (by omega) rfl rfl (fun _ => rfl) (fun a q => by cases q) hvs h1v).mono ?_
    rintro e w' ⟨rfl, rfl⟩
    refine ⟨_, rfl, ?_, ((Only.refl _ w).drew.alloc _), fun b hb => .inr ?_⟩
    · have := own_of (ys := [n]) (cap := grownCap w (0 + 1) 0 3) (Blk.new w.drew 3 (([] ++ [Value.int .i64 n]).toArray ++ Builtin.zeroCells (Value.int .i64 0).cells (grownCap w (0 + 1) 0 3 - (0 + 1)))) (hge 0 3) (hle 0) (by rw [Array.size_append, zero_size]; have := hge 0 3; simp at this ⊢; omega) (fun j hj => by
        have hj0 : j = 0 := by simpa using hj
        subst hj0
        rw [Array.getElem?_append_left (by simp)]
        rfl)
      exact this
    · cases hb
      exact Nat.le_refl _
  · have hcell : ∀ j u, (ints xs)[j]? = some u → w.cell? ⟨g, 0 + j, none⟩ = some u := fun j u hu => by
      have hj : j < xs.length := by
        have := (List.getElem?_eq_some_iff.1 hu).1
        simpa [ints] using this
      rw [Nat.zero_add, hg.cell j, hc j hj]
      exact hu
    have hll : (ints xs).length = xs.length := by simp [ints]
    have hgv : vb ≠ g := hvb g rfl
    have hbig : (xs.length + 1) * 8 ≤ 140737488355328 := by omega
    have hcs? : ∀ k, k < cap → ∃ u, cs[k]? = some u := fun k hk => ⟨cs[k]'(by omega), Array.getElem?_eq_getElem (by omega)⟩
    by_cases hie : i = xs.length
    · subst hie
      have hys : xs.take xs.length ++ n :: xs.drop xs.length = xs ++ [n] := by simp
      by_cases hroom : xs.length + 1 ≤ cap
      · refine (Any2.slices_Insert_int_end_room Tryz.insI g 0 xs.length cap vb 0 1 1 [.int .i64 n] w (by omega) hroom (by unfold maxLen at hm; omega) rfl (fun j hj => ?_) (fun j hj => hg.free _) hvs h1v).mono ?_
        · obtain ⟨u, hu⟩ := hcs? (0 + xs.length + j) (by omega)
          rw [hg.cell, hu]
          rfl
        rintro e w' ⟨rfl, rfl⟩
        obtain ⟨cs', k1, k2, k3, k4, k5⟩ := hg.sets [.int .i64 n] (0 + xs.length)
        refine ⟨_, rfl, ?_, (Only.refl _ w).setCells (.inl (by simp [Value.ownBlock])) _ _, fun b hb => .inl hb⟩
        have := own_of (ys := xs.take xs.length ++ n :: xs.drop xs.length) (cap := cap) k1 (by omega) hm (by omega) (fun j hj => by
          rw [ints_ins xs xs.length n j (Nat.le_refl _)]
          by_cases hj1 : j < xs.length
          · rw [if_pos hj1, k3 j (by omega), hc j hj1]
          · obtain rfl : j = xs.length := by omega
            rw [if_neg hj1, if_pos rfl]
            have := k5 0 (by simp) (by omega)
            simpa using this)
        rw [hlen] at this
        exact this
      · refine (Any2.slices_Insert_int_end_grow Tryz.insI (some ⟨g, 0, none⟩) xs.length cap vb 0 1 1 (ints xs) [.int .i64 n] w (by omega) hn (by omega) hbig hll rfl (fun q => by cases q) (fun a q j u hu => by cases q; rw [Addr.add_lit]; exact hcell j u hu) hvs h1v).mono ?_
        rintro e w' ⟨rfl, rfl⟩
        refine ⟨_, rfl, ?_, ((Only.refl _ w).drew.alloc _), fun b hb => .inr ?_⟩
        · have := own_of (ys := xs.take xs.length ++ n :: xs.drop xs.length) (cap := grownCap w (xs.length + 1) cap 3) (Blk.new w.drew 3 ((ints xs ++ [Value.int .i64 n]).toArray ++ Builtin.zeroCells (Value.int .i64 0).cells (grownCap w (xs.length + 1) cap 3 - (xs.length + 1)))) (by rw [hlen]; exact hge cap 3) (hle cap) (by rw [Array.size_append, zero_size]; have := hge cap 3; simp [ints]; omega) (fun j hj => by
            rw [hlen] at hj
            rw [hys, Array.getElem?_append_left (by simp [ints]; omega)]
            simp [ints])
          rw [hlen] at this
          exact this
        · cases hb
          exact Nat.le_refl _
    · have hlt : i < xs.length := by omega
      by_cases hroom : xs.length + 1 ≤ cap
      · refine (Any2.slices_Insert_int_shift Tryz.insI g 0 xs.length cap i vb 0 1 1 (ints xs) [.int .i64 n] w hlt (by omega) hroom (by unfold maxLen at hm; omega) hgv hll rfl hcell (fun j hj => ?_) (fun j hj => hg.free _) hvs (ints_one xs) h1v 3 3 1 cap (by unfold World.shape?; rw [show w.heap[vb]? = _ from hv]; rfl) (by unfold World.shape?; rw [show w.heap[g]? = _ from hg, ← hs]) (by omega) (hv.free _) (hv.free _)).mono ?_
        · obtain ⟨u, hu⟩ := hcs? (0 + j) (by omega)
          rw [hg.cell, hu]
          rfl
        rintro e w' ⟨rfl, rfl⟩
        have hgd : Blk w.drew g 3 cs := hg
        obtain ⟨c1, k1, k2, k3, k4, k5⟩ := hgd.sets ((ints xs).drop i) (0 + (i + 1))
        obtain ⟨c2, l1, l2, l3, l4, l5⟩ := k1.sets [.int .i64 n] (0 + i)
        refine ⟨_, rfl, ?_, ((Only.refl _ w).drew.setCells (.inl (by simp [Value.ownBlock])) _ _).setCells (.inl (by simp [Value.ownBlock])) _ _, fun b hb => .inl hb⟩
        have := own_of (ys := xs.take i ++ n :: xs.drop i) (cap := cap) l1 (by omega) hm (by omega) (fun j hj => by
          rw [hlen] at hj
          rw [ints_ins xs i n j hi]
          by_cases hj1 : j < i
          · rw [if_pos hj1, l3 j (by omega), k3 j (by omega), hc j (by omega)]
          · rw [if_neg hj1]
            by_cases hj2 : j = i
            · subst hj2
              rw [if_pos rfl]
              have := l5 0 (by simp) (by omega)
              simpa using this
            · rw [if_neg hj2, l4 j (by simp; omega)]
              have := k5 (j - (i + 1)) (by simp [ints]; omega) (by omega)
              rw [show 0 + (i + 1) + (j - (i + 1)) = j by omega] at this
              rw [this, List.getElem?_drop, show i + (j - (i + 1)) = j - 1 by omega])
        rw [hlen] at this
        exact this
      · refine (Any2.slices_Insert_int_grow Tryz.insI g 0 xs.length cap i vb 0 1 1 (ints xs) [.int .i64 n] w hlt (by omega) hn (by omega) hbig hll rfl hcell hvs (ints_one xs) h1v).mono ?_
        rintro e w' ⟨rfl, rfl⟩
        obtain ⟨c0, hc0⟩ : ∃ c0, c0 = ((ints xs).take i).toArray ++ Builtin.zeroCells (Value.int .i64 0).cells (xs.length + 1 - i) ++ Builtin.zeroCells (Value.int .i64 0).cells (grownCap w (xs.length + 1) cap 3 - (xs.length + 1)) := ⟨_, rfl⟩
        have hsz0 : c0.size = grownCap w (xs.length + 1) cap 3 := by
          rw [hc0, Array.size_append, Array.size_append, zero_size, zero_size]
          have := hge cap 3
          simp [ints]
          omega
        have hren : Tryz.insI_ren.t 3 = 3 := rfl
        simp only [hren]
        rw [← hc0]
        have hN : Blk (w.alloc (.cells c0 3)).drew w.heap.size 3 c0 := Blk.new w 3 c0
        obtain ⟨c1, k1, k2, k3, k4, k5⟩ := hN.sets [.int .i64 n] i
        have k1' : Blk ((w.alloc (.cells c0 3)).drew.setCells w.heap.size i [.int .i64 n]).drew w.heap.size 3 c1 := k1
        obtain ⟨c2, l1, l2, l3, l4, l5⟩ := k1'.sets ((ints xs).drop i) (i + 1)
        refine ⟨_, rfl, ?_, (((((Only.refl _ w).alloc _).drew.setCells (.inr (Nat.le_refl _)) _ _).drew).setCells (.inr (Nat.le_refl _)) _ _), fun b hb => .inr ?_⟩
        · have := own_of (ys := xs.take i ++ n :: xs.drop i) (cap := grownCap w (xs.length + 1) cap 3) l1 (by rw [hlen]; exact hge cap 3) (hle cap) (by omega) (fun j hj => by
            rw [hlen] at hj
            rw [ints_ins xs i n j hi]
            have hgc := hge cap 3
            by_cases hj1 : j < i
            · rw [if_pos hj1, l3 j (by omega), k3 j (by omega), hc0, Array.append_assoc, Array.getElem?_append_left (by simp [ints]; omega)]
              simp [ints, hj1]
            · rw [if_neg hj1]
              by_cases hj2 : j = i
              · subst hj2
                rw [if_pos rfl, l3 j (by omega)]
                have := k5 0 (by simp) (by omega)
                simpa using this
              · rw [if_neg hj2]
                have := l5 (j - (i + 1)) (by simp [ints]; omega) (by omega)
                rw [show i + 1 + (j - (i + 1)) = j by omega] at this
                rw [this, List.getElem?_drop, show i + (j - (i + 1)) = j - 1 by omega])
          rw [hlen] at this
          exact this
        · cases hb
          exact Nat.le_refl _
theorem deleteI_any {w : World} {v : Value} {xs : List Int} (h : Own w v xs) (hb : xs.length ≤ 1000000000) {i : Nat} (hi : i < xs.length) :
    Calls Tryz.prog 77 #[v, .int .i64 i, .int .i64 ((i + 1 : Nat) : Int)] w fun e w' => ∃ v', e = .returned v' ∧ RowTo w v w' v' (xs.take i ++ xs.drop (i + 1)) := by
  have hv : v ≠ .slice none 0 0 := by
    rintro rfl
    rcases own_parts h with ⟨_, rfl⟩ | ⟨g, cap, cs, q, _⟩
    · simp at hi
    · cases q
  obtain ⟨g, cap, rfl, _, hg, hn, hm, hz, hH⟩ := holds_of_ownsRow (enc := Value.int .i64) (zs := xs) h hv
  unfold maxLen at hm
  refine (Tryz.slices_Delete_int g 0 cap i (i + 1) xs w hH hn (by omega) (by omega) (by omega)).mono ?_
  rintro e w' ⟨rfl, q, rfl⟩
  have hl : (xs.take i ++ xs.drop (i + 1)).length = xs.length - 1 := by simp; omega
  have hr := ownsRow_putRow (enc := Value.int .i64) (q := q) (ys := xs.take i ++ xs.drop (i + 1) ++ List.replicate (i + 1 - i) 0) (k := xs.length - 1) h (by simp; omega) (by omega)
  rw [List.take_left' hl] at hr
  refine ⟨_, rfl, ?_, ?_, fun b hb => .inl hb⟩
  · show World.ownsRow _ 0 3 1 _ (xs.take i ++ xs.drop (i + 1)).length _
    rw [hl, show xs.length - (i + 1 - i) = xs.length - 1 by omega]
    exact hr
  · exact ⟨rfl, rfl, rfl, by simp [putRow, mapBlock, Sort.ahead], fun k _ hk => by
      have : g ≠ k := by simp [Value.ownBlock] at hk; omega
      simp [putRow, mapBlock, Sort.ahead, Array.getElem?_modify, this]⟩
end Go.Proofs.YthjgplgfcbhihaaGreat
/- A region that draws its order: all operations but the last few read, reckon or call quietly within a class of worlds; the last few stand in one forced order. One walk in the order of the text serves every order. No program is named. -/
set_option linter.unusedVariables false
set_option linter.unusedSimpArgs false
namespace Go.Proofs.YthjgplgfcbhihaaGreat
open Go Go.RowKit Go.Sort
section
variable {P : Program} {ops : Array Oper} {md : Region.Mode} {C : World → Prop}

/-- Whatever order is picked, for so many operations of the first n; then L. -/
def AnyHead (P : Program) (md : Region.Mode) (ops : Array Oper) (C : World → Prop) (n : Nat) (L : Array Bool → Act → Prop) : Nat → Array Bool → Act → Prop
  | 0, listed, a => L listed a
  | f + 1, listed, a => Region.ready md ops listed ≠ [] ∧ ∀ i ∈ Region.ready md ops listed, i < n ∧ qOp P ops C i (AnyHead P md ops C n L f (listed.setIfInBounds i true)) a

theorem any_of_head {n g : Nat} {L : Array Bool → Act → Prop} {Q' : Exit → Act → World → Prop} (hL : ∀ listed a w, C w → L listed a → wpAny P md ops Q' g listed a w) :
    ∀ (f : Nat) (listed : Array Bool) (a : Act) (w : World), C w → AnyHead P md ops C n L f listed a → wpAny P md ops Q' (f + g) listed a w
  | 0, listed, a, w, hw, h => by rw [Nat.zero_add]; exact hL _ _ _ hw h
  | f + 1, listed, a, w, hw, h => by
    rw [show f + 1 + g = (f + g) + 1 by omega]
    exact ⟨fun h0 => absurd h0 h.1, fun i hi => wpOp_of_qOp hw (fun a' w' hw' h' => any_of_head hL f _ a' w' hw' h') (h.2 i hi).2⟩

theorem head_first {n i : Nat} {oi : Oper} {v : Value} {L : Array Bool → Act → Prop} (hi : ops[i]? = some oi) (hsel : ∀ (j : Nat) (o : Oper) cs b, ops[j]? = some o → o.op ≠ .select cs b)
    (hs : Region.sinkB md ops n = true) (hc : Region.chainB md ops n = true) (hn : n < ops.size) (hin : i < n)
    (hdone : ∀ listed a, L listed a → ∀ j ∈ Region.ready md ops listed, n ≤ j) :
    ∀ (f : Nat) (listed : Array Bool) (a : Act), HeadInv md ops n listed →
      (∀ j oj, ops[j]? = some oj → j ≠ i → listed.getD j true = false → (∀ e ∈ oj.after, Region.binds md e = true → e.on ≠ i) → oi.apart ops oj = true) →
      i ∈ Region.ready md ops listed → YieldsIn P ops C oi v a →
      AnyHead P md ops C n L f (listed.setIfInBounds i true) (a.put oi.dst v) → AnyHead P md ops C n L (f + 1) listed a := by
  intro f
  induction f with
  | zero =>
    intro listed a inv _ hr hy H
    have hun := (mem_ready.1 hr).1
    refine ⟨fun h => (by rw [h] at hr; cases hr), fun j hj => ?_⟩
    have hjn : j < n := by
      rcases Nat.lt_or_ge j n with h | h
      · exact h
      · exact absurd hj (tail_waits hs hc hn inv _ i rfl hin hun j h)
    refine ⟨hjn, ?_⟩
    by_cases hji : j = i
    · subst hji; exact hy.qOp hi H
    · have := hdone _ _ H j (ready_mono hj hji)
      omega
  | succ f ih =>
    intro listed a inv hfree hr hy H
    have hun := (mem_ready.1 hr).1
    refine ⟨fun h => (by rw [h] at hr; cases hr), fun j hj => ?_⟩
    have hjn : j < n := by
      rcases Nat.lt_or_ge j n with h | h
      · exact h
      · exact absurd hj (tail_waits hs hc hn inv _ i rfl hin hun j h)
    refine ⟨hjn, ?_⟩
    by_cases hji : j = i
    · subst hji; exact hy.qOp hi H
    · have h1 := (H.2 j (ready_mono hj hji)).2
      obtain ⟨hjun, oj, hoj, hall⟩ := mem_ready.1 hj
      have hnot : ∀ e ∈ oj.after, Region.binds md e = true → e.on ≠ i := fun e he hb heq => by
        have h1 := hall e he hb
        rw [heq, getD_both hun] at h1
        cases h1
      have h2 := qOp_put hoj (hfree j oj hoj hji hjun hnot) (fun cs b => hsel i oi cs b hi) (fun cs b => hsel j oj cs b hoj) hy h1
      have hfree' : ∀ k ok, ops[k]? = some ok → k ≠ i → (listed.setIfInBounds j true).getD k true = false →
          (∀ e ∈ ok.after, Region.binds md e = true → e.on ≠ i) → oi.apart ops ok = true := fun k ok hk hki hun hno => by
        refine hfree k ok hk hki ?_ hno
        by_cases hjk : j = k
        · subst hjk; exact hjun
        · rw [getD_set_ne true hjk] at hun; exact hun
      refine qOp_mono (fun a' h3 => ih (listed.setIfInBounds j true) a' (inv.set hj hjn) hfree' (ready_mono hr (Ne.symm hji)) h3.1 ?_) h2
      rw [Array.setIfInBounds_comm _ _ hji]
      exact h3.2

theorem head_lex {n g : Nat} {Lq : Act → Prop} (hsel : Region.noSelect ops = true) (hs : Region.sinkB md ops n = true) (hc : Region.chainB md ops n = true) (hn : n < ops.size) :
    ∀ (l : List Oper) (k : Nat) (listed : Array Bool) (a : Act), (∀ j, j < l.length → l[j]? = ops[k + j]?) → k + l.length = n → HeadInv md ops n listed →
    Region.lexHead md ops g l.length k listed = true → wpQuiet P ops C Lq l a →
    AnyHead P md ops C n (fun listed' a' => Region.seqB md ops g n listed' = true ∧ Lq a') l.length listed a
  | [], k, listed, a, _, hk, _, hB, h => by
    have : k = n := by simpa using hk
    subst this
    exact ⟨by simpa [Region.lexHead] using hB, h⟩
  | o :: l, k, listed, a, hl, hk, inv, hB, h => by
    have h0 : ops[k]? = some o := by simpa using (hl 0 (by simp)).symm
    simp only [List.length_cons, Region.lexHead, Bool.and_eq_true] at hB
    obtain ⟨⟨hr, hf⟩, hB'⟩ := hB
    have hkn : k < n := by simp only [List.length_cons] at hk; omega
    have hr' : k ∈ Region.ready md ops listed := by simpa using hr
    have hst : qOp P ops C k (wpQuiet P ops C Lq l) a := by unfold qOp; simp only [h0]; exact h
    obtain ⟨v, hy, hK⟩ := yieldsIn_of_qOp h0 hst
    exact head_first h0 (Region.noSelect_spec hsel) hs hc hn hkn (fun listed' a' hL => seqB_ready hL.1) l.length listed a inv (Region.free_spec h0 hf) hr' hy
      (head_lex hsel hs hc hn l (k + 1) _ _ (fun j hj => by have := hl (j + 1) (by simp; omega); simpa [Nat.add_assoc, Nat.add_comm 1 j] using this) (by simp only [List.length_cons] at hk; omega) (inv.set hr' hkn) hB' hK)

/-- The first n operations quietly within C, in the order of the text; the others one behind the other. -/
theorem wp_region_qtail {id : Nat} {Q : Exit → Act → World → Prop} {a : Act} {w : World} {l : List Oper} (n : Nat) (hm : P.follows .mixedOrders = true) (hB : Region.lexTailB .any l.toArray n = true) (hC : C { w with drawn := w.drawn + 1 })
    (h : wpQuiet P l.toArray C (fun a' => ∀ w', C w' → wpList P l.toArray Q (l.drop n) a' w') (l.take n) a) : (Code.region id l.toArray true).wp P Q a w := by
  simp only [Region.lexTailB, Bool.and_eq_true, decide_eq_true_eq] at hB
  obtain ⟨⟨⟨⟨hsel, hn⟩, hs⟩, hc⟩, hlex⟩ := hB
  have hn' : n < l.length := by simpa using hn
  have htl : (l.take n).length = n := by simp; omega
  have hdl : (l.drop n).length = l.toArray.size - n := by simp
  have inv0 : HeadInv .any l.toArray n (Array.replicate l.toArray.size false) :=
    ⟨by simp, fun j oj _ hl => (by rw [getD_replicate_false] at hl; cases hl), fun t _ ht => getD_in (by simpa using ht) (getD_replicate_false _ _)⟩
  have H := head_lex (md := .any) (g := l.toArray.size - n) hsel hs hc hn (l.take n) 0 _ a (fun j hj => by
    have hj' : j < n := by rw [htl] at hj; exact hj
    simp [hj']) (by simpa using htl) inv0 (by rw [htl]; exact hlex) h
  refine wp_region_any hm ?_
  have := any_of_head (Q' := Q) (g := l.toArray.size - n) (fun listed a' w' hw' hL => by
    have := wpAny_of_seq (md := .any) (Q' := Q) (l.drop n) n listed a' w' (fun j => by simp [List.getElem?_drop]) (by rw [hdl]; exact hL.1) (hL.2 w' hw')
    rwa [hdl] at this) _ _ _ _ hC H
  rw [htl, show n + (l.toArray.size - n) = l.toArray.size by omega] at this
  exact this

/-- The same at the class 'w with draws and with blocks laid behind it'. -/
theorem wp_region_btail {id : Nat} {Q : Exit → Act → World → Prop} {a : Act} {w : World} {l : List Oper} (n : Nat) (hm : P.follows .mixedOrders = true) (hB : Region.lexTailB .any l.toArray n = true)
    (h : wpQuiet P l.toArray (fun w' => ∃ p : Regrown, w' = grow (redrawn w p.d) p.os) (fun a' => ∀ w', (∃ p : Regrown, w' = grow (redrawn w p.d) p.os) → wpList P l.toArray Q (l.drop n) a' w') (l.take n) a) : (Code.region id l.toArray true).wp P Q a w :=
  wp_region_qtail (C := fun w' => ∃ p : Regrown, w' = grow (redrawn w p.d) p.os) n hm hB ⟨⟨w.drawn + 1, #[]⟩, by rw [grow_empty]; rfl⟩ h
/-- The first n operations stand still in the drawn world; the others one behind the other. -/
theorem wp_region_stail {id : Nat} {Q : Exit → Act → World → Prop} {a : Act} {w : World} {l : List Oper} (n : Nat) (hm : P.follows .mixedOrders = true) (hB : Region.lexTailB .any l.toArray n = true)
    (h : wpStill P l.toArray w.drew (fun a' => wpList P l.toArray Q (l.drop n) a' w.drew) (l.take n) a) : (Code.region id l.toArray true).wp P Q a w :=
  wp_region_still_tail n hm hB h
theorem Only.regrown (S : List Nat) (w : World) (d : Nat) (os : Array Obj) : Only S w (grow (redrawn w d) os) := Only.of_below (below_regrown w d os) (Nat.le_refl _)
theorem Calls.regrown_only {f : FuncId} {args : Array Value} {w : World} {d : Nat} {os : Array Obj} {v : Value}
    (h : Calls P f args (grow (redrawn w d) os) fun e w' => e = .returned v ∧ Only [] (grow (redrawn w d) os) w') : Calls P f args (grow (redrawn w d) os) fun e w'' => e = .returned v ∧ ∃ p : Regrown, w'' = grow (redrawn w p.d) p.os :=
  Calls.regrown_of (h.mono fun _ _ ⟨h1, h2⟩ => ⟨h1, h2.toBelow⟩)
end
end Go.Proofs.YthjgplgfcbhihaaGreat
