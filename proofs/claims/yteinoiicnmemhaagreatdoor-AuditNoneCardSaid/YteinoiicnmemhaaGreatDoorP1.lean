/- Proved here: contracts of functions and plain laws, part 1 of one proof. Conditions: each theorem names its own. -/
import Derived.WalkKit
import Derived.WalkSpells
import Derived.WalkLawsBesides
import Derived.Maps.Own
import Derived.Maps.OwnOps
import Derived.Maps.OwnSet
import Derived.Maps.RangeWalk
import Derived.Lib.Hide
import Derived.Laws.AppendOwn
import Derived.Lib.ItoaMem
import Derived.Test.YteinoiicnmemhaaGreatDoorProg
import Derived.RegionTactic
import Derived.ChangeAlike
import Derived.Deep.MidRow
import Derived.Deep.WholeRow
import Derived.StillTail
import Derived.Deep.QuietTactic
import Derived.BigQuiet
import Derived.Lib.QuietBelow
import Derived.BigFrame
import Derived.Deep.Quiet
import Derived.Deep.RegionHeld3
import Derived.StillTailTactics
import Derived.ProofKit
import Derived.OpenShut
import Derived.ChangeMaps5
import Derived.SliceStrings
import Derived.Deep.Slices
import Derived.ChangeArms
import Derived.DataReads
import Derived.Deep.AppendLies
import Derived.Lib.AppendZeros
/- Plain laws on worlds, used by all proofs of this seat: blocks known whole, which blocks a call may change, maps with typed keys as association lists, iterators over them. No program is named. -/
set_option linter.unusedVariables false
set_option linter.unusedSimpArgs false
namespace Go.Proofs.YteinoiicnmemhaaGreatDoor
open Go.RowKit Go.MapKept Go.ChangeMaps

/-! ## blocks -/
/-- Block g is just these cells of type t, none frozen. -/
def Blk (w : World) (g : Nat) (t : TypeId) (cs : Array Value) : Prop := w.heap[g]? = some (.cells cs t (0, 0))

section
variable {w w' : World} {g : Nat} {t : TypeId} {cs : Array Value}
theorem Blk.lt (h : Blk w g t cs) : g < w.heap.size := lt_of_block h
theorem Blk.cell (h : Blk w g t cs) (i : Nat) : w.cell? ⟨g, i, none⟩ = cs[i]? := cell_of_row w g i cs t (0, 0) h
theorem Blk.free (h : Blk w g t cs) (i : Nat) : w.frozen? ⟨g, i, none⟩ = false := frozen_of_row w g i cs t h
theorem Blk.new (w : World) (t : TypeId) (cs : Array Value) : Blk (w.alloc (.cells cs t)) w.heap.size t cs := heap_alloc_new w _
theorem Blk.set (h : Blk w g t cs) (i : Nat) (u : Value) : Blk (w.setCell ⟨g, i, none⟩ u) g t (cs.setIfInBounds i u) := heap_setCell_same w g i cs t u h
theorem Blk.of_eq (h : Blk w g t cs) (e : w'.heap[g]? = w.heap[g]?) : Blk w' g t cs := e.trans h
theorem Blk.other {g' : Nat} {t' : TypeId} {cs' : Array Value} (h : Blk w g t cs) (h' : Blk w g' t' cs') (ht : t ≠ t') : g ≠ g' := by
  intro e
  subst e
  unfold Blk at h h'
  rw [h] at h'
  simp at h'
  exact ht h'.2
theorem Blk.not_map {b : Nat} {es : Array MapEntry} {clock : Nat} (h : Blk w g t cs) (hb : w.heap[b]? = some (.map es clock)) : g ≠ b := by
  intro e
  subst e
  unfold Blk at h
  rw [h] at hb
  simp at hb
end

/-! ## what a call may have changed -/
/-- Of what was there at w only the blocks in S may have turned in w'. -/
structure Only (S : List Nat) (w w' : World) : Prop where
  os : w'.os = w.os
  tape : w'.tape = w.tape
  output : w'.output = w.output
  size : w.heap.size ≤ w'.heap.size
  block : ∀ k, k < w.heap.size → k ∉ S → w'.heap[k]? = w.heap[k]?

section
variable {S S' : List Nat} {a w w' : World}
theorem Only.refl (S : List Nat) (w : World) : Only S w w := ⟨rfl, rfl, rfl, Nat.le_refl _, fun _ _ _ => rfl⟩
theorem Only.trans (h : Only S a w) (k : Only S w w') : Only S a w' :=
  ⟨k.os.trans h.os, k.tape.trans h.tape, k.output.trans h.output, Nat.le_trans h.size k.size, fun i hi hn => (k.block i (Nat.lt_of_lt_of_le hi h.size) hn).trans (h.block i hi hn)⟩
theorem Only.mono (h : Only S a w) (hs : ∀ k, k ∈ S → k ∈ S') : Only S' a w := ⟨h.os, h.tape, h.output, h.size, fun i hi hn => h.block i hi (fun e => hn (hs i e))⟩
theorem Only.of_nil (h : Only [] a w) : Only S a w := h.mono (fun _ e => by cases e)
/-- A step behind: it may turn blocks in S, or blocks that are new since a. -/
theorem Only.step (h : Only S a w) (k : Only S' w w') (hs : ∀ i, i ∈ S' → i ∈ S ∨ a.heap.size ≤ i) : Only S a w' :=
  ⟨k.os.trans h.os, k.tape.trans h.tape, k.output.trans h.output, Nat.le_trans h.size k.size, fun i hi hn =>
    (k.block i (Nat.lt_of_lt_of_le hi h.size) (fun e => (hs i e).elim hn (fun e => absurd hi (by omega)))).trans (h.block i hi hn)⟩
theorem Only.alloc (h : Only S a w) (o : Obj) : Only S a (w.alloc o) :=
  h.trans ⟨rfl, rfl, rfl, by simp, fun k hk _ => Below.heap_alloc _ _ _ hk⟩
theorem Only.setCell (h : Only S a w) {p : Addr} (hp : p.block ∈ S ∨ a.heap.size ≤ p.block) (u : Value) : Only S a (w.setCell p u) :=
  h.step (S' := [p.block]) ⟨rfl, rfl, rfl, by simp [World.setCell], fun k _ hn => Below.heap_setCell _ _ _ _ (by simpa using hn)⟩ (fun i hi => by simp at hi; subst hi; exact hp)
theorem Only.drew (h : Only S a w) : Only S a w.drew := ⟨h.os, h.tape, h.output, h.size, h.block⟩
theorem Only.drewN (h : Only S a w) (n : Nat) : Only S a (w.drewN n) := ⟨h.os, h.tape, h.output, h.size, h.block⟩
theorem Only.setBlock (h : Only S a w) {b : Nat} (hb : b ∈ S ∨ a.heap.size ≤ b) (o : Obj) : Only S a (setBlock w b o) :=
  h.step (S' := [b]) ⟨rfl, rfl, rfl, by simp [Go.ChangeMaps.setBlock], fun k _ hn => by
    simp only [Go.ChangeMaps.setBlock, Array.getElem?_setIfInBounds]
    rw [if_neg (by intro e; exact hn (by simp [e]))]⟩ (fun i hi => by simp at hi; subst hi; exact hb)
theorem Only.grown (h : Only S a w) {row : Option Nat} (hg : w.grownBy w' row) (hr : ∀ k, row = some k → k ∈ S ∨ a.heap.size ≤ k) : Only S a w' :=
  h.step (S' := row.toList) ⟨hg.os, hg.tape, hg.output, hg.size, fun k hk hn => hg.block k hk (fun e => hn (by rw [← e]; simp))⟩ (fun i hi => hr i (by simpa using hi))
theorem Only.below (h : Only S a w) {B : Nat} (hb : Below B w w') (hB : w.heap.size ≤ B) : Only S a w' :=
  h.trans ⟨hb.os, hb.tape, hb.output, hb.size, fun k hk _ => hb.block k (by omega)⟩
theorem Only.of_below {B : Nat} (hb : Below B w w') (hB : w.heap.size ≤ B) : Only S w w' := (Only.refl S w).below hb hB
theorem Only.toBelow (h : Only [] a w) : Below a.heap.size a w := ⟨h.os, h.tape, h.output, h.size, fun k hk => h.block k hk (by simp)⟩
theorem Only.cell (h : Only S a w) {p : Addr} (hp : p.block < a.heap.size) (hn : p.block ∉ S) : w.cell? p = a.cell? p := World.cell?_of_block (h.block p.block hp hn)
theorem Only.frozen (h : Only S a w) {p : Addr} (hp : p.block < a.heap.size) (hn : p.block ∉ S) : w.frozen? p = a.frozen? p := World.frozen?_of_block (h.block p.block hp hn)
theorem Only.blk (h : Only S a w) {g : Nat} {t : TypeId} {cs : Array Value} (hg : Blk a g t cs) (hn : g ∉ S) : Blk w g t cs := hg.of_eq (h.block g hg.lt hn)
end

/-! ## association lists -/
section
variable {κ ν : Type} [DecidableEq κ]
def aget : List (κ × ν) → κ → Option ν
  | [], _ => none
  | (a, b) :: l, k => if a = k then some b else aget l k
def aput : List (κ × ν) → κ → ν → List (κ × ν)
  | [], k, v => [(k, v)]
  | (a, b) :: l, k, v => if a = k then (k, v) :: l else (a, b) :: aput l k v
def adel : List (κ × ν) → κ → List (κ × ν)
  | [], _ => []
  | (a, b) :: l, k => if a = k then l else (a, b) :: adel l k
/-- No key stands twice. -/
def ANodup (l : List (κ × ν)) : Prop := (l.map (·.1)).Nodup

theorem aget_none {l : List (κ × ν)} {k : κ} : aget l k = none ↔ k ∉ l.map (·.1) := by
  induction l with
  | nil => simp [aget]
  | cons p l ih =>
    obtain ⟨a, b⟩ := p
    simp only [aget]
    split
    · rename_i h; subst h; simp
    · rename_i h; rw [ih]; simp only [List.map_cons, List.mem_cons, not_or]; exact ⟨fun x => ⟨fun e => h e.symm, x⟩, fun x => x.2⟩
theorem aget_mem {l : List (κ × ν)} {k : κ} {v : ν} (h : aget l k = some v) : (k, v) ∈ l := by
  induction l with
  | nil => simp [aget] at h
  | cons p l ih =>
    obtain ⟨a, b⟩ := p
    simp only [aget] at h
    split at h
    · rename_i e; subst e; cases h; simp
    · exact List.mem_cons_of_mem _ (ih h)
theorem aget_of_mem {l : List (κ × ν)} (hn : ANodup l) {k : κ} {v : ν} (h : (k, v) ∈ l) : aget l k = some v := by
  induction l with
  | nil => simp at h
  | cons p l ih =>
    obtain ⟨a, b⟩ := p
    simp only [ANodup, List.map_cons, List.nodup_cons] at hn
    simp only [List.mem_cons, Prod.mk.injEq] at h
    simp only [aget]
    rcases h with ⟨rfl, rfl⟩ | h
    · simp
    · rw [if_neg, ih hn.2 h]
      intro e; subst e
      exact hn.1 (List.mem_map.2 ⟨_, h, rfl⟩)
theorem aput_keys (l : List (κ × ν)) (k : κ) (v : ν) : (aput l k v).map (·.1) = if k ∈ l.map (·.1) then l.map (·.1) else l.map (·.1) ++ [k] := by
  induction l with
  | nil => simp [aput]
  | cons p l ih =>
    obtain ⟨a, b⟩ := p
    simp only [aput]
    by_cases h : a = k
    · subst h; simp
    · have h' : ¬ k = a := fun e => h e.symm
      rw [if_neg h]
      simp only [List.map_cons, ih, List.mem_cons, h', false_or]
      split <;> simp
theorem aput_nodup {l : List (κ × ν)} (h : ANodup l) (k : κ) (v : ν) : ANodup (aput l k v) := by
  unfold ANodup at *
  rw [aput_keys]
  split
  · exact h
  · rename_i hk
    refine List.nodup_append.2 ⟨h, by simp, ?_⟩
    intro a ha b hb
    simp at hb
    subst hb
    intro e
    subst e
    exact hk ha
theorem adel_sublist (l : List (κ × ν)) (k : κ) : (adel l k).Sublist l := by
  induction l with
  | nil => exact List.Sublist.refl _
  | cons p l ih =>
    obtain ⟨a, b⟩ := p
    simp only [adel]
    split
    · exact List.sublist_cons_self _ _
    · exact ih.cons_cons _
theorem adel_nodup {l : List (κ × ν)} (h : ANodup l) (k : κ) : ANodup (adel l k) := List.Nodup.sublist ((adel_sublist l k).map _) h
theorem aget_aput (l : List (κ × ν)) (k q : κ) (v : ν) : aget (aput l k v) q = if k = q then some v else aget l q := by
  induction l with
  | nil => simp [aput, aget]
  | cons p l ih =>
    obtain ⟨a, b⟩ := p
    simp only [aput]
    by_cases h : a = k
    · subst h
      simp only [if_true, aget]
      split <;> simp_all
    · rw [if_neg h]
      simp only [aget, ih]
      by_cases h2 : a = q
      · subst h2; simp; intro e; exact absurd e.symm h
      · simp [h2]
theorem aget_adel {l : List (κ × ν)} (hn : ANodup l) (k q : κ) : aget (adel l k) q = if k = q then none else aget l q := by
  induction l with
  | nil => simp [adel, aget]
  | cons p l ih =>
    obtain ⟨a, b⟩ := p
    simp only [ANodup, List.map_cons, List.nodup_cons] at hn
    simp only [adel]
    by_cases h : a = k
    · subst h
      simp only [if_true, aget]
      split
      · rename_i e; subst e; exact aget_none.2 hn.1
      · rfl
    · rw [if_neg h]
      simp only [aget, ih hn.2]
      by_cases h2 : a = q
      · subst h2; simp; intro e; exact absurd e.symm h
      · simp [h2]
theorem length_aput (l : List (κ × ν)) (k : κ) (v : ν) : (aput l k v).length = if (aget l k).isSome then l.length else l.length + 1 := by
  induction l with
  | nil => simp [aput, aget]
  | cons p l ih =>
    obtain ⟨a, b⟩ := p
    simp only [aput, aget]
    by_cases h : a = k
    · simp [h]
    · simp only [if_neg h, List.length_cons, ih]; split <;> rfl
theorem length_adel (l : List (κ × ν)) (k : κ) : (adel l k).length = if (aget l k).isSome then l.length - 1 else l.length := by
  induction l with
  | nil => simp [adel, aget]
  | cons p l ih =>
    obtain ⟨a, b⟩ := p
    simp only [adel, aget]
    by_cases h : a = k
    · simp [h]
    · simp only [if_neg h, List.length_cons, ih]
      split
      · rename_i hs
        have : 0 < l.length := by
          cases l with
          | nil => simp [aget] at hs
          | cons => simp
        omega
      · rfl
theorem aput_map {μ : Type} (f : ν → μ) (l : List (κ × ν)) (k : κ) (v : ν) : (aput l k v).map (fun p => (p.1, f p.2)) = aput (l.map fun p => (p.1, f p.2)) k (f v) := by
  induction l with
  | nil => simp [aput]
  | cons p l ih => obtain ⟨a, b⟩ := p; simp only [aput, List.map_cons]; split <;> simp [ih]
theorem adel_map {μ : Type} (f : ν → μ) (l : List (κ × ν)) (k : κ) : (adel l k).map (fun p => (p.1, f p.2)) = adel (l.map fun p => (p.1, f p.2)) k := by
  induction l with
  | nil => simp [adel]
  | cons p l ih => obtain ⟨a, b⟩ := p; simp only [adel, List.map_cons]; split <;> simp [ih]
theorem aget_map {μ : Type} (f : ν → μ) (l : List (κ × ν)) (k : κ) : aget (l.map fun p => (p.1, f p.2)) k = (aget l k).map f := by
  induction l with
  | nil => simp [aget]
  | cons p l ih => obtain ⟨a, b⟩ := p; simp only [aget, List.map_cons]; split <;> simp [ih]
end

theorem map_eraseIdx' {α β : Type} (f : α → β) : ∀ (l : List α) (i : Nat), (l.eraseIdx i).map f = (l.map f).eraseIdx i
  | [], _ => rfl
  | _ :: _, 0 => rfl
  | a :: l, i + 1 => by simp [map_eraseIdx' f l i]

/-! ## maps -/
/-- How a key of Go lies as a value. -/
structure KeyEnc {κ : Type} (d : TypeDesc) (enc : κ → Value) : Prop where
  key : ∀ a, IsKey d (enc a)
  inj : ∀ a b, enc a = enc b → a = b

theorem keyEnc_string : KeyEnc .string Value.string := ⟨fun _ => trivial, fun _ _ h => by injection h⟩
theorem keyEnc_int (q : IntKind) : KeyEnc (.int q) (Value.int q) := ⟨fun _ => rfl, fun _ _ h => by injection h⟩
theorem KeyEnc.same {κ : Type} [DecidableEq κ] {d : TypeDesc} {enc : κ → Value} (K : KeyEnc d enc) (a b : κ) : Instr.sameNow d (enc a) (enc b) = some (decide (a = b)) := by
  obtain ⟨r, hr, hi⟩ := sameNow_of_keys (K.key a) (K.key b)
  rw [hr]
  by_cases h : a = b
  · subst h; simp [hi]
  · have : r = false := by
      cases r with
      | false => rfl
      | true => exact absurd (K.inj _ _ (hi.1 rfl)) h
    simp [this, h]

set_option linter.unusedSectionVars false
section
variable {κ : Type} [DecidableEq κ]
/-- Block b is a map that holds just these, in this order of coming. -/
def MapIs (enc : κ → Value) (w : World) (b : Nat) (kv : List (κ × Value)) : Prop :=
  ∃ es clock, w.heap[b]? = some (.map es clock) ∧ Stamped es clock ∧ es.toList.map (fun x => (x.key, x.val)) = kv.map (fun p => (enc p.1, p.2))

variable {enc : κ → Value} {w w' : World} {b : Nat} {kv : List (κ × Value)}
theorem MapIs.of_eq (h : MapIs enc w b kv) (e : w'.heap[b]? = w.heap[b]?) : MapIs enc w' b kv := by
  obtain ⟨es, clock, h1, h2⟩ := h
  exact ⟨es, clock, e.trans h1, h2⟩
theorem MapIs.lt (h : MapIs enc w b kv) : b < w.heap.size := by
  obtain ⟨es, clock, h1, _⟩ := h
  exact lt_of_block h1
theorem MapIs.only {S : List Nat} (h : MapIs enc w b kv) (k : Only S w w') (hn : b ∉ S) : MapIs enc w' b kv := h.of_eq (k.block b h.lt hn)
theorem MapIs.alloc (h : MapIs enc w b kv) (o : Obj) : MapIs enc (w.alloc o) b kv := h.of_eq (Below.heap_alloc _ _ _ h.lt)
theorem MapIs.drew (h : MapIs enc w b kv) : MapIs enc w.drew b kv := h
theorem MapIs.ne_blk {g : Nat} {t : TypeId} {cs : Array Value} (h : MapIs enc w b kv) (hg : Blk w g t cs) : b ≠ g := by
  obtain ⟨es, clock, h1, _⟩ := h
  exact fun e => hg.not_map h1 e.symm
theorem MapIs.setCell (h : MapIs enc w b kv) {p : Addr} (hp : b ≠ p.block) (u : Value) : MapIs enc (w.setCell p u) b kv := h.of_eq (Below.heap_setCell _ _ _ _ hp)
/-- A store into a cell that is there does not turn a map. -/
theorem MapIs.new (enc : κ → Value) (w : World) : MapIs enc (w.alloc (.map #[] 0)) w.heap.size [] := ⟨#[], 0, heap_alloc_new w _, stamped_empty 0, rfl⟩

theorem findNow_enc {d : TypeDesc} (K : KeyEnc d enc) (k : κ) : ∀ (es : List MapEntry) (kv : List (κ × Value)) (i : Nat), es.map (fun x => (x.key, x.val)) = kv.map (fun p => (enc p.1, p.2)) →
    (Instr.findNow d (enc k) es i = some none ∧ aget kv k = none ∧ (∀ x ∈ es, x.key ≠ enc k) ∧ (∀ v, aput kv k v = kv ++ [(k, v)]) ∧ adel kv k = kv) ∨
    ∃ j e v, Instr.findNow d (enc k) es i = some (some (i + j, v)) ∧ es[j]? = some e ∧ e.key = enc k ∧ e.val = v ∧ kv[j]? = some (k, v) ∧ aget kv k = some v ∧ (∀ v, aput kv k v = kv.set j (k, v)) ∧ adel kv k = kv.eraseIdx j
  | [], [], _, _ => .inl ⟨rfl, rfl, by simp, fun _ => rfl, rfl⟩
  | [], _ :: _, _, h => by simp at h
  | _ :: _, [], _, h => by simp at h
  | e :: es, (a, v) :: kv, i, h => by
    simp only [List.map_cons, List.cons.injEq, Prod.mk.injEq] at h
    obtain ⟨⟨h1, h2⟩, h3⟩ := h
    have hs := K.same k a
    rw [← h1] at hs
    by_cases hk : a = k
    · subst hk
      refine .inr ⟨0, e, v, ?_, rfl, h1, h2, rfl, by simp [aget], fun _ => by simp [aput], by simp [adel]⟩
      simp [Instr.findNow, hs, h2]
    · have hk' : ¬ k = a := fun e => hk e.symm
      have hs' : Instr.sameNow d (enc k) e.key = some false := by simp [hs, hk']
      have hne : e.key ≠ enc k := by
        intro q
        have := K.same k k
        rw [q] at hs'
        rw [hs'] at this
        simp at this
      rcases findNow_enc K k es kv (i + 1) h3 with ⟨p1, p2, p3, p4, p5⟩ | ⟨j, e', v', p1, p2, p3, p4, p5, p6, p7, p8⟩
      · refine .inl ⟨by simp [Instr.findNow, hs', p1], by simp [aget, hk, p2], ?_, fun u => by simp [aput, hk, p4], by simp [adel, hk, p5]⟩
        intro x hx
        cases hx with
        | head => exact hne
        | tail _ hx => exact p3 x hx
      · refine .inr ⟨j + 1, e', v', by simp [Instr.findNow, hs', p1]; omega, by simpa using p2, p3, p4, by simpa using p5, by simp [aget, hk, p6], fun u => by simp [aput, hk, p7], by simp [adel, hk, p8]⟩

variable {P : Program} {t k e : TypeId} {d : TypeDesc}
theorem MapIs.nodup (h : MapIs enc w b kv) : ANodup kv := by
  obtain ⟨es, clock, _, ⟨_, _, h3⟩, h4⟩ := h
  have e1 : es.toList.map (·.key) = (kv.map (·.1)).map enc := by
    have := congrArg (List.map Prod.fst) h4
    simpa [List.map_map, Function.comp_def] using this
  rw [e1] at h3
  unfold ANodup
  generalize kv.map (·.1) = l at h3
  induction l with
  | nil => simp
  | cons a l ih =>
    simp only [List.map_cons, List.nodup_cons] at h3
    exact List.nodup_cons.2 ⟨fun hm => h3.1 (List.mem_map.2 ⟨a, hm, rfl⟩), ih h3.2⟩

theorem MapIs.lookup (K : KeyEnc d enc) (ht : P.underlying t = some (.map k e)) (hk : P.underlying k = some d) {z : Value} (hz : (zeroValue e).run P w = .ok z w) (h : MapIs enc w b kv) (q : κ) (ok : Bool) :
    (Instr.lookup t (.map (some b)) (enc q) ok).run P w = .ok (if ok then .tuple #[(aget kv q).getD z, .bool (aget kv q).isSome] else (aget kv q).getD z) w := by
  obtain ⟨es, clock, hb, hs, hm⟩ := h
  rcases findNow_enc K q es.toList kv 0 hm with ⟨p1, p2, _⟩ | ⟨j, e', v, p1, _, _, _, _, p6, _⟩
  · cases ok <;> simp [Instr.lookup, run_underlying ht, MapKept.run_getObj_map hb, MapKept.run_checkKey hk (K.key q), MapKept.run_findKey hk p1, hz, p2, Result.andThen]
  · cases ok <;> simp [Instr.lookup, run_underlying ht, MapKept.run_getObj_map hb, MapKept.run_checkKey hk (K.key q), MapKept.run_findKey hk p1, p6, Result.andThen]

theorem MapIs.update (K : KeyEnc d enc) (ht : P.underlying t = some (.map k e)) (hk : P.underlying k = some d) (h : MapIs enc w b kv) (q : κ) (v : Value) :
    ∃ o, (Instr.mapUpdate t (.map (some b)) (enc q) v).run P w = .ok () (setBlock w b o) ∧ MapIs enc (setBlock w b o) b (aput kv q v) := by
  obtain ⟨es, clock, hb, hs, hm⟩ := h
  rcases findNow_enc K q es.toList kv 0 hm with ⟨p1, p2, p3, p4, _⟩ | ⟨j, e', v0, p1, p2, p3, p4, p5, _, p7, _⟩
  · refine ⟨.map (es.push { key := enc q, val := v, born := clock }) (clock + 1), ?_, _, _, heap_setBlock_same hb _, stamped_push hs p3, ?_⟩
    · simp [Instr.mapUpdate, run_underlying ht, MapKept.run_getObj_map hb, MapKept.run_checkKey hk (K.key q), MapKept.run_findKey hk p1, MapKept.run_setObj_map _ hb, Result.andThen, Go.ChangeMaps.setBlock]
    · rw [p4]; simp [hm]
  · have hj : es[j]? = some e' := by simpa using p2
    have hkey : ∀ x, es[j]? = some x → ({ x with key := enc q, val := v } : MapEntry).key = x.key := fun x hx => by rw [hj] at hx; cases hx; exact p3.symm
    refine ⟨.map (es.modify j fun x => { x with key := enc q, val := v }) clock, ?_, _, _, heap_setBlock_same hb _, stamped_modify hs j _ (fun _ _ => rfl) (fun x _ hx => hkey x hx), ?_⟩
    · simp [Instr.mapUpdate, run_underlying ht, MapKept.run_getObj_map hb, MapKept.run_checkKey hk (K.key q), MapKept.run_findKey hk p1, hj, p3, MapKept.run_keyThatStays (K.key q), MapKept.run_setObj_map _ hb, Result.andThen, Go.ChangeMaps.setBlock]
    · rw [p7]
      apply List.ext_getElem?
      intro i
      have hm' := congrArg (fun l => l[i]?) hm
      simp only [List.getElem?_map] at hm'
      simp only [List.getElem?_map, Array.getElem?_toList, Array.getElem?_modify, List.getElem?_set]
      by_cases e : j = i
      · subst e
        have hl : j < kv.length := (List.getElem?_eq_some_iff.1 p5).1
        simp [hj, hl]
      · rw [if_neg e, if_neg e]
        simpa using hm'

theorem MapIs.delete (K : KeyEnc d enc) (ht : P.underlying t = some (.map k e)) (hk : P.underlying k = some d) (h : MapIs enc w b kv) (q : κ) (ty : TypeId) :
    ∃ o, (Builtin.delete_ #[t, k] ty #[.map (some b), enc q]).run P w = .ok (.tuple #[]) (setBlock w b o) ∧ MapIs enc (setBlock w b o) b (adel kv q) := by
  obtain ⟨es, clock, hb, hs, hm⟩ := h
  rcases findNow_enc K q es.toList kv 0 hm with ⟨p1, _, _, _, p5⟩ | ⟨j, e', v0, p1, p2, _, _, _, _, _, p8⟩
  · refine ⟨.map es clock, ?_, _, _, heap_setBlock_same hb _, hs, ?_⟩
    · simp [Builtin.delete_, run_underlying ht, MapKept.run_getObj_map hb, MapKept.run_checkKey hk (K.key q), MapKept.run_findKey hk p1, MapKept.run_setObj_map _ hb, Result.andThen, Go.ChangeMaps.setBlock]
    · rw [p5]; exact hm
  · refine ⟨.map (es.eraseIdxIfInBounds j) clock, ?_, _, _, heap_setBlock_same hb _, stamped_erase hs j, ?_⟩
    · simp [Builtin.delete_, run_underlying ht, MapKept.run_getObj_map hb, MapKept.run_checkKey hk (K.key q), MapKept.run_findKey hk p1, MapKept.run_setObj_map _ hb, Result.andThen, Go.ChangeMaps.setBlock]
    · have hl : j < es.size := by have := (List.getElem?_eq_some_iff.1 p2).1; simpa using this
      rw [p8, map_eraseIdx', ← hm, ← map_eraseIdx']
      simp [Array.eraseIdxIfInBounds, hl]

theorem MapIs.len (ht : P.underlying t = some (.map k e)) (h : MapIs enc w b kv) (ty : TypeId) :
    (Builtin.len_ #[t] ty #[.map (some b)]).run P w = .ok (.int .i64 kv.length) w := by
  obtain ⟨es, clock, hb, _, hm⟩ := h
  have hl := congrArg List.length hm
  simp at hl
  simp [Builtin.len_, run_underlying ht, MapKept.run_getObj_map hb, Result.andThen, goInt, hl]

/-! the laws at the operation -/
variable {ops : Array Oper} {rest : List Oper} {o : Oper} {a : Act} {Q : Exit → Act → World → Prop}
theorem wpList_lookup_is (hg : o.guard = none) {m x : Operand} (t : TypeId) (hop : o.op = .lookup t m x false) (K : KeyEnc d enc) (ht : P.underlying t = some (.map k e)) (hk : P.underlying k = some d) {z : Value}
    (hz : (zeroValue e).run P w = .ok z w) (q : κ) (hm : a.eval m = .map (some b)) (hx : a.eval x = enc q) (h : MapIs enc w b kv) (v : Value) (hv : (aget kv q).getD z = v)
    (hK : wpList P ops Q rest (a.put o.dst v) w) : wpList P ops Q (o :: rest) a w := by
  refine wpList_plain hg fun K' hK' => ?_
  unfold Oper.wp
  simp only [execOp, hop, hm, hx, h.lookup K ht hk hz q false, Sem.run_bind, Sem.run_pure, Result.andThen_ok, hv]
  exact hK' _ _ hK
theorem wpList_lookup_ok_is (hg : o.guard = none) {m x : Operand} (t : TypeId) (hop : o.op = .lookup t m x true) (K : KeyEnc d enc) (ht : P.underlying t = some (.map k e)) (hk : P.underlying k = some d) {z : Value}
    (hz : (zeroValue e).run P w = .ok z w) (q : κ) (hm : a.eval m = .map (some b)) (hx : a.eval x = enc q) (h : MapIs enc w b kv) (v : Value) (is : Bool) (hv : (aget kv q).getD z = v) (hi : (aget kv q).isSome = is)
    (hK : wpList P ops Q rest (a.put o.dst (.tuple #[v, .bool is])) w) : wpList P ops Q (o :: rest) a w := by
  refine wpList_plain hg fun K' hK' => ?_
  unfold Oper.wp
  simp only [execOp, hop, hm, hx, h.lookup K ht hk hz q true, Sem.run_bind, Sem.run_pure, Result.andThen_ok, hv, hi]
  exact hK' _ _ hK
theorem wpList_update_is (hg : o.guard = none) {m x v : Operand} (t : TypeId) (hop : o.op = .mapUpdate t m x v) (K : KeyEnc d enc) (ht : P.underlying t = some (.map k e)) (hk : P.underlying k = some d)
    (q : κ) (val : Value) (hm : a.eval m = .map (some b)) (hx : a.eval x = enc q) (hv : a.eval v = val) (h : MapIs enc w b kv)
    (hK : ∀ w', MapIs enc w' b (aput kv q val) → Only [b] w w' → wpList P ops Q rest (a.put o.dst undef) w') : wpList P ops Q (o :: rest) a w := by
  refine wpList_plain hg fun K' hK' => ?_
  obtain ⟨o', hrun, r1⟩ := h.update K ht hk q val
  unfold Oper.wp
  simp [execOp, hop, hm, hx, hv, hrun, Result.andThen]
  exact hK' _ _ (hK _ r1 ((Only.refl _ w).setBlock (.inl (by simp)) _))
theorem wpList_delete_is (hg : o.guard = none) {m x : Operand} (t k : TypeId) (hop : o.op = .call { callee := .builtin .delete, args := #[m, x], argTypes := #[t, k] }) (K : KeyEnc d enc) (ht : P.underlying t = some (.map k e)) (hk : P.underlying k = some d)
    (q : κ) (hm : a.eval m = .map (some b)) (hx : a.eval x = enc q) (h : MapIs enc w b kv)
    (hK : ∀ w', MapIs enc w' b (adel kv q) → Only [b] w w' → wpList P ops Q rest (a.put o.dst (.tuple #[])) w') : wpList P ops Q (o :: rest) a w := by
  refine wpList_plain hg fun K' hK' => ?_
  obtain ⟨o', hrun, r1⟩ := h.delete K ht hk q o.type
  unfold Oper.wp
  simp [execOp, hop, resolve, invoke, builtin, hm, hx, hrun, Result.andThen]
  exact hK' _ _ (hK _ r1 ((Only.refl _ w).setBlock (.inl (by simp)) _))
end

end Go.Proofs.YteinoiicnmemhaaGreatDoor
/- All streams as plain data: what each method of model.State answers and leaves, as functions on lists. No program is named. -/
set_option linter.unusedVariables false
set_option linter.unusedSimpArgs false
namespace Go.Proofs.YteinoiicnmemhaaGreatDoor
open Go.RowKit

structure EventR where
  id : Int
  type : ByteArray
  data : ByteArray
  value : Nat
structure MetaR where
  maxCount : Int
  maxAge : Int
  before : Int
deriving DecidableEq
structure Cmd where
  kind : Int
  time : Int
  stream : ByteArray
  expected : Int
  events : List EventR
  mt : MetaR
structure StoredR where
  ev : EventR
  stream : ByteArray
  version : Int
  position : Int
  time : Int
structure StreamR where
  places : List Int
  mt : MetaR
  floor : Int
  deleted : Bool
structure MS where
  all : List StoredR
  m : List (ByteArray × StreamR)
  done : Int
  now : Int
structure Ans where
  err : Int
  version : Int
  position : Int
  again : Bool
deriving DecidableEq
def MetaR.zero : MetaR := ⟨0, 0, 0⟩
def StreamR.zero : StreamR := ⟨[], MetaR.zero, 0, false⟩
def Ans.ok : Ans := ⟨0, 0, 0, false⟩
def EventR.cells (e : EventR) : List Value := [.int .i64 e.id, .string e.type, .string e.data, .float .f64 e.value]
def StoredR.cells (s : StoredR) : List Value := s.ev.cells ++ [.string s.stream, .int .i64 s.version, .int .i64 s.position, .int .i64 s.time]
def MetaR.cells (m : MetaR) : List Value := [.int .i64 m.maxCount, .int .i64 m.maxAge, .int .i64 m.before]
def StreamR.val (x : StreamR) (pv : Value) : Value := .agg #[pv, .int .i64 x.mt.maxCount, .int .i64 x.mt.maxAge, .int .i64 x.mt.before, .int .i64 x.floor, .bool x.deleted]
def Cmd.val (c : Cmd) (ev : Value) : Value := .agg #[.int .i64 c.kind, .int .i64 c.time, .string c.stream, .int .i64 c.expected, ev, .int .i64 c.mt.maxCount, .int .i64 c.mt.maxAge, .int .i64 c.mt.before]
def Ans.val (a : Ans) : Value := .agg #[.int .i64 a.err, .int .i64 a.version, .int .i64 a.position, .bool a.again]
def EventR.val (e : EventR) : Value := .agg #[.int .i64 e.id, .string e.type, .string e.data, .float .f64 e.value]
def MetaR.val (m : MetaR) : Value := .agg #[.int .i64 m.maxCount, .int .i64 m.maxAge, .int .i64 m.before]

/-! ## which commands may be -/
def okByte (b : UInt8) : Bool := !(decide ((b.toNat : Int) < 33) || decide (126 < (b.toNat : Int)) || decide ((b.toNat : Int) = 64))
def nameOk (s : ByteArray) : Bool := decide (1 ≤ s.size) && decide (s.size ≤ 60) && s.data.toList.all okByte
def within (n : Int) : Bool := decide (0 ≤ n) && decide (n ≤ 1099511627776)
def expects (n : Int) : Bool := within n || decide (n = -1) || decide (n = -2) || decide (n = -4)
def MetaR.ok (m : MetaR) : Bool := within m.maxCount && within m.maxAge && within m.before
def EventR.ok (e : EventR) : Bool := decide (1 ≤ e.id) && nameOk e.type && decide (e.data.size ≤ 200)
def eventsE (l : List EventR) : Int := if l.length = 0 then 1 else if 8 < l.length then 2 else if l.all EventR.ok then 0 else 1
def Cmd.spare (c : Cmd) : Bool :=
  (decide (c.kind ≠ 1 ∧ c.kind ≠ 2 ∧ c.kind ≠ 3) && decide (c.stream.toList ≠ [])) || (decide (c.kind ≠ 1 ∧ c.kind ≠ 3) && decide (c.expected ≠ 0)) ||
    (decide (c.kind ≠ 1) && decide (0 < c.events.length)) || (decide (c.kind ≠ 2) && decide (c.mt ≠ MetaR.zero))
def Cmd.check (c : Cmd) : Int :=
  if c.kind < 1 ∨ 5 < c.kind ∨ within c.time = false then 1
  else if c.kind ≤ 3 ∧ nameOk c.stream = false then 1
  else if c.kind = 1 ∧ eventsE c.events ≠ 0 then eventsE c.events
  else if (c.kind = 1 ∨ c.kind = 3) ∧ expects c.expected = false then 1
  else if c.kind = 2 ∧ c.mt.ok = false then 1
  else if c.spare then 1 else 0

/-! ## what is seen -/
def young (age now : Int) : List Int → Int
  | [] => 0
  | t :: l => if now - age < t then 0 else 1 + young age now l
def floorE (m : MetaR) (floor now : Int) (times : List Int) : Int :=
  let o1 := max (max floor 0) m.before
  let o2 := if 0 < m.maxCount then max o1 (times.length - m.maxCount) else o1
  let o3 := if 0 < m.maxAge then max o2 (young m.maxAge now times) else o2
  min o3 times.length
def timeAt (all : List StoredR) (p : Int) : Int := ((all[p.toNat]?).map (·.time)).getD 0
def idAt (all : List StoredR) (p : Int) : Int := ((all[p.toNat]?).map (·.ev.id)).getD 0
def times (all : List StoredR) (x : StreamR) : List Int := x.places.map (timeAt all)
namespace MS
def new : MS := ⟨[], [], 0, 0⟩
def find (s : MS) (n : ByteArray) : StreamR := (aget s.m n).getD StreamR.zero
def floorOf (s : MS) (x : StreamR) : Int := floorE x.mt x.floor s.now (times s.all x)
def put (s : MS) (n : ByteArray) (x : StreamR) : MS := { s with m := aput s.m n x }
def keep (s : MS) (n : ByteArray) (x : StreamR) : MS := s.put n { x with floor := s.floorOf x }
end MS
def expected (want count : Int) : Bool := if want = -2 then true else if want = -1 then decide (count = 0) else if want = -4 then decide (0 < count) else decide (want = count - 1)
def wrong (x : StreamR) : Ans := ⟨22, x.places.length - 1, 0, false⟩
def firstOf (all : List StoredR) (id : Int) : List Int → Int → Int
  | [], _ => -1
  | p :: l, k => if idAt all p = id then k else firstOf all id l (k + 1)
def MS.first (s : MS) (x : StreamR) (id : Int) : Int := firstOf s.all id x.places 0
def fitsAgain (c : Cmd) (v : Int) : Bool := decide (c.expected = -2) || decide (c.expected = -4) || (decide (c.expected = v - 1) && decide (0 < v)) || (decide (c.expected = -1) && decide (v = 0))
def sameIds (all : List StoredR) : List EventR → List Int → Bool
  | [], _ => true
  | _ :: _, [] => false
  | e :: l, p :: ps => decide (idAt all p = e.id) && sameIds all l ps
def MS.again (s : MS) (c : Cmd) (x : StreamR) (v : Int) : Ans :=
  if fitsAgain c v = false ∨ x.places.length - v < c.events.length then wrong x
  else if sameIds s.all c.events (x.places.drop v.toNat) then ⟨0, v, (x.places[(v + c.events.length - 1).toNat]?).getD 0, true⟩ else wrong x
def isNaN (b : Nat) : Bool := FloatKind.f64.format.order b b != some Ordering.eq
def canon (b : Nat) : Nat := if isNaN b then 9221120237041090560 else b
def EventR.canon (e : EventR) : EventR := { e with value := Proofs.YteinoiicnmemhaaGreatDoor.canon e.value }
/-- The events as they are stored: behind all, in the stream. -/
def storedOf (stream : ByteArray) (now : Int) : List EventR → Int → Int → List StoredR
  | [], _, _ => []
  | e :: l, v, at_ => ⟨e.canon, stream, v, at_, now⟩ :: storedOf stream now l (v + 1) (at_ + 1)
def rangeFrom : Nat → Int → List Int
  | 0, _ => []
  | n + 1, a => a :: rangeFrom n (a + 1)
def MS.append (s : MS) (c : Cmd) (x : StreamR) : Ans × StreamR × MS :=
  (⟨0, x.places.length, s.all.length + c.events.length - 1, false⟩, { x with places := x.places ++ rangeFrom c.events.length s.all.length },
    { s with all := s.all ++ storedOf c.stream s.now c.events x.places.length s.all.length })
def MS.act (s : MS) (c : Cmd) (x : StreamR) : Ans × StreamR × MS :=
  let here : Ans := ⟨0, x.places.length, s.all.length, false⟩
  if c.kind = 2 then (here, { x with mt := c.mt }, s)
  else if c.kind = 3 then (if expected c.expected x.places.length then (here, { x with deleted := true }, s) else (wrong x, x, s))
  else
    let v := s.first x ((c.events.head?).map (·.id) |>.getD 0)
    if 0 ≤ v then (s.again c x v, x, s)
    else if expected c.expected x.places.length then s.append c x else (wrong x, x, s)
def MS.tick (s : MS) (t : Int) : MS := { s with now := max s.now t, done := s.done + 1 }
def MS.do (s : MS) (c : Cmd) : Ans × MS :=
  if c.check ≠ 0 then (⟨c.check, 0, 0, false⟩, s)
  else
    let s1 := s.tick c.time
    if c.kind = 4 ∨ c.kind = 5 then (⟨0, 0, s.all.length, false⟩, s1)
    else
      let x := s1.find c.stream
      if x.deleted then (⟨23, 0, 0, false⟩, s1)
      else
        let r := s1.act c { x with floor := s1.floorOf x }
        (r.1, r.2.2.keep c.stream r.2.1)
end Go.Proofs.YteinoiicnmemhaaGreatDoor
/- Links, plain: names, targets, what a target wants. No program is named. -/
set_option linter.unusedVariables false
set_option linter.unusedSimpArgs false
namespace Go.Proofs.YteinoiicnmemhaaGreatDoor.J
open Go.RowKit
def ba (l : List UInt8) : ByteArray := ⟨l.toArray⟩
theorem ba_bts (s : ByteArray) : ba s.data.toList = s := rfl
theorem bts_ba (l : List UInt8) : (ba l).data.toList = l := by simp [ba]
theorem ba_inj {a b : List UInt8} (h : ba a = ba b) : a = b := by rw [← bts_ba a, h, bts_ba]
theorem bts_inj {a b : ByteArray} (h : a.data.toList = b.data.toList) : a = b := by rw [← ba_bts a, h, ba_bts]
end Go.Proofs.YteinoiicnmemhaaGreatDoor.J
/- Logs, plain: numbers in bytes, sums, frames. No program is named. -/
set_option linter.unusedVariables false
set_option linter.unusedSimpArgs false
namespace Go.Proofs.YteinoiicnmemhaaGreatDoor.J
open Go.RowKit
def baL (l : List UInt8) : ByteArray := ⟨l.toArray⟩
theorem baL_bts (s : ByteArray) : baL s.data.toList = s := rfl
theorem bts_baL (l : List UInt8) : (baL l).data.toList = l := by simp [baL]
theorem baL_size (l : List UInt8) : (baL l).size = l.length := by simp [baL, ByteArray.size]
theorem baL_inj {a b : List UInt8} (h : baL a = baL b) : a = b := by rw [← bts_baL a, h, bts_baL]
theorem baL_append (a b : List UInt8) : baL a ++ baL b = baL (a ++ b) := by
  apply ByteArray.ext
  simp [baL]
/-- A number in n bytes, the highest first. -/
def beN : Nat → Nat → List UInt8
  | 0, _ => []
  | n + 1, v => UInt8.ofNat (v / 256 ^ n) :: beN n v
theorem beN_len (n v : Nat) : (beN n v).length = n := by
  induction n with
  | zero => rfl
  | succ n ih => simp [beN, ih]
/-- Back. -/
def ofBe (l : List UInt8) : Nat := l.foldl (fun v c => v * 256 + c.toNat) 0
theorem foldl_be (l : List UInt8) (v : Nat) : l.foldl (fun v c => v * 256 + c.toNat) v = v * 256 ^ l.length + ofBe l := by
  induction l generalizing v with
  | nil => simp [ofBe]
  | cons c l ih =>
    unfold ofBe
    rw [List.foldl_cons, ih, List.foldl_cons, ih (0 * 256 + c.toNat)]
    rw [List.length_cons, Nat.pow_succ, Nat.zero_mul, Nat.zero_add, Nat.add_mul, Nat.mul_assoc, Nat.mul_comm 256, Nat.add_assoc]
theorem ofBe_cons (c : UInt8) (l : List UInt8) : ofBe (c :: l) = c.toNat * 256 ^ l.length + ofBe l := by
  unfold ofBe
  rw [List.foldl_cons, foldl_be, Nat.zero_mul, Nat.zero_add]
  rfl
theorem ofBe_lt (l : List UInt8) : ofBe l < 256 ^ l.length := by
  induction l with
  | nil => simp [ofBe]
  | cons c l ih =>
    rw [ofBe_cons, List.length_cons, Nat.pow_succ, Nat.mul_comm (256 ^ l.length)]
    have h1 := c.toNat_lt
    have h2 : c.toNat * 256 ^ l.length ≤ 255 * 256 ^ l.length := Nat.mul_le_mul_right _ (by omega)
    omega
/-- The bits of a whole number. -/
def u64 (v : Int) : Nat := (v % 18446744073709551616).toNat
def i64of (n : Nat) : Int := if n < 9223372036854775808 then n else (n : Int) - 18446744073709551616
def i64B (v : Int) : List UInt8 := beN 8 (u64 v)
/-! ## the sum -/
def crc1 (x : Nat) : Nat := if x % 2 = 1 then (x / 2) ^^^ 3988292384 else x / 2
def crc8 : Nat → Nat → Nat
  | 0, x => x
  | n + 1, x => crc8 n (crc1 x)
def crcB (x : Nat) (b : UInt8) : Nat := crc8 8 (x ^^^ b.toNat)
def crcGo (l : List UInt8) (x : Nat) : Nat := l.foldl crcB x
def crc (l : List UInt8) : Nat := crcGo l 4294967295 ^^^ 4294967295
theorem crc1_lt {x : Nat} (h : x < 4294967296) : crc1 x < 4294967296 := by
  unfold crc1
  split
  · exact Nat.xor_lt_two_pow (n := 32) (by omega) (by decide)
  · omega
theorem crc8_lt : ∀ (n : Nat) {x : Nat}, x < 4294967296 → crc8 n x < 4294967296
  | 0, _, h => h
  | n + 1, _, h => crc8_lt n (crc1_lt h)
theorem crcB_lt {x : Nat} (h : x < 4294967296) (b : UInt8) : crcB x b < 4294967296 :=
  crc8_lt 8 (Nat.xor_lt_two_pow (n := 32) h (by have := b.toNat_lt; omega))
theorem crcGo_lt (l : List UInt8) : ∀ {x : Nat}, x < 4294967296 → crcGo l x < 4294967296 := by
  induction l with
  | nil => exact fun h => h
  | cons b l ih => exact fun h => ih (crcB_lt h b)
theorem crcGo_app (a b : List UInt8) (x : Nat) : crcGo (a ++ b) x = crcGo b (crcGo a x) := List.foldl_append
theorem crc_lt (l : List UInt8) : crc l < 4294967296 := Nat.xor_lt_two_pow (n := 32) (crcGo_lt l (by decide)) (by decide)
/-! ## frames -/
def frameB (b : List UInt8) : List UInt8 := beN 4 b.length ++ beN 4 (crc (beN 4 b.length ++ b)) ++ b ++ beN 4 b.length
theorem frameB_len (b : List UInt8) : (frameB b).length = b.length + 12 := by
  simp [frameB, beN_len]
  omega
/-- The first frame: its body, its length, why there is none. -/
def firstF (b : List UInt8) : List UInt8 × Nat × Int :=
  if b.length < 12 then ([], 0, 5)
  else if 4000 < ofBe (b.take 4) then ([], 0, 6)
  else if b.length < ofBe (b.take 4) + 12 then ([], 0, 5)
  else if (b.take (ofBe (b.take 4) + 12)).drop (ofBe (b.take 4) + 8) ≠ b.take 4 then ([], 0, 6)
  else if (b.drop 4).take 4 ≠ beN 4 (crc (b.take 4 ++ (b.drop 8).take (ofBe (b.take 4)))) then ([], 0, 7)
  else ((b.drop 8).take (ofBe (b.take 4)), ofBe (b.take 4) + 12, 0)
theorem drop_pre {a b : List UInt8} {n : Nat} (h : a.length = n) : (a ++ b).drop n = b := by rw [← h, List.drop_left]
end Go.Proofs.YteinoiicnmemhaaGreatDoor.J
/- Bits of whole numbers as numbers. No program is named. -/
set_option linter.unusedVariables false
set_option linter.unusedSimpArgs false
namespace Go.Proofs.YteinoiicnmemhaaGreatDoor.J
open Go.RowKit Go
theorem toNat_ofInt32 {x : Nat} (h : x < 4294967296) : (BitVec.ofInt 32 (x : Int)).toNat = x := by
  rw [BitVec.toNat_ofInt]
  omega
theorem toNat_ofInt64 {x : Nat} (h : x < 18446744073709551616) : (BitVec.ofInt 64 (x : Int)).toNat = x := by
  rw [BitVec.toNat_ofInt]
  omega
theorem u32_xor {x y : Nat} (hx : x < 4294967296) (hy : y < 4294967296) : bits .xor .u32 (x : Int) (y : Int) = ((x ^^^ y : Nat) : Int) := by
  have hlt : x ^^^ y < 2 ^ 32 := Nat.xor_lt_two_pow (n := 32) hx hy
  show IntKind.u32.wrap ((BitVec.ofInt 32 (x : Int) ^^^ BitVec.ofInt 32 (y : Int)).toNat : Nat) = _
  rw [BitVec.toNat_xor, toNat_ofInt32 hx, toNat_ofInt32 hy, IntKind.wrap_u32]
  omega
theorem u32_and1 {x : Nat} (hx : x < 4294967296) : bits .and .u32 (x : Int) 1 = ((x % 2 : Nat) : Int) := by
  show IntKind.u32.wrap ((BitVec.ofInt 32 (x : Int) &&& BitVec.ofInt 32 1).toNat : Nat) = _
  have h1 : (BitVec.ofInt 32 1).toNat = 2 ^ 1 - 1 := by decide
  rw [BitVec.toNat_and, toNat_ofInt32 hx, h1, Nat.and_two_pow_sub_one_eq_mod, IntKind.wrap_u32]
  omega
theorem u64_or {v k : Nat} (hv : v < 72057594037927936) (hk : k < 256) : bits .or .u64 ((v : Int) * 256) (k : Int) = ((v * 256 + k : Nat) : Int) := by
  have e : ((v : Int) * 256) = ((v * 256 : Nat) : Int) := by omega
  have ho : v * 256 ||| k = v * 256 + k := by
    have := Nat.shiftLeft_add_eq_or_of_lt (i := 8) (b := k) (by omega) v
    rw [Nat.shiftLeft_eq] at this
    exact this.symm
  rw [e]
  show IntKind.u64.wrap ((BitVec.ofInt 64 ((v * 256 : Nat) : Int) ||| BitVec.ofInt 64 (k : Int)).toNat : Nat) = _
  rw [BitVec.toNat_or, toNat_ofInt64 (by omega), toNat_ofInt64 (by omega), ho, IntKind.wrap_u64]
  omega
end Go.Proofs.YteinoiicnmemhaaGreatDoor.J
/- The simulated disk as plain data: what each method of simdisk.Disk answers and leaves, as functions on lists. No program is named. -/
namespace Go.Proofs.YteinoiicnmemhaaGreatDoor.J
open Go.RowKit

/-- A file of the disk. -/
structure File where
  b : ByteArray
  lasts : Int
  known : Bool
def File.zero : File := ⟨⟨#[]⟩, 0, false⟩
def File.val (f : File) : Value := .agg #[.string f.b, .int .i64 f.lasts, .bool f.known]
abbrev Files := List (ByteArray × File)
/-- A disk. -/
structure DS where
  on : Bool
  room : Int
  fs : Files
  armed : Bool
  left : Int
  keep : List Int

/-- A name that can't be. -/
def badName (s : ByteArray) : Bool := decide (s.size < 1) || decide (40 < s.size)
def mayAll : List ByteArray → Int
  | [] => 0
  | s :: l => if badName s then 1 else mayAll l
namespace DS
def new (room : Int) : DS := ⟨true, room, [], false, 0, []⟩
def may (d : DS) (l : List ByteArray) : Int := if d.on then mayAll l else 14
def get (d : DS) (n : ByteArray) : File := (aget d.fs n).getD File.zero
def find (d : DS) (n : ByteArray) : File × Int :=
  if d.may [n] = 0 then (if (aget d.fs n).isSome then (d.get n, 0) else (File.zero, 8)) else (File.zero, d.may [n])
def used (d : DS) : Int := ((d.fs.map fun p => p.2.b.size).sum : Nat)
def goes (d : DS) : Bool := d.armed && decide (d.left < 1)
def tick (d : DS) : DS := if d.armed then { d with left := d.left - 1 } else d
def full (d : DS) (n : ByteArray) (k : Nat) : Bool := (!(aget d.fs n).isSome && decide (200 ≤ d.fs.length)) || (decide (0 < d.room) && decide (d.room - d.used < (k : Int)))
def arm (d : DS) (n : Int) (keep : List Int) : DS := { d with armed := decide (0 ≤ n), left := n, keep := keep }
def names (d : DS) : List ByteArray := ((d.fs.map fun p => p.1.data.toList).mergeSort (fun x y => decide (x ≤ y))).map fun l => ⟨l.toArray⟩
def crashFile (f : File) (k : Int) : File :=
  let n := f.lasts + min k (f.b.size - f.lasts)
  ⟨f.b.extract 0 n.toNat, n, f.known || decide (0 < n)⟩
def crashOne (fs : Files) (s : ByteArray) (k : Int) : Files :=
  let f := crashFile ((aget fs s).getD File.zero) k
  if f.known then aput fs s f else adel (aput fs s f) s
def crashAll : Files → List ByteArray → List Int → Files
  | fs, [], _ => fs
  | fs, s :: l, ks => crashAll (crashOne fs s (max (ks.headD 0) 0)) l ks.tail
def lostAll : Files → List ByteArray → List Int → Int
  | _, [], _ => 0
  | fs, s :: l, ks => (let f := (aget fs s).getD File.zero; f.b.size - (crashFile f (max (ks.headD 0) 0)).lasts) + lostAll (crashOne fs s (max (ks.headD 0) 0)) l ks.tail
def crash (d : DS) (keep : List Int) : DS := if d.on then { d with on := false, armed := false, left := -1, keep := [], fs := crashAll d.fs d.names keep } else d
def lost (d : DS) (keep : List Int) : Int := if d.on then lostAll d.fs d.names keep else 0
/-- done: what is told, what is left. -/
def doneE (d : DS) : Int := if d.goes then 14 else 0
def done (d : DS) : DS := if d.goes then d.tick.crash d.keep else d.tick
def append (d : DS) (n data : ByteArray) : Int × DS :=
  if d.may [n] ≠ 0 then (d.may [n], d)
  else if d.full n data.size then (20, d)
  else let d1 := { d with fs := aput d.fs n { d.get n with b := (d.get n).b ++ data } }; (d1.doneE, d1.done)
def sync (d : DS) (n : ByteArray) : Int × DS :=
  if (d.find n).2 ≠ 0 then ((d.find n).2, d)
  else if d.doneE ≠ 0 then (d.doneE, d.done)
  else (0, { d.done with fs := aput d.done.fs n ⟨(d.get n).b, (d.get n).b.size, true⟩ })
def truncate (d : DS) (n : ByteArray) (k : Int) : Int × DS :=
  if (d.find n).2 ≠ 0 then ((d.find n).2, d)
  else if k < 0 ∨ (d.get n).b.size < k then (15, d)
  else if d.doneE ≠ 0 then (d.doneE, d.done)
  else (0, { d.done with fs := aput d.done.fs n ⟨(d.get n).b.extract 0 k.toNat, min (d.get n).lasts k, (d.get n).known⟩ })
def rename (d : DS) (m n : ByteArray) : Int × DS :=
  if d.may [m, n] ≠ 0 then (d.may [m, n], d)
  else if (d.find m).2 ≠ 0 then ((d.find m).2, d)
  else if d.doneE ≠ 0 then (d.doneE, d.done)
  else (0, { d.done with fs := aput (adel d.done.fs m) n (d.get m) })
def remove (d : DS) (n : ByteArray) : Int × DS :=
  if (d.find n).2 ≠ 0 then ((d.find n).2, d)
  else if d.doneE ≠ 0 then (d.doneE, d.done)
  else (0, { d.done with fs := adel d.done.fs n })
def read (d : DS) (n : ByteArray) (at_ k : Int) : ByteArray × Int :=
  if (d.find n).2 ≠ 0 then (⟨#[]⟩, (d.find n).2)
  else if at_ < 0 ∨ k < 0 ∨ (d.get n).b.size < at_ ∨ (d.get n).b.size - at_ < k then (⟨#[]⟩, 15)
  else ((d.get n).b.extract at_.toNat (at_ + k).toNat, 0)
def size (d : DS) (n : ByteArray) : Int × Int := ((d.find n).1.b.size, (d.find n).2)
def restore (d : DS) : DS := { d with on := true }
def list (d : DS) (p : ByteArray) : List ByteArray := if d.on then d.names.filter (fun s => p.data.toList.isPrefixOf s.data.toList) else []

/-- What keeps the numbers small: M bounds all bytes. -/
structure Ok (d : DS) (M : Nat) : Prop where
  left : d.armed = true → 0 ≤ d.left
  files : ∀ p ∈ d.fs, 0 ≤ p.2.lasts ∧ p.2.lasts ≤ p.2.b.size
  bytes : (d.fs.map fun p => p.2.b.size).sum ≤ M
  few : d.fs.length ≤ 200
  nodup : ANodup d.fs
  short : ∀ p ∈ d.fs, p.1.size ≤ 40
end DS
end Go.Proofs.YteinoiicnmemhaaGreatDoor.J
/- The simulated disk as plain data: what keeps its numbers small is kept by each method. No program is named. -/
namespace Go.Proofs.YteinoiicnmemhaaGreatDoor.J
open Go.RowKit

theorem mem_aput {κ ν : Type} [DecidableEq κ] {l : List (κ × ν)} {k : κ} {v : ν} {p : κ × ν} (h : p ∈ aput l k v) : p ∈ l ∨ p = (k, v) := by
  induction l with
  | nil => simp [aput] at h; exact .inr h
  | cons q l ih =>
    obtain ⟨a, b⟩ := q
    simp only [aput] at h
    split at h
    · rcases List.mem_cons.1 h with h | h
      · exact .inr h
      · exact .inl (List.mem_cons_of_mem _ h)
    · rcases List.mem_cons.1 h with h | h
      · exact .inl (h ▸ List.mem_cons_self)
      · rcases ih h with h | h
        · exact .inl (List.mem_cons_of_mem _ h)
        · exact .inr h
theorem adel_aput_none {κ ν : Type} [DecidableEq κ] {l : List (κ × ν)} {k : κ} (v : ν) (h : aget l k = none) : adel (aput l k v) k = l := by
  induction l with
  | nil => simp [aput, adel]
  | cons p l ih =>
    obtain ⟨a, b⟩ := p
    simp only [aget] at h
    split at h
    · cases h
    · rename_i hne
      simp only [aput, if_neg hne, adel, ih h]

def sizes (l : List (ByteArray × File)) : Nat := (l.map fun p => p.2.b.size).sum
theorem sizes_split (l1 l2 : List (ByteArray × File)) (p : ByteArray × File) : sizes (l1 ++ p :: l2) = p.2.b.size + sizes (l1 ++ l2) := by
  simp [sizes]; omega
theorem sizes_mem {l : List (ByteArray × File)} {p : ByteArray × File} (h : p ∈ l) : p.2.b.size ≤ sizes l := by
  obtain ⟨s, t, rfl⟩ := List.append_of_mem h
  rw [sizes_split]; omega
theorem sizes_aput (l : Files) (n : ByteArray) (f : File) : sizes (aput l n f) + ((aget l n).getD File.zero).b.size = sizes l + f.b.size := by
  induction l with
  | nil => simp [aput, aget, sizes, File.zero]; rfl
  | cons p l ih =>
    obtain ⟨a, b⟩ := p
    simp only [aput, aget]
    split
    · simp [sizes]; omega
    · have e1 : ∀ q : ByteArray × File, ∀ m : Files, sizes (q :: m) = q.2.b.size + sizes m := fun q m => by simp [sizes]
      rw [e1, e1]
      omega
theorem sizes_adel (l : Files) (n : ByteArray) : sizes (adel l n) + ((aget l n).getD File.zero).b.size = sizes l := by
  induction l with
  | nil => simp [adel, aget, sizes, File.zero]; rfl
  | cons p l ih =>
    obtain ⟨a, b⟩ := p
    have e1 : ∀ q : ByteArray × File, ∀ m : Files, sizes (q :: m) = q.2.b.size + sizes m := fun q m => by simp [sizes]
    simp only [adel, aget]
    split
    · rw [e1]; simp; omega
    · rw [e1, e1]
      omega

def FOk (M : Nat) (fs : Files) : Prop := ∀ p ∈ fs, 0 ≤ p.2.lasts ∧ p.2.lasts ≤ p.2.b.size ∧ p.2.b.size ≤ M
theorem FOk.get {M : Nat} {fs : Files} (h : FOk M fs) (n : ByteArray) : 0 ≤ ((aget fs n).getD File.zero).lasts ∧ ((aget fs n).getD File.zero).lasts ≤ ((aget fs n).getD File.zero).b.size ∧ ((aget fs n).getD File.zero).b.size ≤ M := by
  cases hg : aget fs n with
  | none => exact ⟨by simp [File.zero], by simp [File.zero], by show 0 ≤ M; omega⟩
  | some f => exact h _ (aget_mem hg)
theorem FOk.put {M : Nat} {fs : Files} (h : FOk M fs) (n : ByteArray) (f : File) (h1 : 0 ≤ f.lasts ∧ f.lasts ≤ f.b.size ∧ f.b.size ≤ M) : FOk M (aput fs n f) := by
  intro p hp
  rcases mem_aput hp with h2 | rfl
  · exact h p h2
  · exact h1
theorem FOk.del {M : Nat} {fs : Files} (h : FOk M fs) (n : ByteArray) : FOk M (adel fs n) := fun p hp => h p ((adel_sublist fs n).subset hp)

/-- What keeps a list of files small. -/
structure Fs (fs : Files) (M : Nat) : Prop where
  files : ∀ p ∈ fs, 0 ≤ p.2.lasts ∧ p.2.lasts ≤ p.2.b.size
  bytes : sizes fs ≤ M
  few : fs.length ≤ 200
  nodup : ANodup fs
  short : ∀ p ∈ fs, p.1.size ≤ 40
namespace DS
theorem Ok.fs {d : DS} {M : Nat} (h : d.Ok M) : Fs d.fs M := ⟨h.files, h.bytes, h.few, h.nodup, h.short⟩
theorem Ok.of {d : DS} {M : Nat} (h : Fs d.fs M) (hl : d.armed = true → 0 ≤ d.left) : d.Ok M := ⟨hl, h.files, h.bytes, h.few, h.nodup, h.short⟩
end DS
theorem Fs.fok {fs : Files} {M : Nat} (h : Fs fs M) : FOk M fs := fun p hp => ⟨(h.files p hp).1, (h.files p hp).2, Nat.le_trans (sizes_mem hp) h.bytes⟩
theorem Fs.mono {fs : Files} {M M' : Nat} (h : Fs fs M) (hm : M ≤ M') : Fs fs M' := ⟨h.files, Nat.le_trans h.bytes hm, h.few, h.nodup, h.short⟩
theorem Fs.put {fs : Files} {M M' : Nat} (h : Fs fs M) (n : ByteArray) (f : File) (h1 : 0 ≤ f.lasts ∧ f.lasts ≤ f.b.size) (hb : sizes fs + f.b.size ≤ M' + ((aget fs n).getD File.zero).b.size) (hf : (aget fs n).isSome = true ∨ fs.length < 200) (hn : n.size ≤ 40) : Fs (aput fs n f) M' := by
  refine ⟨?_, ?_, ?_, aput_nodup h.nodup _ _, ?_⟩
  · intro p hp
    rcases mem_aput hp with h2 | rfl
    · exact h.files p h2
    · exact h1
  · have := sizes_aput fs n f
    omega
  · rw [length_aput]
    have := h.few
    split
    · exact this
    · rcases hf with q | q
      · simp_all
      · omega
  · intro p hp
    rcases mem_aput hp with h2 | rfl
    · exact h.short p h2
    · exact hn
theorem Fs.del {fs : Files} {M : Nat} (h : Fs fs M) (n : ByteArray) : Fs (adel fs n) M := by
  refine ⟨fun p hp => h.files p ((adel_sublist fs n).subset hp), ?_, ?_, adel_nodup h.nodup _, fun p hp => h.short p ((adel_sublist fs n).subset hp)⟩
  · have := sizes_adel fs n
    have := h.bytes
    omega
  · rw [length_adel]
    have := h.few
    split <;> omega
theorem Fs.short_of {fs : Files} {M : Nat} (h : Fs fs M) {n : ByteArray} (hi : (aget fs n).isSome = true) : n.size ≤ 40 := by
  cases hg : aget fs n with
  | none => rw [hg] at hi; cases hi
  | some f => exact h.short _ (aget_mem hg)

theorem size_extract0 (b : ByteArray) {n : Int} (h0 : 0 ≤ n) (h : n ≤ b.size) : ((b.extract 0 n.toNat).size : Int) = n := by
  simp; omega
theorem Fs.crashOne {fs : Files} {M : Nat} (h : Fs fs M) (s : ByteArray) {k : Int} (hk : 0 ≤ k) : Fs (DS.crashOne fs s k) M := by
  obtain ⟨q1, q2, q3⟩ := h.fok.get s
  cases hg : aget fs s with
  | none =>
    have : DS.crashOne fs s k = fs := by
      unfold DS.crashOne
      have e : (DS.crashFile ((aget fs s).getD File.zero) k).known = false := by
        rw [hg]
        show (false || decide (0 < (0 : Int) + min k (((⟨#[]⟩ : ByteArray).size : Int) - 0))) = false
        simp
        have : (ByteArray.mk #[]).size = 0 := rfl
        omega
      simp only [e, Bool.false_eq_true, if_false]
      exact adel_aput_none _ hg
    rw [this]; exact h
  | some f =>
    rw [hg] at q1 q2 q3
    simp only [Option.getD_some] at q1 q2 q3
    have hn1 : 0 ≤ f.lasts + min k (f.b.size - f.lasts) := by omega
    have hn2 : f.lasts + min k (f.b.size - f.lasts) ≤ f.b.size := by omega
    have he := size_extract0 f.b hn1 hn2
    have hp : Fs (aput fs s (DS.crashFile f k)) M := by
      refine h.put s _ ⟨hn1, ?_⟩ ?_ (.inl (by rw [hg]; rfl)) (h.short_of (by rw [hg]; rfl))
      · show f.lasts + min k (f.b.size - f.lasts) ≤ ((f.b.extract 0 (f.lasts + min k (f.b.size - f.lasts)).toNat).size : Int)
        omega
      · rw [hg]
        have : (DS.crashFile f k).b.size = (f.b.extract 0 (f.lasts + min k (f.b.size - f.lasts)).toNat).size := rfl
        have := h.bytes
        simp only [Option.getD_some]
        omega
    unfold DS.crashOne
    rw [hg]
    simp only [Option.getD_some]
    split
    · exact hp
    · exact hp.del s
theorem Fs.crashAll {M : Nat} : ∀ (l : List ByteArray) {fs : Files} (ks : List Int), Fs fs M → Fs (DS.crashAll fs l ks) M
  | [], _, _, h => h
  | s :: l, _, ks, h => Fs.crashAll l ks.tail (h.crashOne s (by omega))
namespace DS
theorem tick_fs (d : DS) : d.tick.fs = d.fs := by unfold tick; split <;> rfl
theorem tick_on (d : DS) : d.tick.on = d.on := by unfold tick; split <;> rfl
theorem tick_keep (d : DS) : d.tick.keep = d.keep := by unfold tick; split <;> rfl
theorem crash_Fs {d : DS} {M : Nat} (h : Fs d.fs M) (keep : List Int) : Fs (d.crash keep).fs M := by
  unfold crash
  split
  · exact Fs.crashAll _ _ h
  · exact h
theorem Ok.crash {d : DS} {M : Nat} (h : d.Ok M) (keep : List Int) : (d.crash keep).Ok M := by
  refine Ok.of (crash_Fs h.fs keep) ?_
  unfold DS.crash
  split
  · intro q; cases q
  · exact h.left
theorem Ok.done {d : DS} {M : Nat} (h : d.Ok M) (ho : d.on = true) : d.done.Ok M := by
  unfold DS.done
  split
  · refine Ok.of (crash_Fs (by rw [tick_fs]; exact h.fs) _) ?_
    unfold DS.crash
    rw [tick_on, ho, if_pos rfl]
    intro q; cases q
  · rename_i hg
    refine Ok.of (by rw [tick_fs]; exact h.fs) ?_
    unfold DS.tick
    split
    · rename_i ha
      have := h.left ha
      intro _
      unfold DS.goes at hg
      simp [ha] at hg
      show 0 ≤ d.left - 1
      omega
    · exact h.left
theorem may_on {d : DS} {l : List ByteArray} (h : d.may l = 0) : d.on = true := by
  unfold may at h
  split at h
  · assumption
  · cases h
theorem find_is {d : DS} {n : ByteArray} (h : (d.find n).2 = 0) : d.may [n] = 0 ∧ (aget d.fs n).isSome = true ∧ d.find n = (d.get n, 0) := by
  unfold find at *
  by_cases hm : d.may [n] = 0
  · simp only [hm, if_true] at h ⊢
    by_cases hi : (aget d.fs n).isSome = true
    · simp [hi]
    · simp [hi] at h
  · simp [hm] at h
theorem Ok.synced {d : DS} {M : Nat} (h : d.Ok M) {n : ByteArray} (hi : (aget d.fs n).isSome = true) : Ok { d with fs := aput d.fs n ⟨(d.get n).b, (d.get n).b.size, true⟩ } M := by
  refine Ok.of (h.fs.put n _ ⟨?_, Int.le_refl _⟩ ?_ (.inl hi) (h.fs.short_of hi)) h.left
  · show (0 : Int) ≤ ((d.get n).b.size : Int); omega
  · have := h.fs.bytes
    unfold DS.get
    show _ ≤ _
    simp only []
    omega
theorem Ok.removed {d : DS} {M : Nat} (h : d.Ok M) (n : ByteArray) : Ok { d with fs := adel d.fs n } M := Ok.of (h.fs.del n) h.left
end DS
end Go.Proofs.YteinoiicnmemhaaGreatDoor.J
/- Logs, plain: the bytes of a chunk, and how they are read. No program is named. -/
set_option linter.unusedVariables false
set_option linter.unusedSimpArgs false
namespace Go.Proofs.YteinoiicnmemhaaGreatDoor.J
open Go.RowKit
def putF (b : List UInt8) : List UInt8 × Int := if 4000 < b.length then ([], 2) else (frameB b, 0)
def chnkT : List UInt8 := [0, 67, 72, 78, 75]
def doneT : List UInt8 := [2, 68, 79, 78, 69]
def rightC (k : Int) : Bool := decide (0 ≤ k) && decide (k ≤ 999999)
def startB (k size : Int) : List UInt8 := frameB (chnkT ++ (i64B k ++ i64B size))
def finB (k c : Int) : List UInt8 := frameB (doneT ++ (i64B k ++ i64B c))
def recB (b : ByteArray) : List UInt8 := frameB (1 :: b.data.toList)
def startE (k size : Int) : List UInt8 × Int := if rightC k = false ∨ size < 100 ∨ 1000000 < size then ([], 1) else (startB k size, 0)
def finE (k c : Int) : List UInt8 × Int := if rightC k = false ∨ c < 0 then ([], 1) else (finB k c, 0)
def roomC (size used : Int) : Int := if size < 0 ∨ used < 0 ∨ size < used then 0 else min (max (size - used - 13) 0) 3999
theorem recB_len (b : ByteArray) : (recB b).length = b.size + 13 := by
  unfold recB
  rw [frameB_len]
  simp
/-- What is read of a chunk. -/
structure ScanR where
  number : Int
  size : Int
  bodies : List ByteArray
  good : Nat
  done : Bool
def ScanR.zero : ScanR := ⟨0, 0, [], 0, false⟩
def recsB (l : List ByteArray) : List UInt8 := l.flatMap recB
def imageB (k size : Int) (l : List ByteArray) (done : Bool) : List UInt8 := startB k size ++ (recsB l ++ if done then finB k l.length else [])
theorem recsB_app (l m : List ByteArray) : recsB (l ++ m) = recsB l ++ recsB m := List.flatMap_append
theorem recsB_one (b : ByteArray) : recsB [b] = recB b := by simp [recsB]
theorem right_ok {k : Int} (h : 0 ≤ k ∧ k ≤ 999999) : rightC k = true := by
  unfold rightC
  rw [decide_eq_true h.1, decide_eq_true h.2]
  rfl
theorem startE_ok {k size : Int} (hk : 0 ≤ k ∧ k ≤ 999999) (hs : 100 ≤ size ∧ size ≤ 1000000) : startE k size = (startB k size, 0) := by
  unfold startE
  rw [right_ok hk, if_neg (by simp; omega)]
theorem finE_ok {k c : Int} (hk : 0 ≤ k ∧ k ≤ 999999) (hc : 0 ≤ c) : finE k c = (finB k c, 0) := by
  unfold finE
  rw [right_ok hk, if_neg (by simp; omega)]
end Go.Proofs.YteinoiicnmemhaaGreatDoor.J
/- Ranging over a map whose entries are known as an association list: what is still to come is a list too; which entry comes next is left open. No program is named. -/
set_option linter.unusedVariables false
set_option linter.unusedSimpArgs false
namespace Go.Proofs.YteinoiicnmemhaaGreatDoor
open Go.RowKit Go.MapKept Go.ChangeMaps

section
variable {κ : Type} [DecidableEq κ]
/-- Block r is an iterator over the map in block b that holds kv; left is still to come. -/
def IterIs (enc : κ → Value) (w : World) (r b : Nat) (kv left : List (κ × Value)) : Prop :=
  ∃ es clock since seen c0, w.heap[b]? = some (.map es clock) ∧ Stamped es clock ∧ es.toList.map (fun x => (x.key, x.val)) = kv.map (fun p => (enc p.1, p.2)) ∧
    w.heap[r]? = some (.mapIter (some b) since seen c0) ∧ (∀ x ∈ es.toList, x.born < since) ∧ since ≤ c0 ∧ since ≤ clock ∧
    (leftOf es seen).toList.map (fun x => (x.key, x.val)) = left.map (fun p => (enc p.1, p.2))

set_option linter.unusedSectionVars false
variable {enc : κ → Value} {w w' : World} {r b : Nat} {kv left : List (κ × Value)}
theorem IterIs.map (h : IterIs enc w r b kv left) : MapIs enc w b kv := by
  obtain ⟨es, clock, _, _, _, h1, h2, h3, _⟩ := h
  exact ⟨es, clock, h1, h2, h3⟩
theorem IterIs.ne (h : IterIs enc w r b kv left) : r ≠ b := by
  obtain ⟨es, clock, _, _, _, h1, _, _, h2, _⟩ := h
  intro e
  subst e
  rw [h1] at h2
  simp at h2
theorem IterIs.lt (h : IterIs enc w r b kv left) : r < w.heap.size ∧ b < w.heap.size := by
  obtain ⟨es, clock, _, _, _, h1, _, _, h2, _⟩ := h
  exact ⟨lt_of_block h2, lt_of_block h1⟩
theorem IterIs.of_eq (h : IterIs enc w r b kv left) (hr : w'.heap[r]? = w.heap[r]?) (hb : w'.heap[b]? = w.heap[b]?) : IterIs enc w' r b kv left := by
  obtain ⟨es, clock, since, seen, c0, h1, h2, h3, h4, h5⟩ := h
  exact ⟨es, clock, since, seen, c0, hb.trans h1, h2, h3, hr.trans h4, h5⟩
theorem IterIs.only {S : List Nat} (h : IterIs enc w r b kv left) (k : Only S w w') (hr : r ∉ S) (hb : b ∉ S) : IterIs enc w' r b kv left :=
  h.of_eq (k.block r h.lt.1 hr) (k.block b h.lt.2 hb)
theorem leftOf_push (es : Array MapEntry) (hn : (es.toList.map (·.born)).Nodup) (seen : Array Nat) (l1 l2 : List MapEntry) (e : MapEntry) (h : (leftOf es seen).toList = l1 ++ e :: l2) : (leftOf es (seen.push e.born)).toList = l1 ++ l2 := by
  have hf : (leftOf es (seen.push e.born)).toList = (leftOf es seen).toList.filter (fun x => x.born != e.born) := by
    simp only [leftOf, Array.toList_filter, List.filter_filter]
    apply List.filter_congr
    intro x _
    rw [Bool.eq_iff_iff]
    simp
    exact ⟨fun hx => ⟨hx.2, hx.1⟩, fun hx => ⟨hx.2, hx.1⟩⟩
  have hs : ((leftOf es seen).toList.map (·.born)).Nodup := by
    simp only [leftOf, Array.toList_filter]
    exact List.Nodup.sublist (List.Sublist.map _ List.filter_sublist) hn
  rw [hf, h]
  rw [h] at hs
  simp only [List.map_append, List.map_cons] at hs
  have hs' := List.nodup_append.1 hs
  obtain ⟨_, hs2, hs3⟩ := hs'
  have hs4 := List.nodup_cons.1 hs2
  rw [List.filter_append, List.filter_cons_of_neg (by simp)]
  rw [List.filter_eq_self.2, List.filter_eq_self.2]
  · intro x hx
    simp only [bne_iff_ne]
    intro q
    exact hs4.1 (List.mem_map.2 ⟨x, hx, q⟩)
  · intro x hx
    simp only [bne_iff_ne]
    intro q
    exact hs3 x.born (List.mem_map.2 ⟨x, hx, rfl⟩) e.born (by simp) q

theorem map_split {α β γ : Type} {f : α → γ} {g : β → γ} : ∀ {l : List α} {l1 : List α} {x : α} {l2 : List α} {m : List β}, l = l1 ++ x :: l2 → l.map f = m.map g → ∃ m1 y m2, m = m1 ++ y :: m2 ∧ l1.map f = m1.map g ∧ f x = g y ∧ l2.map f = m2.map g
  | l, [], x, l2, m, h, e => by
    subst h
    cases m with
    | nil => simp at e
    | cons y m => simp at e; exact ⟨[], y, m, rfl, rfl, e.1, e.2⟩
  | l, a :: l1, x, l2, m, h, e => by
    subst h
    cases m with
    | nil => simp at e
    | cons y m =>
      simp only [List.cons_append, List.map_cons, List.cons.injEq] at e
      obtain ⟨m1, z, m2, p1, p2, p3, p4⟩ := map_split (l := l1 ++ x :: l2) rfl e.2
      exact ⟨y :: m1, z, m2, by simp [p1], by simp [e.1, p2], p3, p4⟩

variable {P : Program} {t k e : TypeId}
theorem MapIs.range (ht : P.underlying t = some (.map k e)) (h : MapIs enc w b kv) :
    ∃ o, (Instr.range t (.map (some b))).run P w = .ok (.pointer (some ⟨w.heap.size, 0, none⟩)) (w.alloc o) ∧ IterIs enc (w.alloc o) w.heap.size b kv kv := by
  have hlt := h.lt
  obtain ⟨es, clock, hb, hs, hm⟩ := h
  refine ⟨.mapIter (some b) clock #[] clock, ?_, es, clock, clock, #[], clock, ?_, hs, hm, heap_alloc_new w _, hs.1, Nat.le_refl _, Nat.le_refl _, ?_⟩
  · simp [Instr.range, run_underlying ht, MapKept.run_getObj_map hb, Result.andThen]
  · exact (Below.heap_alloc _ _ _ hlt).trans hb
  · have : leftOf es #[] = es := by simp [leftOf]
    rw [this]; exact hm

theorem IterIs.next (h : IterIs enc w r b kv left) (ty : TypeId) :
    (left = [] ∧ (Instr.next (.pointer (some ⟨r, 0, none⟩)) false ty).run P w = .ok (.tuple #[.bool false]) w) ∨
    ∃ l1 p l2 w', left = l1 ++ p :: l2 ∧ (Instr.next (.pointer (some ⟨r, 0, none⟩)) false ty).run P w = .ok (.tuple #[.bool true, enc p.1, p.2]) w' ∧ IterIs enc w' r b kv (l1 ++ l2) ∧ Only [r] w w' ∧
      (Instr.entry (.pointer (some ⟨r, 0, none⟩))).run P w' = .ok (.tuple #[enc p.1, p.2]) w' := by
  have hne := h.ne
  obtain ⟨es, clock, since, seen, c0, hb, hs, hm, hr, hold, hsc, hsk, hl⟩ := h
  rcases run_next_at (P := P) w ty r b since c0 seen es clock hr hb hold hsc with ⟨h0, hrun⟩ | ⟨x, hx, w1, hw1, hrun⟩
  · refine .inl ⟨?_, hrun⟩
    have h1 : (leftOf es seen).toList = [] := by simpa using h0
    rw [h1] at hl
    simpa using hl.symm
  · obtain ⟨s1, s2, hsp⟩ := List.append_of_mem hx
    obtain ⟨l1, p, l2, e1, e2, e3, e4⟩ := map_split hsp hl
    simp only [Prod.mk.injEq] at e3
    have hheap : w1.heap = w.heap := by rcases hw1 with rfl | rfl <;> rfl
    have ho1 : Only [r] w w1 := by rcases hw1 with rfl | rfl; exact Only.refl _ _; exact (Only.refl _ _).drew
    have hr1 : r < w1.heap.size := by rw [hheap]; exact lt_of_block hr
    have ha : (setBlock w1 r (.mapIter (some b) since (seen.push x.born) clock)).heap[r]? = some (.mapIter (some b) since (seen.push x.born) clock) := by
      simp [setBlock, hr1]
    have hbb : (setBlock w1 r (.mapIter (some b) since (seen.push x.born) clock)).heap[b]? = some (.map es clock) := by
      simp only [setBlock, Array.getElem?_setIfInBounds]
      rw [if_neg hne, hheap, hb]
    have hx' : x ∈ es.toList := (mem_left hx).1
    refine .inr ⟨l1, p, l2, _, e1, ?_, ⟨es, clock, since, seen.push x.born, clock, hbb, hs, hm, ha, hold, hsk, hsk, ?_⟩, ho1.setBlock (.inl (by simp)) _, ?_⟩
    · rw [← e3.1, ← e3.2]; exact hrun
    · rw [leftOf_push es hs.2.1 seen s1 s2 x hsp]
      simp [e2, e4]
    · rw [← e3.1, ← e3.2]
      exact run_entry_at _ r b since seen es clock x ha hbb hx' hs.2.1

variable {ops : Array Oper} {rest : List Oper} {o : Oper} {a : Act} {Q : Exit → Act → World → Prop}
end
end Go.Proofs.YteinoiicnmemhaaGreatDoor
/- Slices that are read, in whatever world; slices in memory that stays. No program is named. -/
set_option linter.unusedVariables false
set_option linter.unusedSimpArgs false
namespace Go.Proofs.YteinoiicnmemhaaGreatDoor
open Go.RowKit
/-! ## slices that are only read -/
/-- v is a slice of n elements, size cells each, that holds the cells cs. -/
def Slc (w : World) (size : Nat) (v : Value) (n : Nat) (cs : List Value) : Prop :=
  ∃ A cap, v = .slice A n cap ∧ cs.length = n * size ∧ n ≤ cap ∧ cap ≤ maxLen ∧ (0 < n → ∃ b off, A = some ⟨b, off, none⟩ ∧ b < w.heap.size ∧ ∀ j, j < cs.length → w.cell? ⟨b, off + j, none⟩ = cs[j]?)
section
variable {w w' : World} {size n : Nat} {v : Value} {cs : List Value}
theorem Slc.keep (h : Slc w size v n cs) (hs : w.heap.size ≤ w'.heap.size) (hk : ∀ g, v.ownBlock = some g → g < w.heap.size → w'.heap[g]? = w.heap[g]?) : Slc w' size v n cs := by
  obtain ⟨A, cap, rfl, h1, h2, h3, h4⟩ := h
  refine ⟨A, cap, rfl, h1, h2, h3, fun hn => ?_⟩
  obtain ⟨b, off, rfl, hb, hc⟩ := h4 hn
  exact ⟨b, off, rfl, by omega, fun j hj => (World.cell?_of_block (hk b rfl hb)).trans (hc j hj)⟩
theorem Slc.only {S : List Nat} (h : Slc w size v n cs) (k : Only S w w') (hn : ∀ g, v.ownBlock = some g → g ∉ S) : Slc w' size v n cs :=
  h.keep k.size fun g hg hl => k.block g hl (hn g hg)
theorem Slc.nil (w : World) (size : Nat) : Slc w size (.slice none 0 0) 0 [] := ⟨none, 0, rfl, by simp, Nat.le_refl _, by simp [maxLen], fun h => absurd h (by omega)⟩
theorem Slc.of_own {base : Nat} {e : TypeId} (h : w.ownsRow base e size v n cs) : Slc w size v n cs ∧ ∀ g, v.ownBlock = some g → base ≤ g ∧ g < w.heap.size := by
  refine ⟨?_, h.lt⟩
  obtain ⟨h1, h2⟩ := h
  rcases h2 with ⟨rfl, rfl⟩ | ⟨g, cap, cur, rfl, hb, hg, hn, hc, hs, ht⟩
  · exact ⟨none, 0, rfl, h1, Nat.le_refl _, by simp [maxLen], fun h => absurd h (by omega)⟩
  · refine ⟨some ⟨g, 0, none⟩, cap, rfl, h1, hn, hc, fun _ => ⟨g, 0, rfl, lt_of_block hg, fun j hj => ?_⟩⟩
    rw [cell_of_row w g _ cur e (0, 0) hg, ← ht]
    have hj2 : j < n * size := by omega
    simp [hj2]
end

theorem Slc.cell {w : World} {size n : Nat} {v : Value} {cs : List Value} (h : Slc w size v n cs) : ∃ A cap, v = .slice A n cap ∧ n ≤ cap ∧ cap ≤ maxLen ∧ cs.length = n * size ∧ (n = 0 ∨ ∃ b off, A = some ⟨b, off, none⟩ ∧ b < w.heap.size ∧ ∀ j, j < cs.length → w.cell? ⟨b, off + j, none⟩ = cs[j]?) := by
  obtain ⟨A, cap, hv, h1, h2, h3, h4⟩ := h
  refine ⟨A, cap, hv, h2, h3, h1, ?_⟩
  rcases Nat.eq_zero_or_pos n with h0 | h0
  · exact .inl h0
  · exact .inr (h4 h0)

def ints (l : List Int) : List Value := l.map (Value.int .i64)
def strs (l : List ByteArray) : List Value := l.map Value.string
theorem flat_len {E : Type} (cells : E → List Value) (k : Nat) : ∀ (os : List E), (∀ o ∈ os, (cells o).length = k) → (os.flatMap cells).length = os.length * k
  | [], _ => by simp
  | o :: os, h => by
    rw [List.flatMap_cons, List.length_append, flat_len cells k os (fun x hx => h x (by simp [hx])), h o (by simp), List.length_cons, Nat.add_mul]
    omega
theorem flat_get {E : Type} (cells : E → List Value) (k : Nat) : ∀ (os : List E), (∀ o ∈ os, (cells o).length = k) → ∀ (i r : Nat) (hi : i < os.length), r < k → (os.flatMap cells)[i * k + r]? = (cells os[i])[r]?
  | [], _, _, _, hi, _ => absurd hi (Nat.not_lt_zero _)
  | o :: os, h, 0, r, _, hr => by
    rw [List.flatMap_cons, Nat.zero_mul, Nat.zero_add, List.getElem?_append_left (by rw [h o (by simp)]; exact hr)]
    rfl
  | o :: os, h, i + 1, r, hi, hr => by
    rw [List.flatMap_cons, List.getElem?_append_right (by rw [h o (by simp), Nat.add_mul]; omega), h o (by simp)]
    have : (i + 1) * k + r - k = i * k + r := by rw [Nat.add_mul]; omega
    rw [this, flat_get cells k os (fun x hx => h x (by simp [hx])) i r (by simpa using hi) hr]
    rfl
theorem own_only {S : List Nat} {w w' : World} {base size n : Nat} {e : TypeId} {v : Value} {xs : List Value} (h : w.ownsRow base e size v n xs) (k : Only S w w') (hn : ∀ g, v.ownBlock = some g → g ∉ S) : w'.ownsRow base e size v n xs := by
  obtain ⟨h1, h2⟩ := h
  rcases h2 with ⟨rfl, rfl⟩ | ⟨g, cap, cur, rfl, hb, hg, q⟩
  · exact ⟨h1, .inl ⟨rfl, rfl⟩⟩
  · exact ⟨h1, .inr ⟨g, cap, cur, rfl, hb, (k.block g (lt_of_block hg) (hn g rfl)).trans hg, q⟩⟩

/-- An opened slice of elements of k cells. -/
theorem Slc.openE {E : Type} {w : World} {v : Value} {k : Nat} {os : List E} (cells : E → List Value) (hk : ∀ o, (cells o).length = k) (h : Slc w k v os.length (os.flatMap cells)) :
    ∃ A cap, v = .slice A os.length cap ∧ os.length ≤ cap ∧ cap ≤ maxLen ∧ ∀ j (hj : j < os.length), ∃ b off, A = some ⟨b, off, none⟩ ∧ b < w.heap.size ∧ ∀ r, r < k → w.cell? ⟨b, off + j * k + r, none⟩ = (cells os[j])[r]? := by
  obtain ⟨A, cap, hv, h2, h3, h4, h5⟩ := h.cell
  refine ⟨A, cap, hv, h2, h3, fun j hj => ?_⟩
  rcases h5 with h5 | ⟨b, off, h5, h6, h7⟩
  · omega
  · refine ⟨b, off, h5, h6, fun r hr => ?_⟩
    have hlt : j * k + r < os.length * k := by
      have : (j + 1) * k ≤ os.length * k := Nat.mul_le_mul_right k hj
      rw [Nat.add_mul] at this
      omega
    rw [Nat.add_assoc, h7 _ (by rw [h4]; exact hlt)]
    exact flat_get cells k os (fun o _ => hk o) j r hj hr
theorem Slc.openI {w : World} {v : Value} {zs : List Int} (h : Slc w 1 v zs.length (ints zs)) :
    ∃ A cap, v = .slice A zs.length cap ∧ zs.length ≤ cap ∧ cap ≤ maxLen ∧ ∀ j (hj : j < zs.length), ∃ b off, A = some ⟨b, off, none⟩ ∧ b < w.heap.size ∧ w.cell? ⟨b, off + j, none⟩ = some (.int .i64 zs[j]) := by
  obtain ⟨A, cap, hv, h2, h3, h4, h5⟩ := h.cell
  refine ⟨A, cap, hv, h2, h3, fun j hj => ?_⟩
  rcases h5 with h5 | ⟨b, off, h5, h6, h7⟩
  · omega
  · refine ⟨b, off, h5, h6, ?_⟩
    rw [h7 j (by simpa [ints] using hj)]
    simp [ints, hj]
theorem Slc.openS {w : World} {v : Value} {ss : List ByteArray} (h : Slc w 1 v ss.length (strs ss)) :
    ∃ A cap, v = .slice A ss.length cap ∧ ss.length ≤ cap ∧ cap ≤ maxLen ∧ ∀ j (hj : j < ss.length), ∃ b off, A = some ⟨b, off, none⟩ ∧ b < w.heap.size ∧ w.cell? ⟨b, off + j, none⟩ = some (.string ss[j]) := by
  obtain ⟨A, cap, hv, h2, h3, h4, h5⟩ := h.cell
  refine ⟨A, cap, hv, h2, h3, fun j hj => ?_⟩
  rcases h5 with h5 | ⟨b, off, h5, h6, h7⟩
  · omega
  · refine ⟨b, off, h5, h6, ?_⟩
    rw [h7 j (by simpa [strs] using hj)]
    simp [strs, hj]
theorem Slc.only0 {w w' : World} {size n : Nat} {v : Value} {cs : List Value} (h : Slc w size v n cs) (k : Only [] w w') : Slc w' size v n cs := h.only k (by simp)

/-! ## slices in memory that stays: M are the blocks that may turn -/
def Rd (M : List Nat) (w : World) (size : Nat) (v : Value) (n : Nat) (cs : List Value) : Prop := Slc w size v n cs ∧ ∀ g, v.ownBlock = some g → (g ∉ M ∧ g < w.heap.size) ∨ n = 0
section
variable {M M' S : List Nat} {w w' : World} {size n : Nat} {v : Value} {cs : List Value}
theorem Slc.empty {w' : World} (h : Slc w size v 0 cs) : Slc w' size v 0 cs := by
  obtain ⟨A, cap, hv, h1, h2, h3, h4⟩ := h
  exact ⟨A, cap, hv, h1, h2, h3, fun q => absurd q (Nat.lt_irrefl _)⟩
theorem Rd.only (h : Rd M w size v n cs) (k : Only S w w') (hS : ∀ g ∈ S, g ∈ M) : Rd M w' size v n cs := by
  obtain ⟨h1, h2⟩ := h
  rcases Nat.eq_zero_or_pos n with h0 | h0
  · subst h0
    exact ⟨h1.empty, fun g hg => .inr rfl⟩
  · refine ⟨h1.only k fun g hg q => ?_, fun g hg => ?_⟩
    · rcases h2 g hg with q2 | q2
      · exact q2.1 (hS g q)
      · omega
    · rcases h2 g hg with q2 | q2
      · exact .inl ⟨q2.1, Nat.lt_of_lt_of_le q2.2 k.size⟩
      · omega
theorem Rd.only0 (h : Rd M w size v n cs) (k : Only [] w w') : Rd M w' size v n cs := h.only k (by simp)
theorem Rd.ext (h : Rd M w size v n cs) (hm : ∀ g ∈ M', g ∈ M ∨ w.heap.size ≤ g) : Rd M' w size v n cs :=
  ⟨h.1, fun g hg => (h.2 g hg).imp (fun q => ⟨fun q2 => (hm g q2).elim q.1 (fun q3 => by omega), q.2⟩) id⟩
theorem Rd.nil (M : List Nat) (w : World) (size : Nat) : Rd M w size (.slice none 0 0) 0 [] := ⟨Slc.nil w size, fun g hg => by cases hg⟩
end
end Go.Proofs.YteinoiicnmemhaaGreatDoor
/- Links, plain: numbers in decimal, the text of a link, and back. No program is named. -/
set_option linter.unusedVariables false
set_option linter.unusedSimpArgs false
namespace Go.Proofs.YteinoiicnmemhaaGreatDoor.J
open Go.RowKit
def digitB (b : UInt8) : Bool := !(decide ((b.toNat : Int) < 48) || decide (57 < (b.toNat : Int)))
def val10 (l : List UInt8) : Int := l.foldl (fun n b => 10 * n + ((b.toNat : Int) - 48)) 0
def negB (l : List UInt8) : Bool := List.isPrefixOf [45] l
def magB (l : List UInt8) : List UInt8 := if negB l then l.drop 1 else l
def shapeB (l : List UInt8) : Bool := !(decide ((magB l).length = 0) || decide (18 < (magB l).length) || (decide ((magB l).head? = some 48) && (decide (1 < (magB l).length) || negB l)))
def numB (l : List UInt8) : Option Int := if shapeB l && (magB l).all digitB then some (if negB l then -(val10 (magB l)) else val10 (magB l)) else none
theorem dg_nat {k : Nat} (h : k < 10) : (UInt8.ofNat (48 + k)).toNat = 48 + k := by
  rw [UInt8.toNat_ofNat']
  omega
theorem dec_small {u : Nat} (h : u < 10) : Lib.decDigits u = [UInt8.ofNat (48 + u)] := Lib.decDigits_one h
theorem dec_big {u : Nat} (h : ¬u < 10) : Lib.decDigits u = Lib.decDigits (u / 10) ++ [UInt8.ofNat (48 + u % 10)] := by rw [Lib.decDigits, dif_neg h]
theorem val10_dec (u : Nat) : val10 (Lib.decDigits u) = u := by
  induction u using Nat.strongRecOn with
  | _ u ih =>
    by_cases h : u < 10
    · rw [dec_small h]
      simp only [val10, List.foldl_cons, List.foldl_nil, dg_nat h]
      omega
    · rw [dec_big h]
      have e := ih (u / 10) (by omega)
      unfold val10 at e ⊢
      rw [List.foldl_append, e]
      simp only [List.foldl_cons, List.foldl_nil, dg_nat (Nat.mod_lt u (by decide : 0 < 10))]
      omega
theorem dec_all (u : Nat) : ∀ b ∈ Lib.decDigits u, 48 ≤ b.toNat ∧ b.toNat ≤ 57 := by
  induction u using Nat.strongRecOn with
  | _ u ih =>
    intro b hb
    by_cases h : u < 10
    · rw [dec_small h] at hb
      rw [List.mem_singleton] at hb
      subst hb
      rw [dg_nat h]
      omega
    · rw [dec_big h] at hb
      rcases List.mem_append.1 hb with q | q
      · exact ih (u / 10) (by omega) b q
      · rw [List.mem_singleton] at q
        subst q
        rw [dg_nat (Nat.mod_lt u (by decide : 0 < 10))]
        omega
theorem dec_len : ∀ (k u : Nat), u < 10 ^ (k + 1) → (Lib.decDigits u).length ≤ k + 1
  | 0, u, h => by rw [dec_small (by simpa using h)]; simp
  | k + 1, u, h => by
    by_cases h1 : u < 10
    · rw [dec_small h1]; simp
    · rw [dec_big h1, List.length_append]
      have := dec_len k (u / 10) (by rw [Nat.pow_succ] at h; omega)
      simp
      omega
end Go.Proofs.YteinoiicnmemhaaGreatDoor.J
/- Logs, plain: a log on a disk, and what each call does to both. No program is named. -/
set_option linter.unusedVariables false
set_option linter.unusedSimpArgs false
namespace Go.Proofs.YteinoiicnmemhaaGreatDoor.J
open Go.RowKit
/-- A chunk that stands on the disk. -/
structure PartL where
  bodies : List ByteArray
  used : Int
  done : Bool
def PartL.zero : PartL := ⟨[], 0, false⟩
/-- A log. -/
structure LogS where
  pre : ByteArray
  size : Int
  ps : List PartL
  synced : Int
  mark : Int
  bad : Int
def usedOf (l : List ByteArray) : Int := (l.map fun s => (s.size : Int) + 13).sum
def nameK (p : ByteArray) (k : Int) : ByteArray := p ++ (baL (List.replicate (6 - (Lib.itoa k).length) 48) ++ baL (Lib.itoa k))
def newN (p : ByteArray) : ByteArray := p ++ ⟨#[110, 101, 119]⟩
def markN (p : ByteArray) : ByteArray := p ++ ⟨#[109, 97, 114, 107]⟩
/-- The chunk that a file's name tells. -/
def chunkOf (p s : ByteArray) : Option Int :=
  match numB (49 :: s.data.toList.drop p.size) with
  | some v => if 0 ≤ v - 1000000 ∧ nameK p (v - 1000000) = s then some (v - 1000000) else none
  | none => none
def chunksGo (p : ByteArray) : List ByteArray → Int × Int → Int × Int
  | [], r => r
  | s :: l, r => chunksGo p l (match chunkOf p s with
    | some k => (r.1 + 1, max r.2 k)
    | none => r)
namespace LogS
def len (L : LogS) : Int := (L.ps.map fun p => (p.bodies.length : Int)).sum
def told (L : LogS) (e : Int) : LogS := if e ≠ 0 ∧ e ≠ 20 then { L with bad := e } else L
def setPart (L : LogS) (k : Nat) (p : PartL) : LogS := { L with ps := L.ps.set k p }
def chunks (L : LogS) (D : DS) : Int × Int := chunksGo L.pre (D.list L.pre) (0, -1)
def bytes (D : DS) (n : ByteArray) : ByteArray × Int := if (D.size n).2 ≠ 0 then (⟨#[]⟩, (D.size n).2) else D.read n 0 (D.size n).1
def cut (D : DS) (n : ByteArray) (k : Int) : Int × DS := if (D.truncate n k).1 ≠ 0 then D.truncate n k else (D.truncate n k).2.sync n
def drop (D : DS) (n : ByteArray) : Int × DS := if (D.remove n).1 ≠ 8 then D.remove n else (0, (D.remove n).2)
/-- All frames, up to the first one that is none. -/
def framesGo (b : List UInt8) : Nat → List (List UInt8) → Nat → List (List UInt8) × Nat
  | 0, out, at_ => (out, at_)
  | f + 1, out, at_ => let r := firstF (b.drop at_); if r.2.2 ≠ 0 then (out, at_) else framesGo b f (out ++ [r.1]) (at_ + r.2.1)
def frames (b : List UInt8) : List (List UInt8) × Nat := framesGo b (b.length + 1) [] 0
/-- A whole number at the head of bytes. -/
def headI (b : List UInt8) : Int := if b.length < 8 then 0 else i64of (ofBe (b.take 8))
def marked1 (L : LogS) (D : DS) : Int × LogS × DS :=
  let b := bytes D (markN L.pre)
  if b.2 = 8 then (0, L, D)
  else if b.2 ≠ 0 then (b.2, L, D)
  else
    let r := frames b.1.data.toList
    let L1 := match r.1.getLast? with
      | some f => { L with mark := headI f }
      | none => L
    ((cut D (markN L.pre) r.2).1, L1, (cut D (markN L.pre) r.2).2)
def new (p : ByteArray) (size : Int) : LogS := ⟨p, size, [], 0, 0, 0⟩
def openArg (p : ByteArray) (size : Int) : Bool := decide (1 ≤ p.size) && decide (p.size ≤ 20) && decide (100 ≤ size) && decide (size ≤ 1000000)
def file (L : LogS) (D : DS) (k : Int) (b : List UInt8) : Int × LogS × DS :=
  ((D.append (nameK L.pre k) (baL b)).1, L.told (D.append (nameK L.pre k) (baL b)).1, (D.append (nameK L.pre k) (baL b)).2)
def sync (L : LogS) (D : DS) : Int × LogS × DS :=
  if L.ps.length = 0 then (0, L, D)
  else
    let r := D.sync (nameK L.pre (L.ps.length - 1))
    if r.1 ≠ 0 then (r.1, L.told r.1, r.2) else (0, { L.told r.1 with synced := L.len }, r.2)
def fresh (L : LogS) (D : DS) : Int × LogS × DS :=
  let s := startE L.ps.length L.size
  if s.2 ≠ 0 then (20, L, D)
  else
    let r := L.file D L.ps.length s.1
    if r.1 ≠ 0 then r else (0, { r.2.1 with ps := r.2.1.ps ++ [PartL.zero] }, r.2.2)
def next (L : LogS) (D : DS) (body : ByteArray) : Int × LogS × DS :=
  match L.ps.getLast? with
  | none => L.fresh D
  | some p =>
    if p.done then L.fresh D
    else if (body.size : Int) ≤ roomC L.size p.used then (0, L, D)
    else
      let r := L.file D (L.ps.length - 1) (finE (L.ps.length - 1) p.bodies.length).1
      if r.1 ≠ 0 then r
      else
        let s := (r.2.1.setPart (L.ps.length - 1) { p with done := true }).sync r.2.2
        if s.1 ≠ 0 then s else s.2.1.fresh s.2.2
def append1 (L : LogS) (D : DS) (body : ByteArray) : Int × LogS × DS :=
  let n := L.next D body
  if n.1 ≠ 0 then n
  else
    let r := n.2.1.file n.2.2 (n.2.1.ps.length - 1) (putF (1 :: body.data.toList)).1
    if r.1 ≠ 0 then r
    else match r.2.1.ps.getLast? with
      | none => r
      | some p => (0, r.2.1.setPart (r.2.1.ps.length - 1) { p with bodies := p.bodies ++ [body], used := p.used + (body.size + 13) }, r.2.2)
def appendGo (L : LogS) (D : DS) : List ByteArray → Int × LogS × DS
  | [] => (0, L, D)
  | s :: l => let r := L.append1 D s; if r.1 ≠ 0 then r else r.2.1.appendGo r.2.2 l
/-- Append: the number, the error, what is left. -/
def append (L : LogS) (D : DS) (l : List ByteArray) : (Int × Int) × LogS × DS :=
  if L.bad ≠ 0 then ((0, L.bad), L, D)
  else if l.any (fun s => decide (roomC L.size 0 < (s.size : Int))) then ((0, 2), L, D)
  else
    let r := L.appendGo D l
    if r.1 ≠ 0 then ((0, r.1), r.2) else ((L.len, 0), r.2)
/-- Where a record stands. -/
def findGo : List PartL → Int → Int → Int × Int
  | [], k, n => (k, n)
  | p :: l, k, n => if n < (p.bodies.length : Int) then (k, n) else findGo l (k + 1) (n - p.bodies.length)
def find (L : LogS) (n : Int) : Int × Int := findGo L.ps 0 n
def all (L : LogS) : List ByteArray := L.ps.flatMap (·.bodies)
def get (L : LogS) (n : Int) : ByteArray × Int := if n < 0 ∨ L.len ≤ n then (⟨#[]⟩, 15) else ((L.all[n.toNat]?).getD ⟨#[]⟩, 0)
def range (L : LogS) (from_ most : Int) : List ByteArray := if from_ < 0 then [] else (L.all.drop from_.toNat).take most.toNat
def back (L : LogS) (from_ most : Int) : List ByteArray := if min from_ (L.len - 1) < 0 then [] else ((L.all.take ((min from_ (L.len - 1)).toNat + 1)).reverse).take most.toNat
def shorten (L : LogS) (D : DS) (k at_ : Int) : Int × LogS × DS :=
  match L.ps.getLast? with
  | none => (0, L, D)
  | some p =>
    let r := D.truncate (nameK L.pre k) ((startE k L.size).1.length + usedOf (p.bodies.take at_.toNat))
    if r.1 ≠ 0 then (r.1, L.told r.1, r.2)
    else
      let L1 := (L.told r.1).setPart (L.ps.length - 1) ⟨p.bodies.take at_.toNat, usedOf (p.bodies.take at_.toNat), false⟩
      (0, { L1 with synced := min L1.synced L1.len }, r.2)
/-- The last chunks are removed, down to k + 1 of them, or all. -/
def popGo (L : LogS) (D : DS) (k : Int) (none_ : Bool) : Nat → Int × LogS × DS
  | 0 => (0, L, D)
  | f + 1 =>
    if 0 < L.ps.length ∧ (k < (L.ps.length : Int) - 1 ∨ none_ = true) then
      let r := D.remove (nameK L.pre (L.ps.length - 1))
      if r.1 ≠ 0 then (r.1, L.told r.1, r.2)
      else
        let L1 := { L.told r.1 with ps := L.ps.dropLast }
        popGo { L1 with synced := min L1.synced L1.len } r.2 k none_ f
    else (0, L, D)
def truncate (L : LogS) (D : DS) (n : Int) : Int × LogS × DS :=
  if L.bad ≠ 0 then (L.bad, L, D)
  else if n < 0 ∨ L.len < n then (15, L, D)
  else if n = L.len then (0, L, D)
  else
    let f : Int × Int := if 0 < n then ((L.find (n - 1)).1, (L.find (n - 1)).2 + 1) else (0, 0)
    let r := L.popGo D f.1 (decide (n = 0)) L.ps.length
    if r.1 ≠ 0 then r
    else if n = 0 then (0, r.2) else r.2.1.shorten r.2.2 f.1 f.2
def chunkLens (L : LogS) : List Int := L.ps.map fun p => (p.bodies.length : Int)
end LogS
end Go.Proofs.YteinoiicnmemhaaGreatDoor.J
/- Disks, plain: the numbers of a disk stay small. (Turned from the disk seat's own text.) No program is named. -/
set_option linter.unusedVariables false
set_option linter.unusedSimpArgs false
namespace Go.Proofs.YteinoiicnmemhaaGreatDoor.J
open Go.RowKit Go.Sort
namespace DS
theorem keep_crash (d : DS) (k : List Int) : (d.crash k).keep = d.keep ∨ (d.crash k).keep = [] := by
  unfold crash; split
  · exact .inr rfl
  · exact .inl rfl
theorem keep_done (d : DS) : d.done.keep = d.keep ∨ d.done.keep = [] := by
  unfold done; split
  · rcases keep_crash d.tick d.keep with q | q
    · exact .inl (q.trans (tick_keep d))
    · exact .inr q
  · exact .inl (tick_keep d)
/-- Two disks keep alike much for a crash. -/
def KeepLe (d d' : DS) : Prop := d'.keep.length ≤ d.keep.length
theorem KeepLe.of {d d' : DS} (h : d'.keep = d.keep ∨ d'.keep = []) : KeepLe d d' := by
  unfold KeepLe
  rcases h with h | h <;> rw [h] <;> simp
theorem remove_ok {d : DS} {M : Nat} (h : d.Ok M) (n : ByteArray) : (d.remove n).2.Ok M ∧ KeepLe d (d.remove n).2 := by
  unfold remove
  split
  · exact ⟨h, KeepLe.of (.inl rfl)⟩
  · rename_i h1
    have hf := find_is (by simpa using h1)
    have hd := h.done (may_on hf.1)
    split
    · exact ⟨hd, KeepLe.of (keep_done _)⟩
    · exact ⟨hd.removed n, KeepLe.of (keep_done _)⟩
theorem new_ok (room : Int) : (DS.new room).Ok 0 := ⟨fun q => (by cases q), fun p hp => (by cases hp), Nat.le_refl _, by simp [new], List.nodup_nil, fun p hp => (by cases hp)⟩
end DS
section
variable {D : DS} {M : Nat} {L : LogS}
theorem DS.Ok.mono {M' : Nat} (h : D.Ok M) (hm : M ≤ M') : D.Ok M' := ⟨h.left, h.files, Nat.le_trans h.bytes hm, h.few, h.nodup, h.short⟩
theorem DS.Ok.get_le (h : D.Ok M) (n : ByteArray) : (D.get n).b.size ≤ M := (h.fs.fok.get n).2.2
namespace LogS
theorem told_ps (L : LogS) (e : Int) : (L.told e).ps = L.ps ∧ (L.told e).pre = L.pre ∧ (L.told e).size = L.size ∧ (L.told e).synced = L.synced ∧ (L.told e).mark = L.mark := by
  unfold told; split <;> exact ⟨rfl, rfl, rfl, rfl, rfl⟩
theorem drop_ok (h : D.Ok M) (n : ByteArray) : (drop D n).2.Ok M := by
  unfold drop
  split <;> exact (DS.remove_ok h n).1
end LogS
end
end Go.Proofs.YteinoiicnmemhaaGreatDoor.J
/- Logs, plain: the names of chunks. No program is named. -/
set_option linter.unusedVariables false
set_option linter.unusedSimpArgs false
namespace Go.Proofs.YteinoiicnmemhaaGreatDoor.J
open Go.RowKit
theorem val10_from (l : List UInt8) (n : Int) : l.foldl (fun n b => 10 * n + ((b.toNat : Int) - 48)) n = n * 10 ^ l.length + val10 l := by
  induction l generalizing n with
  | nil => simp [val10]
  | cons b l ih =>
    unfold val10
    rw [List.foldl_cons, ih, List.foldl_cons, ih (10 * 0 + ((b.toNat : Int) - 48)), List.length_cons, Int.pow_succ]
    have e : (10 * n + ((b.toNat : Int) - 48)) * 10 ^ l.length = n * (10 ^ l.length * 10) + ((b.toNat : Int) - 48) * 10 ^ l.length := by
      rw [Int.add_mul, Int.mul_assoc 10 n, Int.mul_comm 10, Int.mul_assoc n]
    have e0 : 10 * 0 + ((b.toNat : Int) - 48) = (b.toNat : Int) - 48 := by omega
    rw [e, e0]
    omega
theorem val10_app (a b : List UInt8) : val10 (a ++ b) = val10 a * 10 ^ b.length + val10 b := by
  unfold val10
  rw [List.foldl_append, val10_from]
  rfl
theorem val10_zeros (m : Nat) : val10 (List.replicate m 48) = 0 := by
  induction m with
  | zero => rfl
  | succ m ih =>
    rw [List.replicate_succ]
    have : (48 : UInt8) :: List.replicate m 48 = [48] ++ List.replicate m 48 := rfl
    rw [this, val10_app, ih]
    have : val10 [48] = 0 := rfl
    rw [this]
    omega
theorem name_list (p : ByteArray) (k : Nat) : (nameK p k).data.toList = p.data.toList ++ (List.replicate (6 - (Lib.decDigits k).length) 48 ++ Lib.decDigits k) := by
  unfold nameK
  rw [Lib.itoa_nonneg]
  simp [baL]
theorem chunkOf_name (p : ByteArray) {k : Nat} (hk : k ≤ 999999) : chunkOf p (nameK p k) = some (k : Int) := by
  have hd : (nameK p k).data.toList.drop p.size = List.replicate (6 - (Lib.decDigits k).length) 48 ++ Lib.decDigits k := by
    rw [name_list]
    exact drop_pre (by simp)
  have hl : (Lib.decDigits k).length ≤ 6 := dec_len 5 k (by omega)
  have hn : numB (49 :: (List.replicate (6 - (Lib.decDigits k).length) 48 ++ Lib.decDigits k)) = some (1000000 + (k : Int)) := by
    obtain ⟨t, ht⟩ : ∃ t, t = List.replicate (6 - (Lib.decDigits k).length) 48 ++ Lib.decDigits k := ⟨_, rfl⟩
    have htl : t.length = 6 := by rw [ht, List.length_append, List.length_replicate]; omega
    have hv : val10 t = k := by rw [ht, val10_app, val10_zeros, val10_dec]; omega
    have hall : t.all digitB = true := by
      rw [ht, List.all_append, List.all_replicate]
      have : (Lib.decDigits k).all digitB = true := by
        rw [List.all_eq_true]
        intro b hb
        have := dec_all k b hb
        unfold digitB
        rw [decide_eq_false (by omega), decide_eq_false (by omega)]
        rfl
      rw [this]
      have : digitB 48 = true := rfl
      rw [this]
      simp
    rw [← ht]
    have hng : negB (49 :: t) = false := rfl
    have hm : magB (49 :: t) = 49 :: t := rfl
    have hs : shapeB (49 :: t) = true := by
      unfold shapeB
      rw [hm, hng]
      simp [htl]
    have hva : val10 (49 :: t) = 1000000 + (k : Int) := by
      have : (49 : UInt8) :: t = [49] ++ t := rfl
      rw [this, val10_app, hv, htl]
      rfl
    unfold numB
    rw [hs, hm, hng, List.all_cons, hall, hva]
    rfl
  unfold chunkOf
  rw [hd, hn]
  dsimp only
  have e : 1000000 + (k : Int) - 1000000 = k := by omega
  rw [e, if_pos ⟨by omega, rfl⟩]
theorem chunkOf_some {p s : ByteArray} {k : Int} (h : chunkOf p s = some k) : 0 ≤ k ∧ nameK p k = s := by
  unfold chunkOf at h
  split at h
  · split at h
    · rename_i q
      injection h with h
      subst h
      exact q
    · cases h
  · cases h
theorem name_inj {p : ByteArray} {j k : Nat} (hj : j ≤ 999999) (hk : k ≤ 999999) (h : nameK p j = nameK p k) : j = k := by
  have h1 := chunkOf_name p hj
  rw [h, chunkOf_name p hk] at h1
  injection h1 with h1
  omega
theorem name_size (p : ByteArray) {k : Nat} (hk : k ≤ 999999) : (nameK p k).size = p.size + 6 := by
  have hl : (Lib.decDigits k).length ≤ 6 := dec_len 5 k (by omega)
  have : (nameK p k).size = (nameK p k).data.toList.length := by simp
  rw [this, name_list]
  simp
  omega
theorem chunkOf_new (p : ByteArray) : chunkOf p (newN p) = none := by
  have hd : (newN p).data.toList.drop p.size = [110, 101, 119] := by
    have : (newN p).data.toList = p.data.toList ++ [110, 101, 119] := by simp [newN]
    rw [this]
    exact drop_pre (by simp)
  unfold chunkOf
  rw [hd]
  rfl
theorem chunkOf_mark (p : ByteArray) : chunkOf p (markN p) = none := by
  have hd : (markN p).data.toList.drop p.size = [109, 97, 114, 107] := by
    have : (markN p).data.toList = p.data.toList ++ [109, 97, 114, 107] := by simp [markN]
    rw [this]
    exact drop_pre (by simp)
  unfold chunkOf
  rw [hd]
  rfl
theorem name_ne_mark (p : ByteArray) {k : Nat} (hk : k ≤ 999999) : nameK p k ≠ markN p := fun e => by
  have := chunkOf_name p hk
  rw [e, chunkOf_mark] at this
  cases this
/-- The names of files: how many chunks, and the greatest one. -/
theorem chunksGo_spec (p : ByteArray) : ∀ (l : List ByteArray) (r : Int × Int), chunksGo p l r = (r.1 + (l.filterMap (chunkOf p)).length, (l.filterMap (chunkOf p)).foldl max r.2)
  | [], r => by simp [chunksGo]
  | s :: l, r => by
    unfold chunksGo
    cases h : chunkOf p s with
    | none =>
      rw [List.filterMap_cons_none h]
      exact chunksGo_spec p l r
    | some k =>
      rw [List.filterMap_cons_some h]
      dsimp only
      rw [chunksGo_spec p l (r.1 + 1, max r.2 k)]
      simp only [List.length_cons, List.foldl_cons]
      congr 1
      omega
theorem foldl_max_ge (l : List Int) (a : Int) : a ≤ l.foldl max a ∧ ∀ x ∈ l, x ≤ l.foldl max a := by
  induction l generalizing a with
  | nil => simp
  | cons b l ih =>
    rw [List.foldl_cons]
    obtain ⟨h1, h2⟩ := ih (max a b)
    refine ⟨by omega, fun x hx => ?_⟩
    rcases List.mem_cons.1 hx with rfl | hx
    · omega
    · exact h2 x hx
theorem foldl_max_mem (l : List Int) (a : Int) : l.foldl max a = a ∨ l.foldl max a ∈ l := by
  induction l generalizing a with
  | nil => simp
  | cons b l ih =>
    rw [List.foldl_cons]
    rcases ih (max a b) with h | h
    · rw [h]
      by_cases q : a ≤ b
      · right
        have : max a b = b := by omega
        rw [this]; simp
      · left; omega
    · right
      simp [h]
/-- A list without doubles of just 0 .. m - 1 has m of them. -/
theorem count_range : ∀ (m : Nat) (l : List Int), l.Nodup → (∀ x, x ∈ l ↔ 0 ≤ x ∧ x < (m : Int)) → l.length = m
  | 0, l, _, h => by
    cases l with
    | nil => rfl
    | cons x l =>
      have := (h x).1 (by simp)
      omega
  | m + 1, l, hn, h => by
    have hm : (m : Int) ∈ l := (h m).2 ⟨by omega, by omega⟩
    have hn2 : (l.erase (m : Int)).Nodup := hn.erase _
    have h2 : ∀ x, x ∈ l.erase (m : Int) ↔ 0 ≤ x ∧ x < (m : Int) := fun x => by
      rw [hn.mem_erase_iff, h]
      omega
    have := count_range m _ hn2 h2
    rw [List.length_erase_of_mem hm] at this
    have := List.length_pos_of_mem hm
    omega
theorem chunks_whole {p : ByteArray} {l : List ByteArray} {m : Nat} (hn : l.Nodup) (hm : m ≤ 999999) (h : ∀ s, s ∈ l → ∀ k, chunkOf p s = some k → k < m) (h2 : ∀ k : Nat, k < m → nameK p k ∈ l) : chunksGo p l (0, -1) = ((m : Int), (m : Int) - 1) := by
  rw [chunksGo_spec]
  have hmem : ∀ x, x ∈ l.filterMap (chunkOf p) ↔ 0 ≤ x ∧ x < (m : Int) := fun x => by
    rw [List.mem_filterMap]
    constructor
    · rintro ⟨s, hs, hk⟩
      exact ⟨(chunkOf_some hk).1, h s hs x hk⟩
    · rintro ⟨q1, q2⟩
      obtain ⟨k, rfl⟩ : ∃ k : Nat, x = k := ⟨x.toNat, by omega⟩
      exact ⟨nameK p k, h2 k (by omega), chunkOf_name p (by omega)⟩
  have hnd : (l.filterMap (chunkOf p)).Nodup := by
    have hp : l.Pairwise (fun a b => a ≠ b) := hn
    show (l.filterMap (chunkOf p)).Pairwise _
    rw [List.pairwise_filterMap]
    refine hp.imp fun {a b} hab x hx y hy e => ?_
    subst e
    exact hab ((chunkOf_some hx).2.symm.trans (chunkOf_some hy).2)
  have hlen := count_range m _ hnd hmem
  rw [hlen]
  congr 1
  · omega
  · obtain ⟨q1, q2⟩ := foldl_max_ge (l.filterMap (chunkOf p)) (-1)
    dsimp only
    by_cases h0 : m = 0
    · subst h0
      have : l.filterMap (chunkOf p) = [] := List.length_eq_zero_iff.1 hlen
      rw [this]
      rfl
    · have q3 := q2 ((m : Int) - 1) ((hmem _).2 ⟨by omega, by omega⟩)
      rcases foldl_max_mem (l.filterMap (chunkOf p)) (-1) with q | q
      · omega
      · have := (hmem _).1 q
        omega
end Go.Proofs.YteinoiicnmemhaaGreatDoor.J
/- Logs, plain: a disk with power and room; a log that fits its files; one more record. No program is named. -/
set_option linter.unusedVariables false
set_option linter.unusedSimpArgs false
namespace Go.Proofs.YteinoiicnmemhaaGreatDoor.J
open Go.RowKit
/-- A disk with power, that is not armed, with room. -/
structure Fine (D : DS) : Prop where
  on : D.on = true
  arm : D.armed = false
  room : D.room ≤ 0
  nd : ANodup D.fs
section
variable {D : DS} {n m : ByteArray} {f : File}
theorem Fine.doneE (h : Fine D) (fs : Files) : ({ D with fs := fs } : DS).doneE = 0 := by
  unfold DS.doneE DS.goes
  rw [h.arm]
  rfl
theorem Fine.done (h : Fine D) (fs : Files) : ({ D with fs := fs } : DS).done = { D with fs := fs } := by
  unfold DS.done DS.goes DS.tick
  rw [h.arm]
  rfl
theorem Fine.doneE0 (h : Fine D) : D.doneE = 0 := h.doneE D.fs
theorem Fine.done0 (h : Fine D) : D.done = D := h.done D.fs
def okName (n : ByteArray) : Prop := 1 ≤ n.size ∧ n.size ≤ 40
theorem ok_bad (h : okName n) : badName n = false := by
  unfold badName
  rw [decide_eq_false (by have := h.1; omega), decide_eq_false (by have := h.2; omega)]
  rfl
theorem Fine.may1 (h : Fine D) (hn : okName n) : D.may [n] = 0 := by
  unfold DS.may
  rw [h.on, if_pos rfl]
  simp [mayAll, ok_bad hn]
theorem Fine.find_some (h : Fine D) (hn : okName n) (hf : aget D.fs n = some f) : D.find n = (f, 0) := by
  unfold DS.find DS.get
  rw [h.may1 hn, if_pos rfl, hf]
  rfl
theorem Fine.find_none (h : Fine D) (hn : okName n) (hf : aget D.fs n = none) : D.find n = (File.zero, 8) := by
  unfold DS.find
  rw [h.may1 hn, if_pos rfl, hf]
  rfl
theorem Fine.append (h : Fine D) (hn : okName n) (hc : (aget D.fs n).isSome = true ∨ D.fs.length < 200) (data : ByteArray) :
    D.append n data = (0, { D with fs := aput D.fs n { D.get n with b := (D.get n).b ++ data } }) := by
  have hfull : D.full n data.size = false := by
    unfold DS.full
    rw [decide_eq_false (by have := h.room; omega : ¬0 < D.room)]
    rcases hc with q | q
    · rw [q]; rfl
    · rw [decide_eq_false (by omega : ¬200 ≤ D.fs.length)]; simp
  unfold DS.append
  rw [h.may1 hn, if_neg (by simp), hfull, if_neg (by simp)]
  dsimp only
  rw [h.doneE, h.done]
theorem Fine.sync (h : Fine D) (hn : okName n) (hf : aget D.fs n = some f) : D.sync n = (0, { D with fs := aput D.fs n ⟨f.b, f.b.size, true⟩ }) := by
  unfold DS.sync
  rw [h.find_some hn hf, if_neg (by simp), h.doneE0, if_neg (by simp), h.done0]
  have : D.get n = f := by unfold DS.get; rw [hf]; rfl
  rw [this]
theorem Fine.truncate (h : Fine D) (hn : okName n) (hf : aget D.fs n = some f) {k : Int} (hk : 0 ≤ k ∧ k ≤ f.b.size) : D.truncate n k = (0, { D with fs := aput D.fs n ⟨f.b.extract 0 k.toNat, min f.lasts k, f.known⟩ }) := by
  have : D.get n = f := by unfold DS.get; rw [hf]; rfl
  unfold DS.truncate
  rw [h.find_some hn hf, if_neg (by simp), this, if_neg (by omega), h.doneE0, if_neg (by simp), h.done0]
theorem Fine.remove (h : Fine D) (hn : okName n) (hf : aget D.fs n = some f) : D.remove n = (0, { D with fs := adel D.fs n }) := by
  unfold DS.remove
  rw [h.find_some hn hf, if_neg (by simp), h.doneE0, if_neg (by simp), h.done0]
theorem Fine.remove_none (h : Fine D) (hn : okName n) (hf : aget D.fs n = none) : D.remove n = (8, D) := by
  unfold DS.remove
  rw [h.find_none hn hf, if_pos (by simp)]
theorem Fine.bytes (h : Fine D) (hn : okName n) (hf : aget D.fs n = some f) : LogS.bytes D n = (f.b, 0) := by
  have hg : D.get n = f := by unfold DS.get; rw [hf]; rfl
  have hs : D.size n = ((f.b.size : Int), (0 : Int)) := by unfold DS.size; rw [h.find_some hn hf]
  unfold LogS.bytes
  rw [hs, if_neg (by simp)]
  unfold DS.read
  rw [h.find_some hn hf, if_neg (by simp), hg, if_neg (by simp)]
  have e : (0 + (f.b.size : Int)).toNat = f.b.size := by omega
  simp only [e]
  congr 1
  simp
theorem Fine.bytes_none (h : Fine D) (hn : okName n) (hf : aget D.fs n = none) : LogS.bytes D n = (⟨#[]⟩, 8) := by
  have hs : D.size n = ((0 : Int), (8 : Int)) := by unfold DS.size; rw [h.find_none hn hf]; rfl
  unfold LogS.bytes
  rw [hs, if_pos (by simp)]
theorem Fine.put (h : Fine D) (n : ByteArray) (f : File) : Fine { D with fs := aput D.fs n f } := ⟨h.on, h.arm, h.room, aput_nodup h.nd n f⟩
theorem Fine.del (h : Fine D) (n : ByteArray) : Fine { D with fs := adel D.fs n } := ⟨h.on, h.arm, h.room, adel_nodup h.nd n⟩
end
/-- A log that fits its files; b: whether the last chunk is done too. -/
structure Good (L : LogS) (D : DS) (b : Bool) (c : Nat) : Prop where
  fine : Fine D
  pre : 1 ≤ L.pre.size ∧ L.pre.size ≤ 20
  size : 100 ≤ L.size ∧ L.size ≤ 1000000
  bad : L.bad = 0
  few : L.ps.length ≤ 150
  cnt : D.fs.length ≤ L.ps.length + c
  cle : c ≤ 40
  used : ∀ p ∈ L.ps, p.used = usedOf p.bodies
  short : ∀ p ∈ L.ps, ∀ s ∈ p.bodies, s.size ≤ 3999
  done : ∀ (k : Nat) p, L.ps[k]? = some p → p.done = (decide (k + 1 < L.ps.length) || b)
  file : ∀ (k : Nat) p, L.ps[k]? = some p → ∃ f, aget D.fs (nameK L.pre k) = some f ∧ f.b = baL (imageB k L.size p.bodies p.done)
  onl : ∀ n f k, aget D.fs n = some f → chunkOf L.pre n = some k → k < L.ps.length
section
variable {L : LogS} {D : DS} {b : Bool} {c : Nat}
theorem Good.name (h : Good L D b c) {k : Nat} (hk : k ≤ 999999) : okName (nameK L.pre k) := by
  have := h.pre
  unfold okName
  rw [name_size L.pre hk]
  omega
theorem Good.noChunk (h : Good L D b c) {k : Nat} (hk : L.ps.length ≤ k) (hk2 : k ≤ 999999) : aget D.fs (nameK L.pre k) = .none := by
  cases hq : aget D.fs (nameK L.pre k) with
  | none => rfl
  | some f =>
    have := h.onl _ f k hq (chunkOf_name L.pre hk2)
    omega
theorem told_zero (L : LogS) : L.told 0 = L := by
  unfold LogS.told
  rw [if_neg (by simp)]
theorem usedOf_app (l m : List ByteArray) : usedOf (l ++ m) = usedOf l + usedOf m := by
  unfold usedOf
  rw [List.map_append, List.sum_append]
theorem usedOf_one (s : ByteArray) : usedOf [s] = s.size + 13 := by simp [usedOf]
theorem recsB_used (l : List ByteArray) : ((recsB l).length : Int) = usedOf l := by
  induction l with
  | nil => rfl
  | cons s l ih =>
    have e1 : recsB (s :: l) = recB s ++ recsB l := by simp [recsB]
    have e2 : usedOf (s :: l) = usedOf [s] + usedOf l := usedOf_app [s] l
    rw [e1, e2, List.length_append, recB_len, usedOf_one, ← ih]
    omega
theorem image_open (k size : Int) (l m : List ByteArray) : imageB k size (l ++ m) false = imageB k size l false ++ recsB m := by
  unfold imageB
  rw [recsB_app]
  simp
theorem image_close (k size : Int) (l : List ByteArray) : imageB k size l true = imageB k size l false ++ finB k l.length := by
  unfold imageB
  simp
theorem putF_rec {s : ByteArray} (h : s.size ≤ 3999) : putF (1 :: s.data.toList) = (recB s, 0) := by
  unfold putF recB
  rw [if_neg (by simp; omega)]
/-- Bytes are put behind the last chunk's. -/
theorem Good.fileLast (h : Good L D b c) {k : Nat} {p : PartL} (hp : L.ps[k]? = some p) (bs : List UInt8) :
    ∃ f, aget D.fs (nameK L.pre k) = some f ∧ f.b = baL (imageB k L.size p.bodies p.done) ∧ L.file D k bs = (0, L, { D with fs := aput D.fs (nameK L.pre k) { f with b := f.b ++ baL bs } }) := by
  obtain ⟨f, h1, h2⟩ := h.file k p hp
  have hk : k < L.ps.length := (List.getElem?_eq_some_iff.1 hp).1
  have hg : D.get (nameK L.pre k) = f := by unfold DS.get; rw [h1]; rfl
  have := h.fine.append (h.name (k := k) (by have := h.few; omega)) (.inl (by rw [h1]; rfl)) (baL bs)
  refine ⟨f, h1, h2, ?_⟩
  unfold LogS.file
  rw [this, hg, told_zero]
/-- The last chunk turns, with its file. -/
theorem Good.turn (h : Good L D b c) {k : Nat} (hk : k + 1 = L.ps.length) {p : PartL} {b' : Bool} (hu : p.used = usedOf p.bodies) (hs : ∀ s ∈ p.bodies, s.size ≤ 3999) (hd : p.done = b') {f : File} (hf : f.b = baL (imageB k L.size p.bodies p.done)) (s' m' : Int) :
    Good ⟨L.pre, L.size, L.ps.set k p, s', m', L.bad⟩ { D with fs := aput D.fs (nameK L.pre k) f } b' c := by
  have hkl : k < L.ps.length := by omega
  have hk9 : k ≤ 999999 := by have := h.few; omega
  have hset : ∀ q ∈ L.ps.set k p, q = p ∨ q ∈ L.ps := fun q hq => by
    rcases List.mem_or_eq_of_mem_set hq with e | e
    · exact .inr e
    · exact .inl e
  obtain ⟨f0, hf0, _⟩ := h.file k _ (List.getElem?_eq_getElem hkl)
  refine ⟨h.fine.put _ _, h.pre, h.size, h.bad, ?_, ?_, h.cle, fun q hq => ?_, fun q hq => ?_, fun j q hj => ?_, fun j q hj => ?_, fun n g j hg hj => ?_⟩
  · show (L.ps.set k p).length ≤ 150
    rw [List.length_set]
    exact h.few
  · show (aput D.fs (nameK L.pre k) f).length ≤ (L.ps.set k p).length + c
    rw [length_aput, hf0, List.length_set]
    exact h.cnt
  · rcases hset q hq with rfl | e
    · exact hu
    · exact h.used q e
  · rcases hset q hq with rfl | e
    · exact hs
    · exact h.short q e
  · have hj : (L.ps.set k p)[j]? = some q := hj
    show q.done = (decide (j + 1 < (L.ps.set k p).length) || b')
    rw [List.getElem?_set] at hj
    rw [List.length_set]
    by_cases e : k = j
    · subst e
      rw [if_pos rfl, if_pos hkl] at hj
      injection hj with hj
      rw [← hj, hd, decide_eq_false (by omega)]
      rfl
    · rw [if_neg e] at hj
      rw [h.done j q hj, decide_eq_true (by have := (List.getElem?_eq_some_iff.1 hj).1; omega)]
      rfl
  · have hj : (L.ps.set k p)[j]? = some q := hj
    show ∃ g, aget (aput D.fs (nameK L.pre k) f) (nameK L.pre j) = some g ∧ g.b = baL (imageB j L.size q.bodies q.done)
    rw [List.getElem?_set] at hj
    rw [aget_aput]
    by_cases e : k = j
    · subst e
      rw [if_pos rfl, if_pos hkl] at hj
      injection hj with hj
      subst hj
      rw [if_pos rfl]
      exact ⟨f, rfl, hf⟩
    · rw [if_neg e] at hj
      have hj2 := (List.getElem?_eq_some_iff.1 hj).1
      rw [if_neg (fun q => e (name_inj hk9 (by have := h.few; omega) q))]
      exact h.file j q hj
  · show j < ((L.ps.set k p).length : Int)
    rw [List.length_set]
    have hg : aget (aput D.fs (nameK L.pre k) f) n = some g := hg
    rw [aget_aput] at hg
    by_cases e : nameK L.pre k = n
    · have hj : chunkOf L.pre n = some j := hj
      rw [← e, chunkOf_name L.pre hk9] at hj
      injection hj with hj
      omega
    · rw [if_neg e] at hg
      exact h.onl n g j hg hj
/-- A new chunk. -/
theorem Good.fresh (h : Good L D true c) (hf : L.ps.length < 150) :
    ∃ f, L.fresh D = (0, ⟨L.pre, L.size, L.ps ++ [PartL.zero], L.synced, L.mark, L.bad⟩, { D with fs := aput D.fs (nameK L.pre L.ps.length) f }) ∧ Good ⟨L.pre, L.size, L.ps ++ [PartL.zero], L.synced, L.mark, L.bad⟩ { D with fs := aput D.fs (nameK L.pre L.ps.length) f } false c := by
  have hk9 : L.ps.length ≤ 999999 := by omega
  have hno := h.noChunk (Nat.le_refl _) hk9
  have hg : D.get (nameK L.pre L.ps.length) = File.zero := by unfold DS.get; rw [hno]; rfl
  have hst := startE_ok (k := (L.ps.length : Int)) ⟨by omega, by omega⟩ h.size
  have hap := h.fine.append (h.name hk9) (.inr (by have := h.cnt; have := h.cle; omega)) (baL (startB L.ps.length L.size))
  rw [hg] at hap
  obtain ⟨f, hff⟩ : ∃ f : File, f = { File.zero with b := File.zero.b ++ baL (startB L.ps.length L.size) } := ⟨_, rfl⟩
  rw [← hff] at hap
  have hfb : f.b = baL (imageB L.ps.length L.size [] false) := by
    have e1 : imageB L.ps.length L.size [] false = startB L.ps.length L.size := by simp [imageB, recsB]
    rw [e1, hff]
    apply ByteArray.ext
    simp [File.zero]
  refine ⟨f, ?_, ?_⟩
  · unfold LogS.fresh
    rw [hst]
    dsimp only
    rw [if_neg (by simp)]
    unfold LogS.file
    rw [hap]
    dsimp only
    rw [if_neg (by simp), told_zero]
  · refine ⟨h.fine.put _ _, h.pre, h.size, h.bad, ?_, ?_, h.cle, fun q hq => ?_, fun q hq => ?_, fun j q hj => ?_, fun j q hj => ?_, fun n g j hg2 hj => ?_⟩
    · show (L.ps ++ [PartL.zero]).length ≤ 150
      rw [List.length_append]
      simp
      omega
    · show (aput D.fs (nameK L.pre L.ps.length) _).length ≤ (L.ps ++ [PartL.zero]).length + c
      rw [length_aput, hno, List.length_append]
      have := h.cnt
      simp
      omega
    · rcases List.mem_append.1 hq with e | e
      · exact h.used q e
      · rw [List.mem_singleton] at e
        subst e
        rfl
    · rcases List.mem_append.1 hq with e | e
      · exact h.short q e
      · rw [List.mem_singleton] at e
        subst e
        intro s hs
        cases hs
    · have hj : (L.ps ++ [PartL.zero])[j]? = some q := hj
      show q.done = (decide (j + 1 < (L.ps ++ [PartL.zero]).length) || false)
      have hj2 := (List.getElem?_eq_some_iff.1 hj).1
      rw [List.length_append] at hj2
      rw [List.length_append, Bool.or_false]
      by_cases e : j < L.ps.length
      · rw [List.getElem?_append_left e] at hj
        rw [h.done j q hj, Bool.or_true, decide_eq_true (by simp; omega)]
      · rw [List.getElem?_append_right (by omega)] at hj
        have : j = L.ps.length := by simp at hj2; omega
        subst this
        rw [Nat.sub_self] at hj
        injection hj with hj
        rw [← hj, decide_eq_false (by simp)]
        rfl
    · have hj : (L.ps ++ [PartL.zero])[j]? = some q := hj
      have hj2 := (List.getElem?_eq_some_iff.1 hj).1
      rw [List.length_append] at hj2
      show ∃ g, aget (aput D.fs (nameK L.pre L.ps.length) f) (nameK L.pre j) = some g ∧ g.b = baL (imageB j L.size q.bodies q.done)
      rw [aget_aput]
      by_cases e : j < L.ps.length
      · rw [List.getElem?_append_left e] at hj
        rw [if_neg (fun q => by have := name_inj hk9 (by omega) q; omega)]
        exact h.file j q hj
      · rw [List.getElem?_append_right (by omega)] at hj
        have : j = L.ps.length := by simp at hj2; omega
        subst this
        rw [Nat.sub_self] at hj
        injection hj with hj
        subst hj
        rw [if_pos rfl]
        exact ⟨f, rfl, hfb⟩
    · have hg2 : aget (aput D.fs (nameK L.pre L.ps.length) f) n = some g := hg2
      show j < (((L.ps ++ [PartL.zero]).length : Nat) : Int)
      rw [List.length_append]
      rw [aget_aput] at hg2
      by_cases e : nameK L.pre L.ps.length = n
      · have hj : chunkOf L.pre n = some j := hj
        rw [← e, chunkOf_name L.pre hk9] at hj
        injection hj with hj
        simp
        omega
      · rw [if_neg e] at hg2
        have := h.onl n g j hg2 hj
        simp
        omega
end
end Go.Proofs.YteinoiicnmemhaaGreatDoor.J
/- Logs, plain: records are appended. No program is named. -/
set_option linter.unusedVariables false
set_option linter.unusedSimpArgs false
namespace Go.Proofs.YteinoiicnmemhaaGreatDoor.J
open Go.RowKit
theorem aput_aput {κ ν : Type} [DecidableEq κ] (l : List (κ × ν)) (k : κ) (v u : ν) : aput (aput l k v) k u = aput l k u := by
  induction l with
  | nil => simp [aput]
  | cons p l ih =>
    obtain ⟨a, b⟩ := p
    unfold aput
    by_cases h : a = k
    · rw [if_pos h]
      simp [aput, h]
    · rw [if_neg h]
      simp only [aput, if_neg h, ih]
/-- What no call on chunks touches. -/
def Same4 (L L' : LogS) (D D' : DS) : Prop := L'.pre = L.pre ∧ L'.size = L.size ∧ L'.mark = L.mark ∧ ∀ n, chunkOf L.pre n = none → aget D'.fs n = aget D.fs n
theorem Same4.refl (L : LogS) (D : DS) : Same4 L L D D := ⟨rfl, rfl, rfl, fun _ _ => rfl⟩
theorem Same4.trans {L L' L'' : LogS} {D D' D'' : DS} (h : Same4 L L' D D') (k : Same4 L' L'' D' D'') : Same4 L L'' D D'' :=
  ⟨k.1.trans h.1, k.2.1.trans h.2.1, k.2.2.1.trans h.2.2.1, fun n hn => (k.2.2.2 n (by rw [h.1]; exact hn)).trans (h.2.2.2 n hn)⟩
/-- All files but the last chunk's last. -/
def Firm4 (L : LogS) (D : DS) : Prop := ∀ n f, aget D.fs n = some f → (∀ k : Nat, k + 1 = L.ps.length → n ≠ nameK L.pre k) → f.lasts = f.b.size ∧ f.known = true
theorem roomC_le (size used : Int) : roomC size used ≤ 3999 := by
  unfold roomC
  split <;> omega
section
variable {L : LogS} {D : DS} {b : Bool} {c : Nat}
theorem Good.empty (h : Good L D b c) (he : L.ps = []) (b' : Bool) : Good L D b' c := ⟨h.fine, h.pre, h.size, h.bad, h.few, h.cnt, h.cle, h.used, h.short, fun k p hp => by rw [he] at hp; simp at hp, h.file, h.onl⟩
theorem put_other {L : LogS} {D : DS} {k : Nat} (hk : k ≤ 999999) (f : File) {n : ByteArray} (hn : chunkOf L.pre n = none) : aget (aput D.fs (nameK L.pre k) f) n = aget D.fs n := by
  rw [aget_aput, if_neg (fun q => by rw [← q, chunkOf_name L.pre hk] at hn; cases hn)]
theorem last_get {l : List PartL} {p : PartL} (h : l.getLast? = some p) : ∃ k, k + 1 = l.length ∧ l[k]? = some p ∧ ((l.length : Int) - 1 = (k : Nat)) ∧ l.length - 1 = k := by
  rw [List.getLast?_eq_getElem?] at h
  have := (List.getElem?_eq_some_iff.1 h).1
  exact ⟨l.length - 1, by omega, h, by omega, rfl⟩
theorem all_set {ps : List PartL} {k : Nat} {p q : PartL} (hp : ps[k]? = some p) (hk : k + 1 = ps.length) : (ps.set k q).flatMap (·.bodies) = (ps.dropLast).flatMap (·.bodies) ++ q.bodies ∧ ps.flatMap (·.bodies) = (ps.dropLast).flatMap (·.bodies) ++ p.bodies := by
  have hne : ps ≠ [] := fun e => by rw [e] at hk; simp at hk
  have hl := List.dropLast_concat_getLast hne
  have hlast : ps.getLast hne = p := by
    rw [List.getLast_eq_getElem]
    have := (List.getElem?_eq_some_iff.1 hp).2
    have e : ps.length - 1 = k := by omega
    simp only [e]
    exact this
  rw [hlast] at hl
  have hdl : ps.dropLast.length = k := by rw [List.length_dropLast]; omega
  constructor
  · rw [← hl, List.set_append_right _ _ (by omega), hdl]
    simp
  · conv => lhs; rw [← hl]
    simp
theorem Good.next (h : Good L D false c) (hf : L.ps.length < 149) (s : ByteArray) :
    ∃ L' D', L.next D s = (0, L', D') ∧ Good L' D' false c ∧ 0 < L'.ps.length ∧ L'.ps.length ≤ L.ps.length + 1 ∧ L'.all = L.all ∧ Same4 L L' D D' ∧ (Firm4 L D → Firm4 L' D') := by
  cases hl : L.ps.getLast? with
  | none =>
    have he : L.ps = [] := List.getLast?_eq_none_iff.1 hl
    obtain ⟨f, h1, h2⟩ := (h.empty he true).fresh (by omega)
    refine ⟨_, _, by unfold LogS.next; rw [hl]; exact h1, h2, ?_, ?_, ?_, ⟨rfl, rfl, rfl, fun n hn => put_other (by omega) f hn⟩, fun hfm n g hg hne => ?_⟩
    · simp
    · simp
    · simp [LogS.all, PartL.zero]
    · have hg : aget (aput D.fs (nameK L.pre L.ps.length) f) n = some g := hg
      have hne : n ≠ nameK L.pre L.ps.length := hne L.ps.length (by simp)
      rw [aget_aput, if_neg (fun q => hne q.symm)] at hg
      exact hfm n g hg (fun k hk => by rw [he] at hk; simp at hk)
  | some p =>
    obtain ⟨k, hk, hp, hki, hkn⟩ := last_get hl
    have hd : p.done = false := by rw [h.done k p hp, decide_eq_false (by omega)]; rfl
    have hk9 : k ≤ 999999 := by omega
    unfold LogS.next
    rw [hl]
    dsimp only
    rw [hd, if_neg (by simp)]
    by_cases hr : (s.size : Int) ≤ roomC L.size p.used
    · rw [if_pos hr]
      exact ⟨L, D, rfl, h, by omega, by omega, rfl, Same4.refl _ _, fun h => h⟩
    · rw [if_neg hr, hki, finE_ok ⟨by omega, by omega⟩ (by omega)]
      dsimp only
      obtain ⟨f, hf1, hf2, hf3⟩ := h.fileLast hp (finB k p.bodies.length)
      rw [hf3]
      dsimp only
      rw [if_neg (by simp), hkn]
      obtain ⟨f2, hf2e⟩ : ∃ f2 : File, f2 = { f with b := f.b ++ baL (finB k p.bodies.length) } := ⟨_, rfl⟩
      rw [← hf2e]
      have hfine := h.fine.put (nameK L.pre k) f2
      have hsy := hfine.sync (n := nameK L.pre k) (f := f2) (h.name hk9) (by show aget (aput D.fs (nameK L.pre k) f2) _ = _; rw [aget_aput, if_pos rfl])
      have hsyn : (L.setPart k { p with done := true }).sync { D with fs := aput D.fs (nameK L.pre k) f2 } = (0, ⟨L.pre, L.size, L.ps.set k { p with done := true }, (L.setPart k { p with done := true }).len, L.mark, L.bad⟩, { D with fs := aput D.fs (nameK L.pre k) ⟨f2.b, f2.b.size, true⟩ }) := by
        unfold LogS.sync
        have e1 : (L.setPart k { p with done := true }).ps.length = L.ps.length := List.length_set
        rw [e1, if_neg (by omega), hki]
        have e2 : (L.setPart k { p with done := true }).pre = L.pre := rfl
        rw [e2, hsy]
        dsimp only
        rw [if_neg (by simp), told_zero, aput_aput]
        rfl
      rw [hsyn]
      dsimp only
      rw [if_neg (by simp)]
      have hg := h.turn hk (p := { p with done := true }) (b' := true) (h.used p (List.mem_of_getElem? hp)) (h.short p (List.mem_of_getElem? hp)) rfl (f := ⟨f2.b, f2.b.size, true⟩) (by
        show f2.b = baL (imageB k L.size p.bodies true)
        rw [image_close, ← baL_append, hf2e]
        show f.b ++ _ = _
        rw [hf2, hd]) (L.setPart k { p with done := true }).len L.mark
      obtain ⟨f3, g1, g2⟩ := hg.fresh (by show (L.ps.set k _).length < 150; rw [List.length_set]; omega)
      obtain ⟨a1, a2⟩ := all_set (q := { p with done := true }) hp hk
      refine ⟨_, _, g1, g2, ?_, ?_, ?_, ⟨rfl, rfl, rfl, fun n hn => ?_⟩, fun hfm n g hg hne => ?_⟩
      · simp
      · simp
      · show ((L.ps.set k { p with done := true }) ++ [PartL.zero]).flatMap (·.bodies) = L.ps.flatMap (·.bodies)
        rw [List.flatMap_append, a1, a2]
        simp [PartL.zero]
      · show aget (aput (aput D.fs (nameK L.pre k) _) (nameK L.pre _) f3) n = _
        rw [aget_aput, if_neg (fun q => by rw [← q, chunkOf_name L.pre (by rw [List.length_set]; omega)] at hn; cases hn)]
        exact put_other hk9 _ hn
      · have hg : aget (aput (aput D.fs (nameK L.pre k) (⟨f2.b, f2.b.size, true⟩ : File)) (nameK L.pre (L.ps.set k { p with done := true }).length) f3) n = some g := hg
        have hne : n ≠ nameK L.pre (L.ps.set k { p with done := true }).length := hne (L.ps.set k { p with done := true }).length (by simp)
        rw [aget_aput, if_neg (fun q => hne q.symm), aget_aput] at hg
        by_cases e : nameK L.pre k = n
        · rw [if_pos e] at hg
          injection hg with hg
          subst hg
          exact ⟨rfl, rfl⟩
        · rw [if_neg e] at hg
          exact hfm n g hg (fun j hj => by
            have : j = k := by omega
            rw [this]
            exact fun q => e q.symm)
theorem Good.append1 (h : Good L D false c) (hf : L.ps.length < 149) {s : ByteArray} (hs : (s.size : Int) ≤ roomC L.size 0) :
    ∃ L' D', L.append1 D s = (0, L', D') ∧ Good L' D' false c ∧ L'.ps.length ≤ L.ps.length + 1 ∧ L'.all = L.all ++ [s] ∧ Same4 L L' D D' ∧ (Firm4 L D → Firm4 L' D') := by
  have hs9 : s.size ≤ 3999 := by have := roomC_le L.size 0; omega
  obtain ⟨L1, D1, h1, h2, h3, h4, h5, h6, h7⟩ := h.next hf s
  obtain ⟨p, hl⟩ : ∃ p, L1.ps.getLast? = some p := by
    cases hq : L1.ps.getLast? with
    | none => rw [List.getLast?_eq_none_iff.1 hq] at h3; simp at h3
    | some p => exact ⟨p, rfl⟩
  obtain ⟨k, hk, hp, hki, hkn⟩ := last_get hl
  have hd : p.done = false := by rw [h2.done k p hp, decide_eq_false (by omega)]; rfl
  obtain ⟨f, g1, g2, g3⟩ := h2.fileLast hp (recB s)
  have hg := h2.turn hk (p := { p with bodies := p.bodies ++ [s], used := p.used + (s.size + 13) }) (b' := false)
    (by show p.used + _ = usedOf (p.bodies ++ [s]); rw [usedOf_app, usedOf_one, h2.used p (List.mem_of_getElem? hp)])
    (fun t ht => by
      rcases List.mem_append.1 ht with q | q
      · exact h2.short p (List.mem_of_getElem? hp) t q
      · rw [List.mem_singleton] at q
        subst q
        exact hs9) hd (f := { f with b := f.b ++ baL (recB s) }) (by
      show f.b ++ baL (recB s) = baL (imageB k L1.size (p.bodies ++ [s]) p.done)
      rw [hd, image_open, recsB_one, ← baL_append, g2, hd]) L1.synced L1.mark
  obtain ⟨a1, a2⟩ := all_set (q := { p with bodies := p.bodies ++ [s], used := p.used + (s.size + 13) }) hp hk
  refine ⟨_, _, ?_, hg, ?_, ?_, h6.trans ⟨rfl, rfl, rfl, fun n hn => put_other (by have := h2.few; omega) _ hn⟩, fun hfm n g hgn hne => ?_⟩
  · unfold LogS.append1
    rw [h1]
    dsimp only
    rw [if_neg (by simp), putF_rec hs9, hki]
    dsimp only
    rw [g3]
    dsimp only
    rw [if_neg (by simp), hl]
    dsimp only
    rw [hkn]
    rfl
  · show (L1.ps.set k _).length ≤ _
    rw [List.length_set]
    exact h4
  · show (L1.ps.set k _).flatMap (·.bodies) = _
    rw [a1, ← h5]
    show _ = L1.ps.flatMap (·.bodies) ++ [s]
    rw [a2]
    simp
  · have hgn : aget (aput D1.fs (nameK L1.pre k) _) n = some g := hgn
    have hne : n ≠ nameK L1.pre k := hne k (by show k + 1 = (L1.ps.set k _).length; rw [List.length_set]; exact hk)
    rw [aget_aput, if_neg (fun q => hne q.symm)] at hgn
    exact h7 hfm n g hgn (fun j hj => by
      have : j = k := by omega
      rw [this]
      exact hne)
theorem Good.appendGo : ∀ (l : List ByteArray) {L : LogS} {D : DS}, Good L D false c → L.ps.length + l.length < 150 → (∀ s ∈ l, (s.size : Int) ≤ roomC L.size 0) →
    ∃ L' D', L.appendGo D l = (0, L', D') ∧ Good L' D' false c ∧ L'.ps.length ≤ L.ps.length + l.length ∧ L'.all = L.all ++ l ∧ Same4 L L' D D' ∧ (Firm4 L D → Firm4 L' D')
  | [], L, D, h, hf, hs => ⟨L, D, rfl, h, by simp, by simp, Same4.refl _ _, fun h => h⟩
  | s :: l, L, D, h, hf, hs => by
    simp only [List.length_cons] at hf
    obtain ⟨L1, D1, h1, h2, h3, h4, h5, h6⟩ := h.append1 (by omega) (hs s (by simp))
    obtain ⟨L2, D2, g1, g2, g3, g4, g5, g6⟩ := Good.appendGo l h2 (by omega) (fun t ht => by rw [h5.2.1]; exact hs t (by simp [ht]))
    refine ⟨L2, D2, ?_, g2, by simp; omega, by rw [g4, h4]; simp, h5.trans g5, fun q => g6 (h6 q)⟩
    unfold LogS.appendGo
    rw [h1]
    dsimp only
    rw [if_neg (by simp), g1]
theorem len_all (L : LogS) : L.len = L.all.length := by
  unfold LogS.len LogS.all
  induction L.ps with
  | nil => rfl
  | cons p l ih =>
    simp only [List.map_cons, List.sum_cons, List.flatMap_cons, List.length_append, ih]
    omega
/-- Append: all fit, and are there; or one is too long, and nothing is there. -/
theorem Good.append (h : Good L D false c) {l : List ByteArray} (hf : L.ps.length + l.length < 150) :
    ((∀ s ∈ l, (s.size : Int) ≤ roomC L.size 0) ∧ ∃ L' D', L.append D l = (((L.all.length : Int), (0 : Int)), L', D') ∧ Good L' D' false c ∧ L'.all = L.all ++ l ∧ Same4 L L' D D' ∧ L'.ps.length ≤ L.ps.length + l.length ∧ (Firm4 L D → Firm4 L' D')) ∨
    ((¬∀ s ∈ l, (s.size : Int) ≤ roomC L.size 0) ∧ L.append D l = ((0, 2), L, D)) := by
  by_cases hs : ∀ s ∈ l, (s.size : Int) ≤ roomC L.size 0
  · left
    obtain ⟨L', D', h1, h2, h3, h4, h5, h6⟩ := h.appendGo l hf hs
    refine ⟨hs, L', D', ?_, h2, h4, h5, h3, h6⟩
    unfold LogS.append
    rw [h.bad, if_neg (by simp), if_neg, h1]
    · dsimp only
      rw [if_neg (by simp), len_all]
    · simp only [List.any_eq_true, decide_eq_true_eq, not_exists, not_and]
      intro s hm
      have := hs s hm
      omega
  · right
    refine ⟨hs, ?_⟩
    unfold LogS.append
    rw [h.bad, if_neg (by simp), if_pos]
    simp only [List.any_eq_true, decide_eq_true_eq]
    simp only [Classical.not_forall] at hs
    obtain ⟨s, hm, hq⟩ := hs
    exact ⟨s, hm, by omega⟩
end
end Go.Proofs.YteinoiicnmemhaaGreatDoor.J
/- Logs, plain: a log is opened. No program is named. -/
set_option linter.unusedVariables false
set_option linter.unusedSimpArgs false
namespace Go.Proofs.YteinoiicnmemhaaGreatDoor.J
open Go.RowKit
theorem bts_injL {a b : ByteArray} (h : a.data.toList = b.data.toList) : a = b := by rw [← baL_bts a, h, baL_bts]
theorem mem_names (D : DS) (n : ByteArray) : n ∈ D.names ↔ (aget D.fs n).isSome = true := by
  have h1 : (aget D.fs n).isSome = true ↔ n ∈ D.fs.map (·.1) := by
    have := aget_none (l := D.fs) (k := n)
    constructor
    · intro h
      apply Classical.byContradiction
      intro q
      rw [this.2 q] at h
      cases h
    · intro h
      cases hq : aget D.fs n with
      | none => exact absurd h (this.1 hq)
      | some _ => rfl
  rw [h1]
  unfold DS.names
  rw [List.mem_map]
  constructor
  · rintro ⟨l, hl, rfl⟩
    rw [List.mem_mergeSort, List.mem_map] at hl
    obtain ⟨p, hp, rfl⟩ := hl
    exact List.mem_map.2 ⟨p, hp, rfl⟩
  · intro h
    obtain ⟨p, hp, rfl⟩ := List.mem_map.1 h
    exact ⟨p.1.data.toList, by rw [List.mem_mergeSort, List.mem_map]; exact ⟨p, hp, rfl⟩, rfl⟩
theorem names_nodup {D : DS} (h : ANodup D.fs) : D.names.Nodup := by
  unfold DS.names
  have h1 : (D.fs.map fun p => p.1.data.toList).Nodup := by
    have h0 : (D.fs.map (·.1)).Nodup := h
    have : (D.fs.map fun p => p.1.data.toList) = (D.fs.map (·.1)).map (fun s => s.data.toList) := by rw [List.map_map]; rfl
    rw [this]
    show List.Pairwise _ _
    rw [List.pairwise_map]
    exact List.Pairwise.imp (fun {a b} hab e => hab (bts_injL e)) h0
  have h2 : ((D.fs.map fun p => p.1.data.toList).mergeSort fun x y => decide (x ≤ y)).Nodup := (List.mergeSort_perm _ _).nodup_iff.2 h1
  show List.Pairwise _ _
  rw [List.pairwise_map]
  exact List.Pairwise.imp (fun {a b} hab e => hab (baL_inj e)) h2
/-! ## the chaser's file -/
def fitsI (m : Int) : Prop := -9223372036854775808 ≤ m ∧ m ≤ 9223372036854775807
def markF (l : List Int) : List UInt8 := (l.map i64B).flatMap frameB
/-- A log, all of its files, and the chaser's. -/
structure Whole (L : LogS) (D : DS) : Prop where
  good : Good L D false 1
  new : aget D.fs (newN L.pre) = none
  mark : (aget D.fs (markN L.pre) = none ∧ L.mark = 0 ∧ D.fs.length ≤ L.ps.length) ∨ ∃ f ms, aget D.fs (markN L.pre) = some f ∧ f.b = baL (markF (ms ++ [L.mark])) ∧ ∀ m ∈ ms ++ [L.mark], fitsI m
section
variable {L : LogS} {D : DS} {b : Bool} {c : Nat}
theorem Good.chunks (h : Good L D b c) (s m x : Int) (ps : List PartL) : LogS.chunks ⟨L.pre, L.size, ps, s, m, x⟩ D = ((L.ps.length : Int), (L.ps.length : Int) - 1) := by
  unfold LogS.chunks DS.list
  dsimp only
  rw [h.fine.on, if_pos rfl]
  have hmem : ∀ n, n ∈ D.names.filter (fun s => L.pre.data.toList.isPrefixOf s.data.toList) ↔ (aget D.fs n).isSome = true ∧ L.pre.data.toList.isPrefixOf n.data.toList = true := fun n => by
    rw [List.mem_filter, mem_names]
  refine chunks_whole ((names_nodup h.fine.nd).filter _) (by have := h.few; omega) (fun n hn k hk => ?_) (fun k hk => ?_)
  · have := ((hmem n).1 hn).1
    obtain ⟨f, hf⟩ := Option.isSome_iff_exists.1 this
    exact h.onl n f k hf hk
  · rw [hmem]
    obtain ⟨f, hf, _⟩ := h.file k _ (List.getElem?_eq_getElem hk)
    refine ⟨by rw [hf]; rfl, ?_⟩
    rw [name_list]
    rw [List.isPrefixOf_iff_prefix]
    exact List.prefix_append _ _
end
end Go.Proofs.YteinoiicnmemhaaGreatDoor.J
/- Logs, plain: a log is cut. No program is named. -/
set_option linter.unusedVariables false
set_option linter.unusedSimpArgs false
namespace Go.Proofs.YteinoiicnmemhaaGreatDoor.J
open Go.RowKit
theorem baL_extract (l : List UInt8) (n : Nat) : (baL l).extract 0 n = baL (l.take n) := by
  apply bts_injL
  rw [bts_baL]
  simp [baL]
/-- Where a record stands. -/
theorem findGo_spec : ∀ (ps : List PartL) (k m : Nat), m < (ps.flatMap (·.bodies)).length → ∃ j r p, LogS.findGo ps k m = (((k + j : Nat) : Int), ((r : Nat) : Int)) ∧ ps[j]? = some p ∧ r < p.bodies.length ∧
    (ps.flatMap (·.bodies)).take (m + 1) = (ps.take j).flatMap (·.bodies) ++ p.bodies.take (r + 1) ∧ (ps.flatMap (·.bodies))[m]? = p.bodies[r]?
  | [], k, m, h => by simp at h
  | p :: l, k, m, h => by
    unfold LogS.findGo
    rw [List.flatMap_cons, List.length_append] at h
    by_cases hm : m < p.bodies.length
    · rw [if_pos (by omega)]
      refine ⟨0, m, p, rfl, rfl, hm, ?_, ?_⟩
      · rw [List.flatMap_cons, List.take_append_of_le_length (by omega)]
        simp
      · rw [List.flatMap_cons, List.getElem?_append_left hm]
    · rw [if_neg (by omega)]
      obtain ⟨j, r, q, h1, h2, h3, h4, h5⟩ := findGo_spec l (k + 1) (m - p.bodies.length) (by omega)
      refine ⟨j + 1, r, q, ?_, by simpa using h2, h3, ?_, ?_⟩
      · have e1 : (k : Int) + 1 = ((k + 1 : Nat) : Int) := by omega
        have e2 : (m : Int) - p.bodies.length = ((m - p.bodies.length : Nat) : Int) := by omega
        rw [e1, e2, h1]
        have : k + 1 + j = k + (j + 1) := by omega
        rw [this]
      · rw [List.flatMap_cons, List.take_append, List.take_of_length_le (by omega)]
        have : m + 1 - p.bodies.length = m - p.bodies.length + 1 := by omega
        rw [this, h4, List.take_succ_cons, List.flatMap_cons, List.append_assoc]
      · rw [List.flatMap_cons, List.getElem?_append_right (by omega), h5]
section
variable {L : LogS} {D : DS} {b : Bool} {c : Nat}
theorem del_other {L : LogS} {D : DS} (hn : ANodup D.fs) {k : Nat} (hk : k ≤ 999999) {n : ByteArray} (h : chunkOf L.pre n = none) : aget (adel D.fs (nameK L.pre k)) n = aget D.fs n := by
  rw [aget_adel hn, if_neg (fun q => by rw [← q, chunkOf_name L.pre hk] at h; cases h)]
/-- The last chunk is removed. -/
theorem Good.pop (h : Good L D b c) {k : Nat} (hk : k + 1 = L.ps.length) (s' m' : Int) :
    D.remove (nameK L.pre k) = (0, { D with fs := adel D.fs (nameK L.pre k) }) ∧ Good ⟨L.pre, L.size, L.ps.dropLast, s', m', L.bad⟩ { D with fs := adel D.fs (nameK L.pre k) } true c := by
  have hk9 : k ≤ 999999 := by have := h.few; omega
  obtain ⟨f, hf, _⟩ := h.file k _ (List.getElem?_eq_getElem (by omega))
  refine ⟨h.fine.remove (h.name hk9) hf, ?_⟩
  have hdl : L.ps.dropLast.length = k := by rw [List.length_dropLast]; omega
  have hget : ∀ (j : Nat) (q : PartL), L.ps.dropLast[j]? = some q → j < k ∧ L.ps[j]? = some q := fun j q hj => by
    have h1 := (List.getElem?_eq_some_iff.1 hj).1
    rw [hdl] at h1
    rw [List.getElem?_dropLast, if_pos (by omega)] at hj
    exact ⟨h1, hj⟩
  have hmem : ∀ q ∈ L.ps.dropLast, q ∈ L.ps := fun q hq => (List.dropLast_sublist _).subset hq
  refine ⟨h.fine.del _, h.pre, h.size, h.bad, ?_, ?_, h.cle, fun q hq => h.used q (hmem q hq), fun q hq => h.short q (hmem q hq), fun j q hj => ?_, fun j q hj => ?_, fun n g j hg hj => ?_⟩
  · show L.ps.dropLast.length ≤ 150
    have := h.few
    omega
  · show (adel D.fs (nameK L.pre k)).length ≤ L.ps.dropLast.length + c
    rw [length_adel, hf, hdl]
    have := h.cnt
    simp
    omega
  · have hj : L.ps.dropLast[j]? = some q := hj
    obtain ⟨h1, h2⟩ := hget j q hj
    show q.done = (decide (j + 1 < L.ps.dropLast.length) || true)
    rw [h.done j q h2, decide_eq_true (by omega)]
    simp
  · have hj : L.ps.dropLast[j]? = some q := hj
    obtain ⟨h1, h2⟩ := hget j q hj
    show ∃ g, aget (adel D.fs (nameK L.pre k)) (nameK L.pre j) = some g ∧ _
    rw [aget_adel h.fine.nd, if_neg (fun q => by have := name_inj hk9 (by omega) q; omega)]
    exact h.file j q h2
  · have hg : aget (adel D.fs (nameK L.pre k)) n = some g := hg
    show j < (L.ps.dropLast.length : Int)
    rw [aget_adel h.fine.nd] at hg
    by_cases e : nameK L.pre k = n
    · rw [if_pos e] at hg
      cases hg
    · rw [if_neg e] at hg
      have h1 := h.onl n g j hg hj
      have h2 := chunkOf_some hj
      have h3 : j ≠ k := fun q => e (by rw [← h2.2, q])
      omega
theorem popStep (h : Good L D b c) {k : Nat} (hk : k + 1 = L.ps.length) (t : Int) (z : Bool) (hz : t < k ∨ z = true) (f : Nat) :
    ∃ s', L.popGo D t z (f + 1) = LogS.popGo ⟨L.pre, L.size, L.ps.dropLast, s', L.mark, L.bad⟩ { D with fs := adel D.fs (nameK L.pre k) } t z f := by
  have e : (L.ps.length : Int) - 1 = k := by omega
  refine ⟨min L.synced (LogS.len ⟨L.pre, L.size, L.ps.dropLast, L.synced, L.mark, L.bad⟩), ?_⟩
  rw [LogS.popGo]
  rw [if_pos ⟨by omega, by rw [e]; exact hz⟩, e, (h.pop hk 0 0).1]
  dsimp only
  rw [if_neg (by simp), told_zero]
/-- The last chunks are removed. -/
theorem Good.popTo : ∀ (j : Nat) {L : LogS} {D : DS} {b : Bool} {k f : Nat}, Good L D b c → L.ps.length = k + 1 + j → j ≤ f →
    ∃ s' D', L.popGo D k false f = (0, ⟨L.pre, L.size, L.ps.take (k + 1), s', L.mark, L.bad⟩, D') ∧ (∃ b', Good ⟨L.pre, L.size, L.ps.take (k + 1), s', L.mark, L.bad⟩ D' b' c) ∧ ∀ n, chunkOf L.pre n = none → aget D'.fs n = aget D.fs n
  | 0, L, D, b, k, f, h, hl, hf => by
    have e : L.ps.take (k + 1) = L.ps := List.take_of_length_le (by omega)
    rw [e]
    refine ⟨L.synced, D, ?_, ⟨b, h⟩, fun _ _ => rfl⟩
    cases f with
    | zero => rfl
    | succ f =>
      rw [LogS.popGo, if_neg]
      rintro ⟨_, q | q⟩
      · omega
      · cases q
  | j + 1, L, D, b, k, f, h, hl, hf => by
    obtain ⟨f, rfl⟩ : ∃ g, f = g + 1 := ⟨f - 1, by omega⟩
    obtain ⟨i, hi⟩ : ∃ i, i + 1 = L.ps.length := ⟨L.ps.length - 1, by omega⟩
    obtain ⟨s', hs⟩ := popStep h hi k false (.inl (by omega)) f
    rw [hs]
    have hg := (h.pop hi s' L.mark).2
    have hdl : L.ps.dropLast.length = k + 1 + j := by rw [List.length_dropLast]; omega
    obtain ⟨s2, D2, g1, g2, g3⟩ := Good.popTo j hg hdl (by omega : j ≤ f)
    have et : L.ps.dropLast.take (k + 1) = L.ps.take (k + 1) := by
      rw [List.dropLast_eq_take, List.take_take]
      congr 1
      omega
    have g1' := g1
    simp only [] at g1 g2 g3
    rw [et] at g1 g2
    exact ⟨s2, D2, g1, g2, fun n hn => (g3 n hn).trans (del_other h.fine.nd (by have := h.few; omega) hn)⟩
theorem Good.popAll : ∀ (j : Nat) {L : LogS} {D : DS} {b : Bool} {f : Nat}, Good L D b c → L.ps.length = j → j ≤ f →
    ∃ s' D', L.popGo D 0 true f = (0, ⟨L.pre, L.size, [], s', L.mark, L.bad⟩, D') ∧ Good ⟨L.pre, L.size, [], s', L.mark, L.bad⟩ D' false c ∧ ∀ n, chunkOf L.pre n = none → aget D'.fs n = aget D.fs n
  | 0, L, D, b, f, h, hl, hf => by
    have e : L.ps = [] := List.length_eq_zero_iff.1 hl
    have hL : L = ⟨L.pre, L.size, [], L.synced, L.mark, L.bad⟩ := by rw [← e]
    refine ⟨L.synced, D, ?_, by rw [← hL]; exact h.empty e false, fun _ _ => rfl⟩
    rw [← hL]
    cases f with
    | zero => rfl
    | succ f => rw [LogS.popGo, if_neg (fun q => by have := q.1; omega)]
  | j + 1, L, D, b, f, h, hl, hf => by
    obtain ⟨f, rfl⟩ : ∃ g, f = g + 1 := ⟨f - 1, by omega⟩
    obtain ⟨s', hs⟩ := popStep h hl.symm 0 true (.inr rfl) f
    rw [hs]
    have hg := (h.pop hl.symm s' L.mark).2
    have hdl : L.ps.dropLast.length = j := by rw [List.length_dropLast]; omega
    obtain ⟨s2, D2, g1, g2, g3⟩ := Good.popAll j hg hdl (by omega : j ≤ f)
    exact ⟨s2, D2, g1, g2, fun n hn => (g3 n hn).trans (del_other h.fine.nd (by have := h.few; omega) hn)⟩
theorem usedOf_nonneg (l : List ByteArray) : 0 ≤ usedOf l := by rw [← recsB_used]; omega
/-- The last chunk is cut. -/
theorem Good.shorten (h : Good L D b c) {k : Nat} {p : PartL} (hk : k + 1 = L.ps.length) (hp : L.ps[k]? = some p) {r : Nat} (hr : r ≤ p.bodies.length) :
    ∃ s' D', L.shorten D k r = (0, ⟨L.pre, L.size, L.ps.set k ⟨p.bodies.take r, usedOf (p.bodies.take r), false⟩, s', L.mark, L.bad⟩, D') ∧ Good ⟨L.pre, L.size, L.ps.set k ⟨p.bodies.take r, usedOf (p.bodies.take r), false⟩, s', L.mark, L.bad⟩ D' false c ∧ ∀ n, chunkOf L.pre n = none → aget D'.fs n = aget D.fs n := by
  have hk9 : k ≤ 999999 := by have := h.few; omega
  obtain ⟨f, hf1, hf2⟩ := h.file k p hp
  have hl : L.ps.getLast? = some p := by
    rw [List.getLast?_eq_getElem?]
    have : L.ps.length - 1 = k := by omega
    rw [this]
    exact hp
  have himg : imageB k L.size p.bodies p.done = (startB k L.size ++ recsB (p.bodies.take r)) ++ (recsB (p.bodies.drop r) ++ if p.done then finB k p.bodies.length else []) := by
    unfold imageB
    conv => lhs; rw [← List.take_append_drop r p.bodies]
    rw [recsB_app]
    simp
  have hlen : (startB k L.size ++ recsB (p.bodies.take r)).length = ((startB k L.size).length + usedOf (p.bodies.take r)).toNat := by
    rw [List.length_append, ← recsB_used]
    omega
  have hused := usedOf_nonneg (p.bodies.take r)
  have hz : 0 ≤ ((startB k L.size).length : Int) + usedOf (p.bodies.take r) ∧ ((startB k L.size).length : Int) + usedOf (p.bodies.take r) ≤ f.b.size := by
    refine ⟨by omega, ?_⟩
    rw [hf2, baL_size, himg, List.length_append, hlen]
    omega
  have htr := h.fine.truncate (h.name hk9) hf1 hz
  obtain ⟨f2, hf2e⟩ : ∃ f2 : File, f2 = ⟨f.b.extract 0 (((startB k L.size).length : Int) + usedOf (p.bodies.take r)).toNat, min f.lasts (((startB k L.size).length : Int) + usedOf (p.bodies.take r)), f.known⟩ := ⟨_, rfl⟩
  rw [← hf2e] at htr
  have hf2b : f2.b = baL (imageB k L.size (p.bodies.take r) false) := by
    rw [hf2e]
    show f.b.extract 0 _ = _
    rw [hf2, baL_extract, himg, ← hlen, List.take_left]
    simp [imageB]
  refine ⟨min L.synced (LogS.len ⟨L.pre, L.size, L.ps.set k ⟨p.bodies.take r, usedOf (p.bodies.take r), false⟩, L.synced, L.mark, L.bad⟩), _, ?_, h.turn hk (p := ⟨p.bodies.take r, usedOf (p.bodies.take r), false⟩) (b' := false) rfl (fun s hs => h.short p (List.mem_of_getElem? hp) s (List.mem_of_mem_take hs)) rfl (f := f2) hf2b _ L.mark, fun n hn => put_other hk9 _ hn⟩
  unfold LogS.shorten
  rw [hl]
  dsimp only
  rw [startE_ok ⟨by omega, by omega⟩ h.size, Int.toNat_natCast, htr]
  dsimp only
  rw [if_neg (by simp), told_zero]
  have : L.ps.length - 1 = k := by omega
  rw [this]
  rfl
/-- Truncate. -/
theorem Good.truncate (h : Good L D false c) {n : Nat} (hn : n ≤ L.all.length) :
    ∃ L' D', L.truncate D n = (0, L', D') ∧ Good L' D' false c ∧ L'.all = L.all.take n ∧ Same4 L L' D D' ∧ L'.ps.length ≤ L.ps.length := by
  have hlen := len_all L
  unfold LogS.truncate
  rw [h.bad, if_neg (by simp), if_neg (by omega)]
  by_cases he : n = L.all.length
  · rw [if_pos (by omega)]
    exact ⟨L, D, rfl, h, by rw [he, List.take_length], Same4.refl _ _, Nat.le_refl _⟩
  · rw [if_neg (by omega)]
    by_cases h0 : n = 0
    · subst h0
      obtain ⟨s', D', g1, g2, g3⟩ := h.popAll L.ps.length rfl (Nat.le_refl _)
      have e : (decide (((0 : Nat) : Int) = 0)) = true := rfl
      have e5 : ¬(0 : Int) < ((0 : Nat) : Int) := by omega
      rw [e, if_neg e5]
      dsimp only
      rw [g1]
      dsimp only
      rw [if_neg (by simp), if_pos (by rfl)]
      exact ⟨_, _, rfl, g2, by simp [LogS.all], ⟨rfl, rfl, rfl, g3⟩, by simp⟩
    · obtain ⟨k, r, p, f1, f2, f3, f4, _⟩ := findGo_spec L.ps 0 (n - 1) (by show n - 1 < L.all.length; omega)
      have hfd : L.find ((n : Int) - 1) = ((k : Int), (r : Int)) := by
        unfold LogS.find
        have e : (n : Int) - 1 = ((n - 1 : Nat) : Int) := by omega
        rw [e]
        have f1' : LogS.findGo L.ps ((0 : Nat) : Int) ((n - 1 : Nat) : Int) = _ := f1
        rw [Nat.zero_add] at f1'
        exact f1'
      have hkl : k < L.ps.length := (List.getElem?_eq_some_iff.1 f2).1
      obtain ⟨s1, D1, g1, ⟨b1, g2⟩, g3⟩ := h.popTo (L.ps.length - (k + 1)) (k := k) (f := L.ps.length) (by omega) (by omega)
      have htl : (L.ps.take (k + 1)).length = k + 1 := by rw [List.length_take]; omega
      have hp1 : (L.ps.take (k + 1))[k]? = some p := by rw [List.getElem?_take, if_pos (by omega)]; exact f2
      obtain ⟨s2, D2, q1, q2, q3⟩ := g2.shorten (k := k) (by show k + 1 = (L.ps.take (k + 1)).length; omega) hp1 (r := r + 1) (by omega)
      have e : decide ((n : Int) = 0) = false := decide_eq_false (by omega)
      have e2 : (r : Int) + 1 = ((r + 1 : Nat) : Int) := by omega
      have e6 : (0 : Int) < (n : Int) := by omega
      rw [e, if_pos e6, hfd]
      dsimp only
      rw [g1]
      dsimp only
      rw [if_neg (by simp), if_neg (by omega), e2, q1]
      refine ⟨_, _, rfl, q2, ?_, ⟨rfl, rfl, rfl, fun m hm => (q3 m hm).trans (g3 m hm)⟩, by simp; omega⟩
      obtain ⟨a1, _⟩ := all_set (q := ⟨p.bodies.take (r + 1), usedOf (p.bodies.take (r + 1)), false⟩) hp1 (by omega)
      show ((L.ps.take (k + 1)).set k _).flatMap (·.bodies) = L.all.take n
      rw [a1]
      have e3 : n = n - 1 + 1 := by omega
      have e4 : (L.ps.take (k + 1)).dropLast = L.ps.take k := by
        rw [List.dropLast_eq_take, List.take_take, htl]
        congr 1
        omega
      rw [e3, e4]
      exact f4.symm
end
end Go.Proofs.YteinoiicnmemhaaGreatDoor.J
/- Logs, plain: what was synced, the chaser, a crash of what lasts. No program is named. -/
set_option linter.unusedVariables false
set_option linter.unusedSimpArgs false
namespace Go.Proofs.YteinoiicnmemhaaGreatDoor.J
open Go.RowKit
/-- All files last. -/
def Firm (D : DS) : Prop := ∀ n f, aget D.fs n = some f → f.lasts = f.b.size ∧ f.known = true
theorem aput_same {κ ν : Type} [DecidableEq κ] {l : List (κ × ν)} {k : κ} {v : ν} (h : aget l k = some v) : aput l k v = l := by
  induction l with
  | nil => cases h
  | cons p l ih =>
    obtain ⟨a, b⟩ := p
    unfold aget at h
    unfold aput
    by_cases e : a = k
    · rw [if_pos e] at h ⊢
      injection h with h
      rw [h, e]
    · rw [if_neg e] at h ⊢
      rw [ih h]
theorem crashFile_firm {f : File} (h1 : f.lasts = f.b.size) (h2 : f.known = true) {k : Int} (hk : 0 ≤ k) : DS.crashFile f k = f := by
  obtain ⟨b, l, kn⟩ := f
  dsimp only at h1 h2
  subst h1 h2
  unfold DS.crashFile
  dsimp only
  have e : (b.size : Int) + min k ((b.size : Int) - b.size) = b.size := by omega
  rw [e, Int.toNat_natCast]
  simp
theorem crashOne_firm {fs : Files} {s : ByteArray} {f : File} (hf : aget fs s = some f) (h1 : f.lasts = f.b.size) (h2 : f.known = true) {k : Int} (hk : 0 ≤ k) : DS.crashOne fs s k = fs := by
  unfold DS.crashOne
  dsimp only
  rw [hf, Option.getD_some, crashFile_firm h1 h2 hk, if_pos h2]
  exact aput_same hf
theorem crashAll_firm {fs : Files} (h : ∀ n f, aget fs n = some f → f.lasts = f.b.size ∧ f.known = true) : ∀ (l : List ByteArray) (ks : List Int), (∀ s ∈ l, (aget fs s).isSome = true) → DS.crashAll fs l ks = fs
  | [], _, _ => rfl
  | s :: l, ks, hl => by
    obtain ⟨f, hf⟩ := Option.isSome_iff_exists.1 (hl s (by simp))
    unfold DS.crashAll
    rw [crashOne_firm hf (h s f hf).1 (h s f hf).2 (by omega)]
    exact crashAll_firm h l ks.tail (fun t ht => hl t (by simp [ht]))
/-- A crash of a disk of which all lasts, and power again. -/
theorem Firm.crash {D : DS} (h : Firm D) (hf : Fine D) (keep : List Int) : (D.crash keep).restore.fs = D.fs ∧ Fine (D.crash keep).restore := by
  have e : D.crash keep = { D with on := false, armed := false, left := -1, keep := [], fs := D.fs } := by
    unfold DS.crash
    rw [hf.on, if_pos rfl, crashAll_firm h D.names keep (fun s hs => (mem_names D s).1 hs)]
  rw [e]
  exact ⟨rfl, rfl, rfl, hf.room, hf.nd⟩
section
variable {L : LogS} {D D' : DS} {b : Bool} {c : Nat}
theorem Good.up (h : Good L D b 0) : Good L D b 1 := ⟨h.fine, h.pre, h.size, h.bad, h.few, by have := h.cnt; omega, by omega, h.used, h.short, h.done, h.file, h.onl⟩
theorem Good.set (h : Good L D b c) (s m : Int) : Good ⟨L.pre, L.size, L.ps, s, m, L.bad⟩ D b c := ⟨h.fine, h.pre, h.size, h.bad, h.few, h.cnt, h.cle, h.used, h.short, h.done, h.file, h.onl⟩
/-- Sync. -/
theorem Good.sync (h : Good L D b c) : ∃ s' D', L.sync D = (0, ⟨L.pre, L.size, L.ps, s', L.mark, L.bad⟩, D') ∧ Good ⟨L.pre, L.size, L.ps, s', L.mark, L.bad⟩ D' b c ∧ (∀ n, chunkOf L.pre n = none → aget D'.fs n = aget D.fs n) ∧ D'.fs.length = D.fs.length ∧ (Firm4 L D → Firm D') ∧ (L.ps ≠ [] → s' = L.len) := by
  by_cases h0 : L.ps.length = 0
  · refine ⟨L.synced, D, ?_, h, fun _ _ => rfl, rfl, fun q n f hf => q n f hf (fun k hk => by omega), fun q => absurd (List.length_eq_zero_iff.1 h0) q⟩
    unfold LogS.sync
    rw [if_pos h0]
  · obtain ⟨k, hk⟩ : ∃ k, k + 1 = L.ps.length := ⟨L.ps.length - 1, by omega⟩
    have hk9 : k ≤ 999999 := by have := h.few; omega
    have hp : L.ps[k]? = some L.ps[k] := List.getElem?_eq_getElem (by omega)
    obtain ⟨f, h1, h2⟩ := h.file k _ hp
    have hsy := h.fine.sync (h.name hk9) h1
    have e : (L.ps.length : Int) - 1 = k := by omega
    have hd := h.done k _ hp
    rw [decide_eq_false (by omega : ¬k + 1 < L.ps.length), Bool.false_or] at hd
    have hg := h.turn hk (p := L.ps[k]) (b' := b) (h.used _ (List.mem_of_getElem? hp)) (h.short _ (List.mem_of_getElem? hp)) hd (f := ⟨f.b, f.b.size, true⟩) h2 L.len L.mark
    rw [List.set_getElem_self] at hg
    refine ⟨L.len, _, ?_, hg, fun n hn => put_other hk9 _ hn, ?_, fun q n g hgn => ?_, fun _ => rfl⟩
    · unfold LogS.sync
      rw [if_neg h0, e, hsy]
      dsimp only
      rw [if_neg (by simp), told_zero]
    · show (aput D.fs _ _).length = _
      rw [length_aput, h1]
      rfl
    · have hgn : aget (aput D.fs (nameK L.pre k) (⟨f.b, f.b.size, true⟩ : File)) n = some g := hgn
      rw [aget_aput] at hgn
      by_cases en : nameK L.pre k = n
      · rw [if_pos en] at hgn
        injection hgn with hgn
        subst hgn
        exact ⟨rfl, rfl⟩
      · rw [if_neg en] at hgn
        exact q n g hgn (fun j hj => by
          have : j = k := by omega
          rw [this]
          exact fun q => en q.symm)
theorem Good.other (h : Good L D b c) (hf : Fine D') (hl : D'.fs.length ≤ L.ps.length + c) (ha : ∀ n, n ≠ markN L.pre → aget D'.fs n = aget D.fs n) : Good L D' b c := by
  refine ⟨hf, h.pre, h.size, h.bad, h.few, hl, h.cle, h.used, h.short, h.done, fun k p hp => ?_, fun n f k hn hk => ?_⟩
  · obtain ⟨f, h1, h2⟩ := h.file k p hp
    have hk : k < L.ps.length := (List.getElem?_eq_some_iff.1 hp).1
    exact ⟨f, (ha _ (name_ne_mark L.pre (by have := h.few; omega))).trans h1, h2⟩
  · rw [ha n (fun e => by rw [e, chunkOf_mark] at hk; cases hk)] at hn
    exact h.onl n f k hn hk
/-- Append to a whole log. -/
theorem Whole.append (h : Whole L D) {l : List ByteArray} (hf : L.ps.length + l.length < 150) (hs : ∀ s ∈ l, (s.size : Int) ≤ roomC L.size 0) :
    ∃ L' D', L.append D l = (((L.all.length : Int), (0 : Int)), L', D') ∧ Whole L' D' ∧ L'.all = L.all ++ l ∧ L'.pre = L.pre ∧ L'.size = L.size ∧ L'.mark = L.mark ∧ L'.ps.length ≤ L.ps.length + l.length ∧ (Firm4 L D → Firm4 L' D') := by
  have hg := h.good
  rcases h.mark with ⟨q1, q2, q3⟩ | hm
  · have hg0 : Good L D false 0 := ⟨hg.fine, hg.pre, hg.size, hg.bad, hg.few, by omega, by omega, hg.used, hg.short, hg.done, hg.file, hg.onl⟩
    rcases hg0.append hf with ⟨_, L', D', a1, a2, a3, a4, a5, a6⟩ | ⟨q, _⟩
    · obtain ⟨b1, b2, b3, b4⟩ := a4
      refine ⟨L', D', a1, ⟨a2.up, ?_, .inl ⟨?_, ?_, ?_⟩⟩, a3, b1, b2, b3, a5, a6⟩
      · rw [b1]
        exact (b4 _ (chunkOf_new _)).trans h.new
      · rw [b1]
        exact (b4 _ (chunkOf_mark _)).trans q1
      · rw [b3]
        exact q2
      · have := a2.cnt
        omega
    · exact absurd hs q
  · rcases hg.append hf with ⟨_, L', D', a1, a2, a3, a4, a5, a6⟩ | ⟨q, _⟩
    · obtain ⟨b1, b2, b3, b4⟩ := a4
      refine ⟨L', D', a1, ⟨a2, ?_, .inr ?_⟩, a3, b1, b2, b3, a5, a6⟩
      · rw [b1]
        exact (b4 _ (chunkOf_new _)).trans h.new
      · rw [b1, b3]
        obtain ⟨f, ms, c1, c2, c3⟩ := hm
        exact ⟨f, ms, (b4 _ (chunkOf_mark _)).trans c1, c2, c3⟩
    · exact absurd hs q
end
end Go.Proofs.YteinoiicnmemhaaGreatDoor.J
/- A state in memory. -/
set_option linter.unusedVariables false
set_option linter.unusedSimpArgs false
namespace Go.Proofs.YteinoiicnmemhaaGreatDoor
open Go.RowKit
/-- What keeps a state's numbers small: N bounds the commands. -/
structure MS.Ok (s : MS) (N : Nat) : Prop where
  now : 0 ≤ s.now ∧ s.now ≤ 1099511627776
  done : 0 ≤ s.done ∧ s.done ≤ N
  all : s.all.length ≤ 8 * N
  st : ∀ n x, (n, x) ∈ s.m → x.mt.ok = true ∧ 0 ≤ x.floor ∧ x.floor ≤ x.places.length ∧ x.places.length ≤ s.all.length ∧ ∀ p ∈ x.places, 0 ≤ p ∧ p < s.all.length
/-- The state s lies in block sb, its map in mb, its events in av; M are all blocks that may turn. -/
structure StAt (w : World) (M : List Nat) (sb mb : Nat) (av : Value) (pf : ByteArray → Value) (s : MS) : Prop where
  blk : Blk w sb 72 #[av, .map (some mb), .int .i64 s.done, .int .i64 s.now]
  own : w.ownsRow 0 92 8 av s.all.length (s.all.flatMap StoredR.cells)
  map : MapIs Value.string w mb (s.m.map fun p => (p.1, p.2.val (pf p.1)))
  pl : ∀ n x, (n, x) ∈ s.m → Rd M w 1 (pf n) x.places.length (ints x.places)
  inM : sb ∈ M ∧ mb ∈ M ∧ ∀ g, av.ownBlock = some g → g ∈ M
  mlt : ∀ g ∈ M, g < w.heap.size
/-- The blocks that a call on the state may turn. -/
def hM (sb mb : Nat) (av : Value) : List Nat := sb :: mb :: av.ownBlock.toList
def pvOf (s : MS) (pf : ByteArray → Value) (n : ByteArray) : Value := if (aget s.m n).isSome then pf n else .slice none 0 0
section
variable {w w' : World} {M M' S : List Nat} {sb mb : Nat} {av : Value} {pf : ByteArray → Value} {s : MS}
theorem StAt.only (h : StAt w M sb mb av pf s) (k : Only S w w') (hS : ∀ g ∈ S, g ∈ M) (hd : ∀ g ∈ hM sb mb av, g ∉ S) : StAt w' M sb mb av pf s :=
  ⟨k.blk h.blk (hd sb (by simp [hM])), own_only h.own k (fun g hg => hd g (by simp [hM, hg])), h.map.only k (hd mb (by simp [hM])), fun n x hx => (h.pl n x hx).only k hS, h.inM, fun g hg => Nat.lt_of_lt_of_le (h.mlt g hg) k.size⟩
theorem StAt.only0 (h : StAt w M sb mb av pf s) (k : Only [] w w') : StAt w' M sb mb av pf s := h.only k (by simp) (by simp)
theorem StAt.ext (h : StAt w M sb mb av pf s) (hm : ∀ g ∈ M', g ∈ M) (hi : ∀ g ∈ M, g ∈ M') : StAt w M' sb mb av pf s :=
  ⟨h.blk, h.own, h.map, fun n x hx => (h.pl n x hx).ext (fun g hg => .inl (hm g hg)), ⟨hi _ h.inM.1, hi _ h.inM.2.1, fun g hg => hi _ (h.inM.2.2 g hg)⟩, fun g hg => h.mlt g (hm g hg)⟩
theorem StAt.ne (h : StAt w M sb mb av pf s) : mb ≠ sb := h.map.ne_blk h.blk
theorem StAt.own_lt (h : StAt w M sb mb av pf s) : ∀ g, av.ownBlock = some g → g < w.heap.size := fun g hg => (h.own.lt g hg).2
theorem StAt.lt (h : StAt w M sb mb av pf s) : ∀ g ∈ hM sb mb av, g < w.heap.size := by
  intro g hg
  simp [hM] at hg
  rcases hg with rfl | rfl | hg
  · exact h.blk.lt
  · exact h.map.lt
  · exact h.own_lt g hg
theorem StAt.hMM (h : StAt w M sb mb av pf s) : ∀ g ∈ hM sb mb av, g ∈ M := by
  intro g hg
  simp [hM] at hg
  rcases hg with rfl | rfl | hg
  · exact h.inM.1
  · exact h.inM.2.1
  · exact h.inM.2.2 g hg
theorem StAt.ownne (h : StAt w M sb mb av pf s) : ∀ g, av.ownBlock = some g → g ≠ sb ∧ g ≠ mb := by
  intro g hg
  obtain ⟨_, h2⟩ := h.own
  rcases h2 with ⟨rfl, _⟩ | ⟨g', cap, cur, rfl, hb, hg', q⟩
  · cases hg
  · cases hg
    have hB : Blk w g' 92 cur := hg'
    exact ⟨hB.other h.blk (by decide), fun e => h.map.ne_blk hB e.symm⟩
theorem StAt.nodup (h : StAt w M sb mb av pf s) : ANodup s.m := by
  have := h.map.nodup
  unfold ANodup at this ⊢
  rw [List.map_map] at this
  exact this
theorem aget_mapk {μ ν : Type} (f : ByteArray → ν → μ) (l : List (ByteArray × ν)) (k : ByteArray) : aget (l.map fun p => (p.1, f p.1 p.2)) k = (aget l k).map (f k) := by
  induction l with
  | nil => simp [aget]
  | cons p l ih =>
    obtain ⟨a, b⟩ := p
    simp only [aget, List.map_cons]
    split
    · rename_i h; subst h; rfl
    · exact ih
theorem aput_mapk {μ ν : Type} (f g : ByteArray → ν → μ) (l : List (ByteArray × ν)) (hn : ANodup l) (k : ByteArray) (v : ν) (u : μ) (hu : u = g k v) (hfg : ∀ a, a ≠ k → f a = g a) : aput (l.map fun p => (p.1, f p.1 p.2)) k u = (aput l k v).map fun p => (p.1, g p.1 p.2) := by
  subst hu
  induction l with
  | nil => simp [aput]
  | cons p l ih =>
    obtain ⟨a, b⟩ := p
    simp only [ANodup, List.map_cons, List.nodup_cons] at hn
    simp only [aput, List.map_cons]
    by_cases h : a = k
    · subst h
      rw [if_pos rfl, if_pos rfl]
      simp only [List.map_cons, List.cons.injEq, true_and]
      apply List.map_congr_left
      intro q hq
      rw [hfg q.1 (fun e => hn.1 (List.mem_map.2 ⟨q, hq, e⟩))]
    · rw [if_neg h, if_neg h, ih hn.2, List.map_cons, hfg a h]
theorem StAt.rd (h : StAt w M sb mb av pf s) (n : ByteArray) : Rd M w 1 (pvOf s pf n) (s.find n).places.length (ints (s.find n).places) := by
  unfold pvOf MS.find
  cases hx : aget s.m n with
  | none => exact Rd.nil _ _ _
  | some x => exact h.pl n x (aget_mem hx)
theorem StAt.look (h : StAt w M sb mb av pf s) (n : ByteArray) : (aget (s.m.map fun p => (p.1, p.2.val (pf p.1))) n).getD (StreamR.zero.val (.slice none 0 0)) = (s.find n).val (pvOf s pf n) := by
  rw [aget_mapk (fun k x => StreamR.val x (pf k))]
  unfold pvOf MS.find
  cases aget s.m n <;> rfl
theorem MS.Ok.find {N : Nat} (h : s.Ok N) (n : ByteArray) : (s.find n).mt.ok = true ∧ 0 ≤ (s.find n).floor ∧ (s.find n).floor ≤ (s.find n).places.length ∧ (s.find n).places.length ≤ s.all.length ∧ ∀ p ∈ (s.find n).places, 0 ≤ p ∧ p < s.all.length := by
  unfold MS.find
  cases hx : aget s.m n with
  | none =>
    refine ⟨by decide, Int.le_refl _, ?_, Nat.zero_le _, fun p hp => ?_⟩
    · simp [StreamR.zero]
    · simp [StreamR.zero] at hp
  | some x => exact h.st n x (aget_mem hx)
/-- An event's cell. -/
theorem StAt.cell (h : StAt w M sb mb av pf s) : ∃ A cap, av = .slice A s.all.length cap ∧ s.all.length ≤ cap ∧ cap ≤ maxLen ∧ ∀ j (hj : j < s.all.length), ∃ b, A = some ⟨b, 0, none⟩ ∧ b < w.heap.size ∧ ∀ r, r < 8 → w.cell? ⟨b, j * 8 + r, none⟩ = (s.all[j].cells)[r]? := by
  obtain ⟨h1, h2⟩ := h.own
  rcases h2 with ⟨q1, q2⟩ | ⟨g, cap, cur, q1, hb, hg, hn, hc, hs, ht⟩
  · have h0 : s.all.length = 0 := q2
    refine ⟨none, 0, by rw [h0]; exact q1, by omega, by unfold maxLen; omega, fun j hj => by omega⟩
  · refine ⟨_, cap, q1, hn, hc, fun j hj => ⟨g, rfl, lt_of_block hg, fun r hr => ?_⟩⟩
    have hj8 : j * 8 + r < s.all.length * 8 := by omega
    rw [cell_of_row w g _ cur 92 (0, 0) hg]
    have e1 := flat_get StoredR.cells 8 s.all (fun o _ => rfl) j r hj hr
    rw [← ht] at e1
    rw [← e1]
    simp [hj8]
end
end Go.Proofs.YteinoiicnmemhaaGreatDoor
/- Contracts: which names, events and commands may be. -/
set_option linter.unusedVariables false
set_option linter.unusedSimpArgs false
namespace Go.Proofs.YteinoiicnmemhaaGreatDoor
open Go.RowKit
theorem ret_b {a b : Bool} (h : a = b) : Ending.returned (.bool a) = .returned (.bool b) := by rw [h]
theorem ret_i {a b : Int} (h : a = b) : Ending.returned (.int .i64 a) = .returned (.int .i64 b) := by rw [h]
theorem within_any (n : Int) (w : World) : Calls Tryz.prog 51 #[.int .i64 n] w fun e w' => e = .returned (.bool (within n)) ∧ w = w' := by
  by_cases h1 : 0 ≤ n
  · by_cases h2 : n ≤ 1099511627776
    · go_enter Tryz.func51, Tryz.ntmps51
      go_wp2
      go_ret
      exact ⟨ret_b (by simp [within]; omega), rfl⟩
    · go_enter Tryz.func51, Tryz.ntmps51
      go_wp2
      go_ret
      exact ⟨ret_b (by simp [within]; omega), rfl⟩
  · go_enter Tryz.func51, Tryz.ntmps51
    go_wp2
    go_ret
    exact ⟨ret_b (by simp [within]; omega), rfl⟩
theorem expects_any (n : Int) (w : World) : Calls Tryz.prog 54 #[.int .i64 n] w fun e w' => e = .returned (.bool (expects n)) ∧ w = w' := by
  cases h : within n
  · by_cases h1 : n = -1
    · subst h1
      go_enter Tryz.func54, Tryz.ntmps54
      go_wp2_with (go_at_call 51; refine (within_any _ _).mono ?_; rintro e w' ⟨rfl, rfl⟩)
      go_ret
      exact ⟨ret_b (by simp [expects]), rfl⟩
    · by_cases h2 : n = -2
      · subst h2
        go_enter Tryz.func54, Tryz.ntmps54
        go_wp2_with (go_at_call 51; refine (within_any _ _).mono ?_; rintro e w' ⟨rfl, rfl⟩)
        go_ret
        exact ⟨ret_b (by simp [expects]), rfl⟩
      · by_cases h4 : n = -4
        · subst h4
          go_enter Tryz.func54, Tryz.ntmps54
          go_wp2_with (go_at_call 51; refine (within_any _ _).mono ?_; rintro e w' ⟨rfl, rfl⟩)
          go_ret
          exact ⟨ret_b (by simp [expects]), rfl⟩
        · have b1 : (n == -1) = false := by simpa using h1
          have b2 : (n == -2) = false := by simpa using h2
          have b4 : (n == -4) = false := by simpa using h4
          go_enter Tryz.func54, Tryz.ntmps54
          go_wp2_with (go_at_call 51; refine (within_any _ _).mono ?_; rintro e w' ⟨rfl, rfl⟩)
          go_ret
          exact ⟨ret_b (by simp [expects, h, h1, h2, h4]), rfl⟩
  · go_enter Tryz.func54, Tryz.ntmps54
    go_wp2_with (go_at_call 51; refine (within_any _ _).mono ?_; rintro e w' ⟨rfl, rfl⟩)
    go_ret
    exact ⟨ret_b (by simp [expects, h]), rfl⟩
theorem validMeta_any (m : MetaR) (w : World) : Calls Tryz.prog 55 #[m.val] w fun e w' => e = .returned (.bool m.ok) ∧ Only [] w w' := by
  unfold MetaR.val
  cases h1 : within m.maxCount
  · go_enter Tryz.func55, Tryz.ntmps55
    go_wp2_with (go_at_call 51; refine (within_any _ _).mono ?_; rintro e w' ⟨rfl, rfl⟩)
    go_ret
    exact ⟨ret_b (by simp [MetaR.ok, h1]), (Only.refl [] w).alloc _⟩
  · cases h2 : within m.maxAge
    · go_enter Tryz.func55, Tryz.ntmps55
      go_wp2_with (go_at_call 51; refine (within_any _ _).mono ?_; rintro e w' ⟨rfl, rfl⟩)
      go_ret
      exact ⟨ret_b (by simp [MetaR.ok, h1, h2]), (Only.refl [] w).alloc _⟩
    · cases h3 : within m.before
      · go_enter Tryz.func55, Tryz.ntmps55
        go_wp2_with (go_at_call 51; refine (within_any _ _).mono ?_; rintro e w' ⟨rfl, rfl⟩)
        go_ret
        exact ⟨ret_b (by simp [MetaR.ok, h1, h2, h3]), (Only.refl [] w).alloc _⟩
      · go_enter Tryz.func55, Tryz.ntmps55
        go_wp2_with (go_at_call 51; refine (within_any _ _).mono ?_; rintro e w' ⟨rfl, rfl⟩)
        go_ret
        exact ⟨ret_b (by simp [MetaR.ok, h1, h2, h3]), (Only.refl [] w).alloc _⟩
theorem all_take {s : ByteArray} {f : UInt8 → Bool} (k : Nat) (h : k < s.size) : (s.data.toList.take (k + 1)).all f = ((s.data.toList.take k).all f && f s[k]) := by
  rw [List.take_succ_eq_append_getElem (by simpa using h), List.all_append]
  simp
  rfl
theorem all_false {l : List UInt8} {f : UInt8 → Bool} {k : Nat} (h : k < l.length) (hf : f l[k] = false) : l.all f = false := by
  rw [Bool.eq_false_iff]
  intro q
  rw [List.all_eq_true] at q
  have := q l[k] (List.getElem_mem h)
  rw [hf] at this
  cases this
set_option maxHeartbeats 800000 in
theorem stream_any (s : ByteArray) (w : World) (hs : s.size ≤ maxLen) : Calls Tryz.prog 52 #[.string s] w fun e w' => e = .returned (.bool (nameOk s)) ∧ w = w' := by
  unfold maxLen at hs
  by_cases h1 : s.size < 1
  · go_enter Tryz.func52, Tryz.ntmps52
    go_wp2
    go_ret
    exact ⟨ret_b (by simp [nameOk]; omega), rfl⟩
  · by_cases h2 : 60 < s.size
    · go_enter Tryz.func52, Tryz.ntmps52
      go_wp2
      go_ret
      exact ⟨ret_b (by simp [nameOk]; omega), rfl⟩
    · have hn : Hid (nameOk s = s.data.toList.all okByte) := by
        unfold Hid nameOk
        rw [decide_eq_true (by omega : 1 ≤ s.size), decide_eq_true (by omega : s.size ≤ 60)]
        simp
      go_enter Tryz.func52, Tryz.ntmps52
      go_wp2
      go_loop [14] (fun i => ∃ k : Nat, k ≤ s.size ∧ i = .int .i64 k ∧ Hid ((s.data.toList.take k).all okByte = true)) (fun i => s.size - (intOf i).toNat)
      case atStart => exact ⟨0, Nat.zero_le _, rfl, by simp [Hid]⟩
      case round =>
        obtain ⟨k, hk, rfl, hT⟩ := hrel
        by_cases hlt : k < s.size
        · have hb256 : (s[k].toNat : Int) < 256 := by have := s[k].toNat_lt; omega
          have hnext : Hid (okByte s[k] = true → (s.data.toList.take (k + 1)).all okByte = true) := by
            intro q
            rw [all_take k hlt, hT.out, q]
            rfl
          have hend : Hid (okByte s[k] = false → nameOk s = false) := by
            intro q
            rw [hn.out]
            exact all_false (k := k) (by simpa using hlt) q
          by_cases c1 : (s[k].toNat : Int) < 33
          · have hq : Hid (nameOk s = false) := hend.out (by simp only [okByte, decide_eq_true c1]; simp)
            clear hend hnext
            go_wp2
            go_ret
            exact ⟨ret_b (by rw [hq.out]), rfl⟩
          · by_cases c2 : 126 < (s[k].toNat : Int)
            · have hq : Hid (nameOk s = false) := hend.out (by simp only [okByte, decide_eq_true c2]; simp)
              clear hend hnext
              go_wp2
              go_ret
              exact ⟨ret_b (by rw [hq.out]), rfl⟩
            · by_cases c3 : (s[k].toNat : Int) = 64
              · have e3 : ((s[k].toNat : Int) == 64) = true := by simpa using c3
                have hq : Hid (nameOk s = false) := hend.out (by simp only [okByte, c3]; simp)
                clear hend hnext c3
                go_wp2
                go_ret
                exact ⟨ret_b (by rw [hq.out]), rfl⟩
              · have e3 : ((s[k].toNat : Int) == 64) = false := by simpa using c3
                have hq := Lib.hid (hnext.out (by simp only [okByte, decide_eq_false c1, decide_eq_false c2, decide_eq_false c3]; rfl))
                clear hend hnext c3
                go_wp2
                go_round
                case rel => exact ⟨k + 1, hlt, by go_num, hq⟩
                case measure => simp [intOf]; omega
        · have hfin : Hid (nameOk s = true) := by
            have := hT.out
            rw [List.take_of_length_le (by simp; omega)] at this
            unfold Hid
            rw [hn.out, this]
          go_wp2
          go_ret
          exact ⟨ret_b (by rw [hfin.out]), rfl⟩
end Go.Proofs.YteinoiicnmemhaaGreatDoor
/- Laws of operations: a large struct read from the middle of a row, and stored into the block that was made last, without any unrolling. -/
set_option linter.unusedVariables false
namespace Go.Proofs.YteinoiicnmemhaaGreatDoor
open Go Go.RowKit
section
variable {P : Program} {ops : Array Oper} {rest : List Oper} {o : Oper} {a : Act} {Q : Exit → Act → World → Prop}
theorem wpList_store_new (hgd : o.guard = none) (ty : TypeId) (x y : Operand) (ho : o.op = .store ty x y) (w : World) (c : Array Value) (n : Nat) (cs : List Value) (hn : cs.length = n) (hs : c.size = n) (hx : a.eval x = .pointer (some ⟨w.heap.size, 0, none⟩)) (hy : a.eval y = .agg cs.toArray)
    (hi : (P.info? ty).map (·.size) = some n) (h1 : ∀ u ∈ cs, u.oneCell' = true) (h : wpList P ops Q rest (a.put o.dst undef) (w.alloc (.cells cs.toArray ty))) : wpList P ops Q (o :: rest) a (w.alloc (.cells c ty)) := by
  refine wpList_plain hgd fun _ hK => ?_
  unfold Oper.wp execOp
  simp only [ho, hx, hy, Sem.run_bind, Sem.run_pure, Result.andThen_ok, run_storeAt_new w ty c cs.toArray (by rw [hi, ← hn]; simp) (by rw [hs, ← hn]; simp) (all_oneCell_toArray h1)]
  exact hK _ _ h
theorem wpList_load_row2 (hgd : o.guard = none) (ty : TypeId) (x : Operand) (ho : o.op = .load ty x) {w : World} (b f : Nat) (hx : a.eval x = .pointer (some ⟨b, f, none⟩)) (n : Nat) (cs : List Value) (hn : cs.length = n) {d : TypeDesc} (hc : ∀ i, i < n → w.cell? ⟨b, f + i, none⟩ = cs[i]?)
    (hu : P.underlying ty = some d) (hd : d.isRow = true) (hi : (P.info? ty).map (·.size) = some n) (h : wpList P ops Q rest (a.put o.dst (.agg cs.toArray)) w) : wpList P ops Q (o :: rest) a w := by
  refine wpList_load_mid hgd ty x ho b f hx cs d (fun j v hv => ?_) hu hd (by rw [hi, hn]) h
  have hj : j < cs.length := (List.getElem?_eq_some_iff.1 hv).1
  rw [hc j (by omega)]
  exact hv
end
end Go.Proofs.YteinoiicnmemhaaGreatDoor
/- Contracts: Type, Valid, events, spare, Check. -/
set_option linter.unusedVariables false
set_option linter.unusedSimpArgs false
namespace Go.Proofs.YteinoiicnmemhaaGreatDoor
open Go.RowKit
theorem stF (W : World) (a : Addr) (b : Nat) (m : Mode) : Sem.run Tryz.prog (store a (.float .f64 b) m) W = stored Tryz.prog W a (.float .f64 b) m := run_store Tryz.prog W a _ m rfl
theorem type_any (s : ByteArray) (w : World) (hs : s.size ≤ maxLen) : Calls Tryz.prog 139 #[.string s] w fun e w' => e = .returned (.bool (nameOk s)) ∧ w = w' := by
  go_enter Tryz.func139, Tryz.ntmps139
  go_wp2_with (go_at_call 52; refine (stream_any s _ hs).mono ?_; rintro e w' ⟨rfl, rfl⟩)
  go_ret
  exact ⟨rfl, rfl⟩
theorem valid_any (e : EventR) (w : World) (hs : e.type.size ≤ maxLen ∧ e.data.size ≤ maxLen) : Calls Tryz.prog 95 #[e.val] w fun e1 w' => e1 = .returned (.bool e.ok) ∧ Only [] w w' := by
  have hd := hs.2
  unfold maxLen at hd
  unfold EventR.val
  by_cases h1 : 1 ≤ e.id
  · cases h2 : nameOk e.type
    · go_enter Tryz.func95, Tryz.ntmps95
      go_wp2_with (go_at_call 139; refine (type_any e.type _ hs.1).mono ?_; rintro e w' ⟨rfl, rfl⟩)
      go_ret
      exact ⟨ret_b (by simp [EventR.ok, h2] <;> omega), (Only.refl [] w).alloc _⟩
    · by_cases h3 : e.data.size ≤ 200
      · go_enter Tryz.func95, Tryz.ntmps95
        go_wp2_with (go_at_call 139; refine (type_any e.type _ hs.1).mono ?_; rintro e w' ⟨rfl, rfl⟩)
        go_ret
        exact ⟨ret_b (by simp [EventR.ok, h1, h2, h3] <;> omega), (Only.refl [] w).alloc _⟩
      · go_enter Tryz.func95, Tryz.ntmps95
        go_wp2_with (go_at_call 139; refine (type_any e.type _ hs.1).mono ?_; rintro e w' ⟨rfl, rfl⟩)
        go_ret
        exact ⟨ret_b (by simp [EventR.ok, h3] <;> omega), (Only.refl [] w).alloc _⟩
  · go_enter Tryz.func95, Tryz.ntmps95
    go_wp2_with (go_at_call 139; refine (type_any e.type _ hs.1).mono ?_; rintro e w' ⟨rfl, rfl⟩)
    go_ret
    exact ⟨ret_b (by simp [EventR.ok, h1] <;> omega), (Only.refl [] w).alloc _⟩
def EvsOk (l : List EventR) : Prop := ∀ e ∈ l, e.type.size ≤ maxLen ∧ e.data.size ≤ maxLen
theorem all_takeE {l : List EventR} {f : EventR → Bool} (k : Nat) (h : k < l.length) : (l.take (k + 1)).all f = ((l.take k).all f && f l[k]) := by
  rw [List.take_succ_eq_append_getElem h, List.all_append]
  simp
theorem all_falseE {l : List EventR} {f : EventR → Bool} {k : Nat} (h : k < l.length) (hf : f l[k] = false) : l.all f = false := by
  rw [Bool.eq_false_iff]
  intro q
  rw [List.all_eq_true] at q
  have := q l[k] (List.getElem_mem h)
  rw [hf] at this
  cases this
set_option maxHeartbeats 1000000 in
theorem events_any {w : World} {v : Value} {l : List EventR} (h : Slc w 4 v l.length (l.flatMap EventR.cells)) (hl : EvsOk l) :
    Calls Tryz.prog 53 #[v] w fun e w' => e = .returned (.int .i64 (eventsE l)) ∧ Only [] w w' := by
  obtain ⟨A, cap, rfl, hnc, hcm, hel⟩ := h.openE EventR.cells (fun _ => rfl)
  unfold maxLen at hcm
  by_cases h0 : l.length = 0
  · have hb : ((l.length : Int) == 0) = true := by simp [h0]
    have hb' : (l.length == 0) = true := by simp [h0]
    have hr : Hid (eventsE l = 1) := by unfold Hid eventsE; rw [if_pos h0]
    clear h0
    go_enter Tryz.func53, Tryz.ntmps53
    go_wp2
    go_ret
    exact ⟨ret_i (by rw [hr.out]), Only.refl _ _⟩
  · have hb : ((l.length : Int) == 0) = false := by rw [beq_eq_false_iff_ne]; omega
    have hb' : (l.length == 0) = false := by rw [beq_eq_false_iff_ne]; omega
    by_cases h8 : 8 < l.length
    · have hr : Hid (eventsE l = 2) := by unfold Hid eventsE; rw [if_neg h0, if_pos h8]
      go_enter Tryz.func53, Tryz.ntmps53
      go_wp2
      go_ret
      exact ⟨ret_i (by rw [hr.out]), Only.refl _ _⟩
    · have hr : Hid (eventsE l = if l.all EventR.ok then 0 else 1) := by unfold Hid eventsE; rw [if_neg h0, if_neg h8]
      go_enter Tryz.func53, Tryz.ntmps53
      go_wp2
      go_loopw [15] (fun i wr => ∃ k : Nat, k ≤ l.length ∧ i = .int .i64 k ∧ Hid ((l.take k).all EventR.ok = true) ∧ Only [] w wr) (fun i _ => l.length - (intOf i).toNat)
      case atStart => exact ⟨0, Nat.zero_le _, rfl, by simp [Hid], Only.refl _ _⟩
      case round =>
        obtain ⟨k, hk, rfl, hT, hO⟩ := hrel
        by_cases hlt : k < l.length
        · obtain ⟨b, off, rfl, hbl, hc⟩ := hel k hlt
          have hz := hl _ (List.getElem_mem hlt)
          have hnext : Hid (l[k].ok = true → (l.take (k + 1)).all EventR.ok = true) := by
            intro q
            rw [all_takeE k hlt, hT.out, q]
            rfl
          have hend : Hid (l[k].ok = false → eventsE l = 1) := by
            intro q
            rw [hr.out, all_falseE hlt q]
            rfl
          obtain ⟨x, hx⟩ : ∃ x, x = l[k] := ⟨_, rfl⟩
          rw [← hx] at hc hz hnext hend
          have c0 : wr.cell? ⟨b, off + k * 4, none⟩ = some (.int .i64 x.id) := (hO.cell hbl (by simp)).trans (hc 0 (by omega))
          have c1 : wr.cell? ⟨b, off + k * 4 + 1, none⟩ = some (.string x.type) := (hO.cell hbl (by simp)).trans (hc 1 (by omega))
          have c2 : wr.cell? ⟨b, off + k * 4 + 2, none⟩ = some (.string x.data) := (hO.cell hbl (by simp)).trans (hc 2 (by omega))
          have c3 : wr.cell? ⟨b, off + k * 4 + 3, none⟩ = some (.float .f64 x.value) := (hO.cell hbl (by simp)).trans (hc 3 (by omega))
          clear hc hel hx
          have hsf := stF
          cases hok : x.ok
          · have HE := Lib.hid (hend.out hok)
            clear hnext hend
            go_wp2_with (go_at_call 95; refine (valid_any x _ hz).mono ?_; rintro e w1 ⟨rfl, ho1⟩; rw [hok])
            go_ret
            exact ⟨ret_i (by rw [HE.out]), (hO.alloc _).trans ho1⟩
          · have HN := Lib.hid (hnext.out hok)
            clear hnext hend
            go_wp2_with (go_at_call 95; refine (valid_any x _ hz).mono ?_; rintro e w1 ⟨rfl, ho1⟩; rw [hok])
            exact ⟨⟨k + 1, hlt, by simp, HN, (hO.alloc _).trans ho1⟩, by simp [intOf]; omega⟩
        · have hfin : Hid (eventsE l = 0) := by
            have := hT.out
            rw [List.take_of_length_le (by omega)] at this
            unfold Hid
            rw [hr.out, this]
            rfl
          go_wp2
          go_ret
          exact ⟨ret_i (by rw [hfin.out]), hO⟩
end Go.Proofs.YteinoiicnmemhaaGreatDoor
/- Contracts: spare, Check. -/
set_option linter.unusedVariables false
set_option linter.unusedSimpArgs false
namespace Go.Proofs.YteinoiicnmemhaaGreatDoor
open Go.RowKit
theorem mt_zero {a b d : Int} : (⟨a, b, d⟩ : MetaR) = MetaR.zero ↔ a = 0 ∧ b = 0 ∧ d = 0 := by simp [MetaR.zero]
set_option maxHeartbeats 1000000 in
theorem spare_any (c : Cmd) (A : Option Addr) (cap : Nat) (w : World) (hl : c.events.length ≤ 9223372036854775807) (hk : 1 ≤ c.kind ∧ c.kind ≤ 5) :
    Calls Tryz.prog 56 #[c.val (.slice A c.events.length cap)] w fun e w' => e = .returned (.bool c.spare) ∧ Only [] w w' := by
  obtain ⟨kind, time, stream, ex, l, a, b, d⟩ := c
  simp only [Cmd.val] at hl hk ⊢
  have hk' : kind = 1 ∨ kind = 2 ∨ kind = 3 ∨ kind = 4 ∨ kind = 5 := by omega
  rcases hk' with rfl | rfl | rfl | rfl | rfl
  all_goals
    go_enter Tryz.func56, Tryz.ntmps56
    go_wp2
    all_goals
      go_ret
      refine ⟨?_, (Only.refl [] w).alloc _⟩
      first
        | (refine ret_b ?_; simp_all [Cmd.spare, mt_zero]; done)
        | (simp_all [Cmd.spare, mt_zero]; done)
structure CmdOk (c : Cmd) : Prop where
  stream : c.stream.size ≤ maxLen
  evs : EvsOk c.events
set_option maxHeartbeats 2000000 in
theorem check_any (c : Cmd) (v : Value) (w : World) (hs : Slc w 4 v c.events.length (c.events.flatMap EventR.cells)) (ho : CmdOk c) :
    Calls Tryz.prog 20 #[c.val v] w fun e w' => e = .returned (.int .i64 c.check) ∧ Only [] w w' := by
  obtain ⟨A, cap, rfl, hnc, hcm, hel⟩ := hs.openE EventR.cells (fun _ => rfl)
  clear hel
  obtain ⟨ho1, ho2⟩ := ho
  obtain ⟨kind, time, stream, ex, l, a, b, d⟩ := c
  have hl : l.length ≤ 9223372036854775807 := by unfold maxLen at hcm; exact Nat.le_trans hnc (by omega)
  have hl1 : Only [] w (w.alloc (.cells #[.int .i64 kind, .int .i64 time, .string stream, .int .i64 ex, .slice A l.length cap, .int .i64 a, .int .i64 b, .int .i64 d] 40)) := (Only.refl [] w).alloc _
  simp only [Cmd.val] at hs ho1 ho2 ⊢
  clear hcm hnc
  by_cases hk : 1 ≤ kind ∧ kind ≤ 5
  · have hk' : kind = 1 ∨ kind = 2 ∨ kind = 3 ∨ kind = 4 ∨ kind = 5 := by omega
    rcases hk' with rfl | rfl | rfl | rfl | rfl
    all_goals
      have HV := Lib.hid (events_any (hs.only0 hl1) ho2)
      have HP := fun w => Lib.hid (spare_any ⟨_, time, stream, ex, l, a, b, d⟩ A cap w hl hk)
      have HL := Lib.hid hl1
      clear hk hl1 hs ho2
      go_enter Tryz.func20, Tryz.ntmps20
      go_wp2_with (first
        | (go_at_call 51; refine (within_any _ _).mono ?_; rintro e w' ⟨rfl, rfl⟩)
        | (go_at_call 52; refine (stream_any _ _ ho1).mono ?_; rintro e w' ⟨rfl, rfl⟩)
        | (go_at_call 53; refine HV.out.mono ?_; rintro e w1 ⟨rfl, hw1⟩; have hq1 := fun i => (hw1.blk (Blk.new w 40 _) (by simp)).cell i)
        | (go_at_call 54; refine (expects_any _ _).mono ?_; rintro e w' ⟨rfl, rfl⟩)
        | (go_at_call 55; refine (validMeta_any ⟨a, b, d⟩ _).mono ?_; rintro e w2 ⟨rfl, hw2⟩; have hq2 := fun i => (hw2.blk (Blk.new w 40 _) (by simp)).cell i)
        | (go_at_call 56; refine (HP _).out.mono ?_; rintro e w3 ⟨rfl, hw3⟩))
      all_goals
        go_ret
        refine ⟨?_, by first | exact HL.out | exact HL.out.trans hw1 | exact HL.out.trans hw2 | exact HL.out.trans hw3 | exact (HL.out.trans hw1).trans hw3 | exact (HL.out.trans hw2).trans hw3⟩
        try clear hq1
        try clear hq2
        try clear hw3
        try clear hw2
        try clear hw1
        clear HV HP HL
        first
          | (refine ret_i ?_; simp_all [Cmd.check]; done)
          | (simp_all [Cmd.check]; done)
  · have HL := Lib.hid hl1
    clear hl1 hs ho2
    go_enter Tryz.func20, Tryz.ntmps20
    have hck : (Cmd.mk kind time stream ex l ⟨a, b, d⟩).check = 1 := by unfold Cmd.check; rw [if_pos (by simp only []; omega)]
    rw [hck]
    clear hck
    go_wp2
    all_goals
      go_ret
      exact ⟨rfl, HL.out⟩
end Go.Proofs.YteinoiicnmemhaaGreatDoor
/- Contracts: young, Floor, expected, Canon. -/
set_option linter.unusedVariables false
set_option linter.unusedSimpArgs false
namespace Go.Proofs.YteinoiicnmemhaaGreatDoor
open Go.RowKit
theorem young_drop (age now : Int) (ts : List Int) (k : Nat) (h : k < ts.length) : young age now (ts.drop k) = if now - age < ts[k] then 0 else 1 + young age now (ts.drop (k + 1)) := by
  rw [List.drop_eq_getElem_cons h]
  rfl
theorem young_bd (age now : Int) : ∀ ts : List Int, 0 ≤ young age now ts ∧ young age now ts ≤ ts.length
  | [] => ⟨Int.le_refl _, Int.le_refl _⟩
  | t :: l => by
    have := young_bd age now l
    unfold young
    split
    · simp; omega
    · simp; omega
theorem young_any {w : World} {v : Value} {ts : List Int} {age now : Int} (h : Slc w 1 v ts.length (ints ts)) (hn : 0 ≤ now ∧ now ≤ 2199023255552) (ha : 0 ≤ age ∧ age ≤ 2199023255552) :
    Calls Tryz.prog 96 #[.int .i64 age, .int .i64 now, v] w fun e w' => e = .returned (.int .i64 (young age now ts)) ∧ w = w' := by
  obtain ⟨A, cap, rfl, hnc, hcm, hel⟩ := h.openI
  obtain ⟨hn1, hn2⟩ := hn
  obtain ⟨ha1, ha2⟩ := ha
  have hl : ts.length ≤ 9223372036854775807 := by unfold maxLen at hcm; exact Nat.le_trans hnc (by omega)
  clear hcm hnc h
  go_enter Tryz.func96, Tryz.ntmps96
  go_wp2
  go_loop [11] (fun i => ∃ k : Nat, k ≤ ts.length ∧ i = .int .i64 k ∧ Hid (young age now ts = k + young age now (ts.drop k))) (fun i => ts.length - (intOf i).toNat)
  case atStart => exact ⟨0, Nat.zero_le _, rfl, by simp [Hid]⟩
  case round =>
    obtain ⟨k, hk, rfl, hT⟩ := hrel
    by_cases hlt : k < ts.length
    · obtain ⟨b, off, rfl, hb, hc⟩ := hel k hlt
      have hd := young_drop age now ts k hlt
      obtain ⟨t, ht⟩ : ∃ t, t = ts[k] := ⟨_, rfl⟩
      rw [← ht] at hd hc
      by_cases hy : now - age < t
      · have HD : Hid (young age now ts = k) := by unfold Hid; rw [hT.out, hd, if_pos hy]; simp
        clear hd ht hel
        go_wp2
        go_ret
        exact ⟨ret_i (by rw [HD.out]), rfl⟩
      · have HD : Hid (young age now ts = ((k + 1 : Nat) : Int) + young age now (ts.drop (k + 1))) := by unfold Hid; rw [hT.out, hd, if_neg hy]; omega
        clear hd ht hel
        go_wp2
        go_round
        case rel => exact ⟨k + 1, hlt, by go_num, HD⟩
        case measure => simp [intOf]; omega
    · have HD : Hid (young age now ts = ts.length) := by
        have hkl : k = ts.length := by omega
        unfold Hid
        rw [hT.out, hkl, List.drop_length]
        simp [young]
      go_wp2
      go_ret
      exact ⟨ret_i (by rw [HD.out]), rfl⟩
set_option maxHeartbeats 1000000 in
theorem floor_any {w : World} {v : Value} {ts : List Int} {m : MetaR} {floor now : Int} (h : Slc w 1 v ts.length (ints ts)) (hn : 0 ≤ now ∧ now ≤ 2199023255552) (hm : m.ok = true) (hf : 0 ≤ floor ∧ floor ≤ 2199023255552) (hl : ts.length ≤ 1000000000) :
    Calls Tryz.prog 57 #[m.val, .int .i64 floor, .int .i64 now, v] w fun e w' => e = .returned (.int .i64 (floorE m floor now ts)) ∧ Only [] w w' := by
  obtain ⟨A, cap, rfl, hnc, hcm, _⟩ := h.openI
  obtain ⟨a, b, d⟩ := m
  simp [MetaR.ok, within] at hm
  obtain ⟨⟨⟨ha1, ha2⟩, hb1, hb2⟩, hd1, hd2⟩ := hm
  obtain ⟨hf1, hf2⟩ := hf
  have HY := Lib.hid (young_any (w := w.alloc (.cells #[.int .i64 a, .int .i64 b, .int .i64 d] 38)) (age := b) (h.only0 ((Only.refl [] w).alloc _)) hn ⟨hb1, by omega⟩)
  have hyb := young_bd b now ts
  obtain ⟨y, hy⟩ : ∃ y, y = young b now ts := ⟨_, rfl⟩
  rw [← hy] at HY hyb
  obtain ⟨hy1, hy2⟩ := hyb
  have HR : Hid (floorE ⟨a, b, d⟩ floor now ts = min (if 0 < b then max (if 0 < a then max (max (max floor 0) d) (ts.length - a) else max (max floor 0) d) y else (if 0 < a then max (max (max floor 0) d) (ts.length - a) else max (max floor 0) d)) ts.length) := by
    unfold Hid floorE
    rw [hy]
  clear hcm hnc h hn hy
  unfold MetaR.val
  by_cases h1 : 0 < a
  · by_cases h2 : 0 < b
    · rw [if_pos h1, if_pos h2] at HR
      go_enter Tryz.func57, Tryz.ntmps57
      go_wp2_with (go_at_call 96; refine HY.out.mono ?_; rintro e w' ⟨rfl, rfl⟩)
      all_goals
        go_ret
        refine ⟨ret_i ?_, (Only.refl [] w).alloc _⟩
        rw [HR.out]
        omega
    · rw [if_pos h1, if_neg h2] at HR
      go_enter Tryz.func57, Tryz.ntmps57
      go_wp2_with (go_at_call 96; refine HY.out.mono ?_; rintro e w' ⟨rfl, rfl⟩)
      all_goals
        go_ret
        refine ⟨ret_i ?_, (Only.refl [] w).alloc _⟩
        rw [HR.out]
        omega
  · by_cases h2 : 0 < b
    · rw [if_neg h1, if_pos h2] at HR
      go_enter Tryz.func57, Tryz.ntmps57
      go_wp2_with (go_at_call 96; refine HY.out.mono ?_; rintro e w' ⟨rfl, rfl⟩)
      all_goals
        go_ret
        refine ⟨ret_i ?_, (Only.refl [] w).alloc _⟩
        rw [HR.out]
        omega
    · rw [if_neg h1, if_neg h2] at HR
      go_enter Tryz.func57, Tryz.ntmps57
      go_wp2_with (go_at_call 96; refine HY.out.mono ?_; rintro e w' ⟨rfl, rfl⟩)
      all_goals
        go_ret
        refine ⟨ret_i ?_, (Only.refl [] w).alloc _⟩
        rw [HR.out]
        omega
theorem expected_any (want count : Int) (w : World) (hc : 0 ≤ count ∧ count ≤ 2199023255552) : Calls Tryz.prog 59 #[.int .i64 want, .int .i64 count] w fun e w' => e = .returned (.bool (expected want count)) ∧ w = w' := by
  obtain ⟨hc1, hc2⟩ := hc
  by_cases h1 : want = -2
  · subst h1
    go_enter Tryz.func59, Tryz.ntmps59
    go_wp2
    go_ret
    exact ⟨ret_b (by simp [expected]), rfl⟩
  · have b1 : (want == -2) = false := by simpa using h1
    by_cases h2 : want = -1
    · subst h2
      go_enter Tryz.func59, Tryz.ntmps59
      go_wp2
      go_ret
      exact ⟨ret_b (by first | (simp [expected]; done) | (simp [expected]; rfl)), rfl⟩
    · have b2 : (want == -1) = false := by simpa using h2
      by_cases h4 : want = -4
      · subst h4
        go_enter Tryz.func59, Tryz.ntmps59
        go_wp2
        go_ret
        exact ⟨ret_b (by simp [expected]), rfl⟩
      · have b4 : (want == -4) = false := by simpa using h4
        have hr : Hid (expected want count = decide (want = count - 1)) := by unfold Hid expected; rw [if_neg h1, if_neg h2, if_neg h4]
        clear h1 h2 h4
        by_cases h5 : want = count - 1
        · have b5 : (want == count - 1) = true := by simpa using h5
          have hr' : Hid (expected want count = true) := by unfold Hid; rw [hr.out]; simpa using h5
          clear h5
          go_enter Tryz.func59, Tryz.ntmps59
          go_wp2
          go_ret
          exact ⟨ret_b (by rw [hr'.out]), rfl⟩
        · have b5 : (want == count - 1) = false := by simpa using h5
          have hr' : Hid (expected want count = false) := by unfold Hid; rw [hr.out]; simpa using h5
          clear h5
          go_enter Tryz.func59, Tryz.ntmps59
          go_wp2
          go_ret
          exact ⟨ret_b (by rw [hr'.out]), rfl⟩
theorem from_run (n : Int) (w : World) : (callFunc 102 #[.int .u64 n]).run Tryz.prog w = .ok (.value (.float .f64 n.toNat)) w := by kernel_rfl
theorem to_run (b : Nat) (w : World) : (callFunc 103 #[.float .f64 b]).run Tryz.prog w = .ok (.value (.int .u64 b)) w := by kernel_rfl
set_option maxRecDepth 100000 in
theorem canon_any (b : Nat) (w : World) : Calls Tryz.prog 100 #[.float .f64 b] w fun e w' => e = .returned (.float .f64 (canon b)) ∧ w = w' := by
  have hf := fun W => from_run 9221120237041090560 W
  cases hb : isNaN b
  · have hr : Hid (canon b = b) := by unfold Hid canon; rw [hb]; rfl
    unfold isNaN at hb
    go_enter Tryz.func100, Tryz.ntmps100
    go_wp2
    go_ret
    exact ⟨by rw [hr.out]; rfl, rfl⟩
  · have hr : Hid (canon b = 9221120237041090560) := by unfold Hid canon; rw [hb]; rfl
    unfold isNaN at hb
    go_enter Tryz.func100, Tryz.ntmps100
    go_wp2
    go_ret
    exact ⟨by rw [hr.out]; rfl, rfl⟩
end Go.Proofs.YteinoiicnmemhaaGreatDoor
/- A region that draws its order: all operations but the last few read, reckon or call quietly within a class of worlds; the last few stand in one forced order. One walk in the order of the text serves every order. No program is named. -/
set_option linter.unusedVariables false
set_option linter.unusedSimpArgs false
namespace Go.Proofs.YteinoiicnmemhaaGreatDoor
open Go Go.RowKit Go.Sort
section
variable {P : Program} {ops : Array Oper} {md : Region.Mode} {C : World → Prop}

/-- Whatever order is picked, for so many operations of the first n; then L. -/
def AnyHead (P : Program) (md : Region.Mode) (ops : Array Oper) (C : World → Prop) (n : Nat) (L : Array Bool → Act → Prop) : Nat → Array Bool → Act → Prop
  | 0, listed, a => L listed a
  | f + 1, listed, a => Region.ready md ops listed ≠ [] ∧ ∀ i ∈ Region.ready md ops listed, i < n ∧ qOp P ops C i (AnyHead P md ops C n L f (listed.setIfInBounds i true)) a

theorem any_of_head {n g : Nat} {L : Array Bool → Act → Prop} {Q' : Exit → Act → World → Prop} (hL : ∀ listed a w, C w → L listed a → wpAny P md ops Q' g listed a w) :
    ∀ (f : Nat) (listed : Array Bool) (a : Act) (w : World), C w → AnyHead P md ops C n L f listed a → wpAny P md ops Q' (f + g) listed a w
  | 0, listed, a, w, hw, h => by rw [Nat.zero_add]; exact hL _ _ _ hw h
  | f + 1, listed, a, w, hw, h => by
    rw [show f + 1 + g = (f + g) + 1 by omega]
    exact ⟨fun h0 => absurd h0 h.1, fun i hi => wpOp_of_qOp hw (fun a' w' hw' h' => any_of_head hL f _ a' w' hw' h') (h.2 i hi).2⟩

theorem head_first {n i : Nat} {oi : Oper} {v : Value} {L : Array Bool → Act → Prop} (hi : ops[i]? = some oi) (hsel : ∀ (j : Nat) (o : Oper) cs b, ops[j]? = some o → o.op ≠ .select cs b)
    (hs : Region.sinkB md ops n = true) (hc : Region.chainB md ops n = true) (hn : n < ops.size) (hin : i < n)
    (hdone : ∀ listed a, L listed a → ∀ j ∈ Region.ready md ops listed, n ≤ j) :
    ∀ (f : Nat) (listed : Array Bool) (a : Act), HeadInv md ops n listed →
      (∀ j oj, ops[j]? = some oj → j ≠ i → listed.getD j true = false → (∀ e ∈ oj.after, Region.binds md e = true → e.on ≠ i) → oi.apart ops oj = true) →
      i ∈ Region.ready md ops listed → YieldsIn P ops C oi v a →
      AnyHead P md ops C n L f (listed.setIfInBounds i true) (a.put oi.dst v) → AnyHead P md ops C n L (f + 1) listed a := by
  intro f
  induction f with
  | zero =>
    intro listed a inv _ hr hy H
    have hun := (mem_ready.1 hr).1
    refine ⟨fun h => (by rw [h] at hr; cases hr), fun j hj => ?_⟩
    have hjn : j < n := by
      rcases Nat.lt_or_ge j n with h | h
      · exact h
      · exact absurd hj (tail_waits hs hc hn inv _ i rfl hin hun j h)
    refine ⟨hjn, ?_⟩
    by_cases hji : j = i
    · subst hji; exact hy.qOp hi H
    · have := hdone _ _ H j (ready_mono hj hji)
      omega
  | succ f ih =>
    intro listed a inv hfree hr hy H
    have hun := (mem_ready.1 hr).1
    refine ⟨fun h => (by rw [h] at hr; cases hr), fun j hj => ?_⟩
    have hjn : j < n := by
      rcases Nat.lt_or_ge j n with h | h
      · exact h
      · exact absurd hj (tail_waits hs hc hn inv _ i rfl hin hun j h)
    refine ⟨hjn, ?_⟩
    by_cases hji : j = i
    · subst hji; exact hy.qOp hi H
    · have h1 := (H.2 j (ready_mono hj hji)).2
      obtain ⟨hjun, oj, hoj, hall⟩ := mem_ready.1 hj
      have hnot : ∀ e ∈ oj.after, Region.binds md e = true → e.on ≠ i := fun e he hb heq => by
        have h1 := hall e he hb
        rw [heq, getD_both hun] at h1
        cases h1
      have h2 := qOp_put hoj (hfree j oj hoj hji hjun hnot) (fun cs b => hsel i oi cs b hi) (fun cs b => hsel j oj cs b hoj) hy h1
      have hfree' : ∀ k ok, ops[k]? = some ok → k ≠ i → (listed.setIfInBounds j true).getD k true = false →
          (∀ e ∈ ok.after, Region.binds md e = true → e.on ≠ i) → oi.apart ops ok = true := fun k ok hk hki hun hno => by
        refine hfree k ok hk hki ?_ hno
        by_cases hjk : j = k
        · subst hjk; exact hjun
        · rw [getD_set_ne true hjk] at hun; exact hun
      refine qOp_mono (fun a' h3 => ih (listed.setIfInBounds j true) a' (inv.set hj hjn) hfree' (ready_mono hr (Ne.symm hji)) h3.1 ?_) h2
      rw [Array.setIfInBounds_comm _ _ hji]
      exact h3.2

theorem head_lex {n g : Nat} {Lq : Act → Prop} (hsel : Region.noSelect ops = true) (hs : Region.sinkB md ops n = true) (hc : Region.chainB md ops n = true) (hn : n < ops.size) :
    ∀ (l : List Oper) (k : Nat) (listed : Array Bool) (a : Act), (∀ j, j < l.length → l[j]? = ops[k + j]?) → k + l.length = n → HeadInv md ops n listed →
    Region.lexHead md ops g l.length k listed = true → wpQuiet P ops C Lq l a →
    AnyHead P md ops C n (fun listed' a' => Region.seqB md ops g n listed' = true ∧ Lq a') l.length listed a
  | [], k, listed, a, _, hk, _, hB, h => by
    have : k = n := by simpa using hk
    subst this
    exact ⟨by simpa [Region.lexHead] using hB, h⟩
  | o :: l, k, listed, a, hl, hk, inv, hB, h => by
    have h0 : ops[k]? = some o := by simpa using (hl 0 (by simp)).symm
    simp only [List.length_cons, Region.lexHead, Bool.and_eq_true] at hB
    obtain ⟨⟨hr, hf⟩, hB'⟩ := hB
    have hkn : k < n := by simp only [List.length_cons] at hk; omega
    have hr' : k ∈ Region.ready md ops listed := by simpa using hr
    have hst : qOp P ops C k (wpQuiet P ops C Lq l) a := by unfold qOp; simp only [h0]; exact h
    obtain ⟨v, hy, hK⟩ := yieldsIn_of_qOp h0 hst
    exact head_first h0 (Region.noSelect_spec hsel) hs hc hn hkn (fun listed' a' hL => seqB_ready hL.1) l.length listed a inv (Region.free_spec h0 hf) hr' hy
      (head_lex hsel hs hc hn l (k + 1) _ _ (fun j hj => by have := hl (j + 1) (by simp; omega); simpa [Nat.add_assoc, Nat.add_comm 1 j] using this) (by simp only [List.length_cons] at hk; omega) (inv.set hr' hkn) hB' hK)

/-- The first n operations quietly within C, in the order of the text; the others one behind the other. -/
theorem wp_region_qtail {id : Nat} {Q : Exit → Act → World → Prop} {a : Act} {w : World} {l : List Oper} (n : Nat) (hm : P.follows .mixedOrders = true) (hB : Region.lexTailB .any l.toArray n = true) (hC : C { w with drawn := w.drawn + 1 })
    (h : wpQuiet P l.toArray C (fun a' => ∀ w', C w' → wpList P l.toArray Q (l.drop n) a' w') (l.take n) a) : (Code.region id l.toArray true).wp P Q a w := by
  simp only [Region.lexTailB, Bool.and_eq_true, decide_eq_true_eq] at hB
  obtain ⟨⟨⟨⟨hsel, hn⟩, hs⟩, hc⟩, hlex⟩ := hB
  have hn' : n < l.length := by simpa using hn
  have htl : (l.take n).length = n := by simp; omega
  have hdl : (l.drop n).length = l.toArray.size - n := by simp
  have inv0 : HeadInv .any l.toArray n (Array.replicate l.toArray.size false) :=
    ⟨by simp, fun j oj _ hl => (by rw [getD_replicate_false] at hl; cases hl), fun t _ ht => getD_in (by simpa using ht) (getD_replicate_false _ _)⟩
  have H := head_lex (md := .any) (g := l.toArray.size - n) hsel hs hc hn (l.take n) 0 _ a (fun j hj => by
    have hj' : j < n := by rw [htl] at hj; exact hj
    simp [hj']) (by simpa using htl) inv0 (by rw [htl]; exact hlex) h
  refine wp_region_any hm ?_
  have := any_of_head (Q' := Q) (g := l.toArray.size - n) (fun listed a' w' hw' hL => by
    have := wpAny_of_seq (md := .any) (Q' := Q) (l.drop n) n listed a' w' (fun j => by simp [List.getElem?_drop]) (by rw [hdl]; exact hL.1) (hL.2 w' hw')
    rwa [hdl] at this) _ _ _ _ hC H
  rw [htl, show n + (l.toArray.size - n) = l.toArray.size by omega] at this
  exact this

/-- The same at the class 'w with draws and with blocks laid behind it'. -/
theorem wp_region_btail {id : Nat} {Q : Exit → Act → World → Prop} {a : Act} {w : World} {l : List Oper} (n : Nat) (hm : P.follows .mixedOrders = true) (hB : Region.lexTailB .any l.toArray n = true)
    (h : wpQuiet P l.toArray (fun w' => ∃ p : Regrown, w' = grow (redrawn w p.d) p.os) (fun a' => ∀ w', (∃ p : Regrown, w' = grow (redrawn w p.d) p.os) → wpList P l.toArray Q (l.drop n) a' w') (l.take n) a) : (Code.region id l.toArray true).wp P Q a w :=
  wp_region_qtail (C := fun w' => ∃ p : Regrown, w' = grow (redrawn w p.d) p.os) n hm hB ⟨⟨w.drawn + 1, #[]⟩, by rw [grow_empty]; rfl⟩ h
/-- The first n operations stand still in the drawn world; the others one behind the other. -/
theorem wp_region_stail {id : Nat} {Q : Exit → Act → World → Prop} {a : Act} {w : World} {l : List Oper} (n : Nat) (hm : P.follows .mixedOrders = true) (hB : Region.lexTailB .any l.toArray n = true)
    (h : wpStill P l.toArray w.drew (fun a' => wpList P l.toArray Q (l.drop n) a' w.drew) (l.take n) a) : (Code.region id l.toArray true).wp P Q a w :=
  wp_region_still_tail n hm hB h
theorem Only.regrown (S : List Nat) (w : World) (d : Nat) (os : Array Obj) : Only S w (grow (redrawn w d) os) := Only.of_below (below_regrown w d os) (Nat.le_refl _)
end
end Go.Proofs.YteinoiicnmemhaaGreatDoor
/- A region that draws its order, walked in one order of one's own: first operations that only read (H), each the same in every world of a class C; then some that may come early but stay within C (T1); then the rest (T2), each behind all of H. No program is named. -/
set_option linter.unusedVariables false
set_option linter.unusedSimpArgs false
namespace Go.Proofs.YteinoiicnmemhaaGreatDoor
open Go Go.RowKit Go.Sort
section
variable {P : Program} {ops : Array Oper} {md : Region.Mode} {C : World → Prop} {Q : Exit → Act → World → Prop}

/-- An operation that ends in a value: it enters no function. -/
def plainB (o : Oper) : Bool :=
  match o.op with
  | .move _ | .assign _ | .pick .. | .load .. | .binOp .. | .unOp .. | .fieldAddr .. | .field .. | .indexAddr .. | .index .. | .lookup .. | .extract .. | .build .. | .slice .. | .convert .. => true
  | .nilCheck _ => true
  | .call { callee := .builtin .len, .. } => true
  | .call { callee := .builtin .min, .. } => true
  | .call { callee := .builtin .max, .. } => true
  | _ => false
theorem run_value {s : Sem Value} {w w' : World} {n : Next} (h : (do pure (Next.value (← s)) : Sem Next).run P w = .ok n w') : ∃ v, n = .value v := by
  simp only [Sem.run_bind] at h
  generalize s.run P w = r at h
  cases r with
  | ok a w1 => simp [Result.andThen] at h; exact ⟨a, h.1.symm⟩
  | halt x w1 => simp [Result.andThen] at h
/-- It stands still in every world of the class. -/
def YieldsS (P : Program) (ops : Array Oper) (C : World → Prop) (o : Oper) (v : Value) (a : Act) : Prop :=
  (Region.wanted o (yielded ops a.tmps) = true ∧ ∀ w, C w → (execOp a.eval o).run P w = .ok (.value v) w) ∨
  (Region.wanted o (yielded ops a.tmps) = false ∧ v = undef)
theorem YieldsS.of_same {o : Oper} {v : Value} {a a' : Act} (hy : YieldsS P ops C o v a) (he : execOp a'.eval o = execOp a.eval o)
    (hw : Region.wanted o (yielded ops a'.tmps) = Region.wanted o (yielded ops a.tmps)) : YieldsS P ops C o v a' := by
  unfold YieldsS at *
  rw [he, hw]
  exact hy
theorem YieldsS.put {oi oj : Oper} {v u : Value} {a : Act} (hap : oi.apart ops oj = true) (hsi : ∀ cs b, oi.op ≠ .select cs b) (hy : YieldsS P ops C oi v a) : YieldsS P ops C oi v (a.put oj.dst u) :=
  hy.of_same (execOp_put oi hsi a oj.dst u (Oper.apart_spec hap).2.2) (wanted_put oi a oj.dst u (Oper.apart_spec hap).2.2)
theorem YieldsS.unput {oi oj : Oper} {v u : Value} {a : Act} (hap : oi.apart ops oj = true) (hsj : ∀ cs b, oj.op ≠ .select cs b) (hy : YieldsS P ops C oj u (a.put oi.dst v)) : YieldsS P ops C oj u a :=
  hy.of_same (execOp_put oj hsj a oi.dst v (Oper.apart_spec hap).1).symm (wanted_put oj a oi.dst v (Oper.apart_spec hap).1).symm
theorem YieldsS.wpOp {i : Nat} {o : Oper} {v : Value} {a : Act} {w : World} (hi : ops[i]? = some o) (hC : C w) (hy : YieldsS P ops C o v a) {K : Act → World → Prop} (h : K (a.put o.dst v) w) : wpOp P ops Q i K a w := by
  unfold Go.wpOp
  simp only [hi]
  rcases hy with ⟨hw, hv⟩ | ⟨hw, rfl⟩
  · simp only [hw, if_true, Oper.wp, hv w hC, Oper.upon]; exact .inl h
  · simp only [hw, Bool.false_eq_true, if_false]; exact h
theorem wpOp_putS {j : Nat} {oi oj : Oper} {v : Value} (hj : ops[j]? = some oj) (hap : oi.apart ops oj = true)
    (hsi : ∀ cs b, oi.op ≠ .select cs b) (hsj : ∀ cs b, oj.op ≠ .select cs b)
    (hQ : ∀ c a w, Q (.panic c) (a.put oi.dst v) w → Q (.panic c) a w) {K : Act → World → Prop} {a : Act} {w : World}
    (hy : YieldsS P ops C oi v a) (h : wpOp P ops Q j K (a.put oi.dst v) w) :
    wpOp P ops Q j (fun a' w' => YieldsS P ops C oi v a' ∧ K (a'.put oi.dst v) w') a w := by
  obtain ⟨h1, h2, h3⟩ := Oper.apart_spec hap
  have keep : ∀ (b : Act), YieldsS P ops C oi v b → ∀ u, YieldsS P ops C oi v (b.put oj.dst u) := fun b hb u => hb.put hap hsi
  have keepD : ∀ d, YieldsS P ops C oi v { a with defers := d :: a.defers } := fun d => hy.of_same rfl rfl
  unfold Go.wpOp at h ⊢
  simp only [hj] at h ⊢
  rw [wanted_put oj a oi.dst v h1] at h
  by_cases hw : Region.wanted oj (yielded ops a.tmps) = true
  · rw [if_pos hw] at h ⊢
    rcases h with h | ⟨hasks, hlets⟩
    · left
      unfold Oper.wp at h ⊢
      rw [execOp_put oj hsj a oi.dst v h1] at h
      generalize (execOp a.eval oj).run P w = r at h ⊢
      cases r with
      | ok n w' =>
        cases n <;> simp only [Oper.upon] at h ⊢
        case value u => exact ⟨keep a hy u, (Act.put_comm a v u h2) ▸ h⟩
        case skip => exact ⟨keep a hy _, (Act.put_comm a v undef h2) ▸ h⟩
        case defer d =>
          refine ⟨keep _ (keepD d) _, ?_⟩
          rw [← Act.put_comm _ v undef h2, ← Act.put_defers]
          exact h
        case enter f args =>
          refine Calls.mono h fun e w'' he => ?_
          cases e with
          | returned u => exact ⟨keep a hy u, (Act.put_comm a v u h2) ▸ he⟩
          | panicked c => exact hQ _ _ _ he
          | outgrown => exact he
        case row row args => exact Rows.mono h fun u w'' he => ⟨keep a hy u, (Act.put_comm a v u h2) ▸ he⟩
      | halt x w' =>
        cases x <;> simp only [Oper.upon] at h ⊢
        case panic u => exact hQ _ _ _ h
    · right
      refine ⟨?_, hlets⟩
      unfold Oper.asks at *
      rw [execOp_put oj hsj a oi.dst v h1] at hasks
      exact hasks
  · rw [if_neg hw] at h ⊢
    exact ⟨keep a hy _, (Act.put_comm a v undef h2) ▸ h⟩
theorem run_valueF {α : Type} {s : Sem α} {f : α → Value} {w w' : World} {n : Next} (h : (s >>= fun x => pure (Next.value (f x)) : Sem Next).run P w = .ok n w') : ∃ v, n = .value v := by
  simp only [Sem.run_bind] at h
  generalize s.run P w = r at h
  cases r with
  | ok a w1 => simp [Result.andThen] at h; exact ⟨_, h.1.symm⟩
  | halt x w1 => simp [Result.andThen] at h
theorem run_bindV {α : Type} {s : Sem α} {g : α → Sem Next} {w w' : World} {n : Next} (hg : ∀ a n w w', (g a).run P w = .ok n w' → ∃ v, n = .value v) (h : (s >>= g).run P w = .ok n w') : ∃ v, n = .value v := by
  simp only [Sem.run_bind] at h
  generalize s.run P w = r at h
  cases r with
  | ok a w1 => exact hg a n w1 w' (by simpa [Result.andThen] using h)
  | halt x w1 => simp [Result.andThen] at h
theorem run_builtin {ρ : Operand → Value} {c : Call} {ty : TypeId} {b : Builtin} {s : Array TypeId → TypeId → Array Value → Sem Value} {w w' : World} {n : Next} (hc : c.callee = .builtin b)
    (hb : ∀ a t cs x, builtin b a t cs x = (do pure (Next.value (← s a t x)) : Sem Next)) (h : (do let d ← resolve ρ c ty; invoke d.target d.args : Sem Next).run P w = .ok n w') : ∃ v, n = .value v := by
  simp only [resolve, hc, Sem.run_bind, Sem.run_pure, Result.andThen_ok, invoke, hb] at h
  generalize (s c.argTypes ty (c.args.map ρ)).run P w = r at h
  cases r with
  | ok a w1 => simp [Result.andThen] at h; exact ⟨a, h.1.symm⟩
  | halt x w1 => simp [Result.andThen] at h
theorem plain_value {o : Oper} {ρ : Operand → Value} {w w' : World} {n : Next} (h : plainB o = true) (hr : (execOp ρ o).run P w = .ok n w') : ∃ v, n = .value v := by
  obtain ⟨dst, op, type, pos, after, guard⟩ := o
  cases op <;> simp only [plainB] at h <;> try cases h
  case move x => simp only [execOp, Sem.run_pure] at hr; cases hr; exact ⟨_, rfl⟩
  case assign x => simp only [execOp, Sem.run_pure] at hr; cases hr; exact ⟨_, rfl⟩
  case pick c a b => exact run_valueF hr
  case nilCheck x =>
    simp only [execOp] at hr
    split at hr
    all_goals first
      | (simp [runtimePanic, Sem.run_bind, Result.andThen, goPanic, Sem.run] at hr; done)
      | (simp only [Sem.run_pure] at hr; cases hr; exact ⟨_, rfl⟩)
      | (split at hr <;> first
          | (simp [runtimePanic, Sem.run_bind, Result.andThen, goPanic, Sem.run] at hr; done)
          | (simp only [Sem.run_pure] at hr; cases hr; exact ⟨_, rfl⟩)
          | (refine run_bindV (fun a n w w' h => ?_) hr
             refine run_bindV (fun a n w w' h => ?_) h
             split at h
             · simp [unsupported, Sem.run, Sem.run_bind, Result.andThen] at h
             · simp [Sem.run_bind, Result.andThen] at h
               exact ⟨_, h.1.symm⟩))
  case call c =>
    obtain ⟨callee, args, ats⟩ := c
    cases callee with
    | value f => simp at h
    | invoke r m => simp at h
    | builtin b =>
      cases b <;> simp at h
      case len => exact run_builtin (b := .len) (s := fun a t x => Builtin.len_ a t x) rfl (fun _ _ _ _ => rfl) hr
      case max => exact run_builtin (b := .max) (s := fun a t x => Builtin.max_ a t x) rfl (fun _ _ _ _ => rfl) hr
      case min => exact run_builtin (b := .min) (s := fun a t x => Builtin.min_ a t x) rfl (fun _ _ _ _ => rfl) hr
  all_goals exact run_value hr

/-! ## the plan -/
def sinkL (md : Region.Mode) (ops : Array Oper) : List Nat → Nat → Bool
  | [], _ => true
  | h :: H, t => ((H ++ [t]).any fun j => Region.waitsFor md ops j h) && sinkL md ops H t
def chainL (md : Region.Mode) (ops : Array Oper) : Nat → List Nat → Bool
  | _, [] => true
  | t, u :: us => Region.waitsFor md ops u t && chainL md ops u us
def behindB (md : Region.Mode) (ops : Array Oper) (H : List Nat) : List Nat → Bool
  | [] => true
  | t :: ts => sinkL md ops H t && chainL md ops t ts
/-- One behind the other, each the only one that may come. -/
def seqL (md : Region.Mode) (ops : Array Oper) : List Nat → Array Bool → Bool
  | [], listed => (Region.ready md ops listed).isEmpty
  | t :: ts, listed => decide (Region.ready md ops listed = [t]) && seqL md ops ts (listed.setIfInBounds t true)
def headL (md : Region.Mode) (ops : Array Oper) (T : List Nat) : List Nat → Array Bool → Bool
  | [], listed => seqL md ops T listed
  | h :: H, listed => (Region.ready md ops listed).contains h && Region.free md ops listed h && headL md ops T H (listed.setIfInBounds h true)
def plainAt (ops : Array Oper) (i : Nat) : Bool := match ops[i]? with | some o => plainB o | none => false
def planB (md : Region.Mode) (ops : Array Oper) (H T1 T2 : List Nat) : Bool :=
  (Region.noSelect ops && H.all (plainAt ops)) && (((List.range ops.size).all (fun i => H.contains i || (T1.contains i || T2.contains i)) && ((T1 ++ T2).all (fun i => !H.contains i) && T2.all (fun i => !T1.contains i))) &&
    (decide (H.length + (T1 ++ T2).length = ops.size) && (behindB md ops H T2 && headL md ops (T1 ++ T2) H (Array.replicate ops.size false))))
def Closed (md : Region.Mode) (ops : Array Oper) (listed : Array Bool) : Prop :=
  ∀ j oj, ops[j]? = some oj → listed.getD j false = true → ∀ e ∈ oj.after, Region.binds md e = true → listed.getD e.on false = true
theorem Closed.set {listed : Array Bool} {i : Nat} (inv : Closed md ops listed) (hi : i ∈ Region.ready md ops listed) : Closed md ops (listed.setIfInBounds i true) := by
  obtain ⟨_, oi, hoi, hall⟩ := mem_ready.1 hi
  intro j oj hj hl e he hb
  by_cases hij : i = j
  · subst hij
    have : oj = oi := Option.some.inj (hj.symm.trans hoi)
    subst this
    exact getD_set_true (hall e he hb)
  · rw [getD_set_ne false hij] at hl
    exact getD_set_true (inv j oj hj hl e he hb)
/-- What a listed or a ready operation waits for is listed. -/
theorem waits_listed {listed : Array Bool} (inv : Closed md ops listed) {j i : Nat} (hj : listed.getD j false = true ∨ j ∈ Region.ready md ops listed) (hw : Region.waitsFor md ops j i = true) : listed.getD i false = true := by
  obtain ⟨oj, hoj, e, he, hb, hon⟩ := Region.waitsFor_spec hw
  rcases hj with hj | hj
  · rw [← hon]; exact inv j oj hoj hj e he hb
  · obtain ⟨_, o', ho', hall⟩ := mem_ready.1 hj
    have : o' = oj := Option.some.inj (ho'.symm.trans hoj)
    subst this
    rw [← hon]; exact hall e he hb
theorem sink_spec {listed : Array Bool} (inv : Closed md ops listed) {t : Nat} (ht : listed.getD t false = true ∨ t ∈ Region.ready md ops listed) : ∀ (H : List Nat), sinkL md ops H t = true → ∀ h ∈ H, listed.getD h false = true
  | [], _, _, hh => by cases hh
  | h :: H, hs, x, hx => by
    simp only [sinkL, Bool.and_eq_true] at hs
    have ih := sink_spec inv ht H hs.2
    rcases List.mem_cons.1 hx with rfl | hx
    · obtain ⟨j, hj, hw⟩ := List.any_eq_true.1 hs.1
      rcases List.mem_append.1 hj with hj | hj
      · exact waits_listed inv (.inl (ih j hj)) hw
      · have : j = t := by simpa using hj
        subst this
        exact waits_listed inv ht hw
    · exact ih x hx
theorem chain_spec {listed : Array Bool} (inv : Closed md ops listed) : ∀ (ts : List Nat) (t : Nat), chainL md ops t ts = true → ∀ u ∈ ts, (listed.getD u false = true ∨ u ∈ Region.ready md ops listed) → listed.getD t false = true
  | [], _, _, _, hu, _ => by cases hu
  | v :: ts, t, hc, u, hu, hr => by
    simp only [chainL, Bool.and_eq_true] at hc
    rcases List.mem_cons.1 hu with rfl | hu
    · exact waits_listed inv hr hc.1
    · exact waits_listed inv (.inl (chain_spec inv ts v hc.2 u hu hr)) hc.1
theorem behind_spec {listed : Array Bool} (inv : Closed md ops listed) {H T2 : List Nat} (hb : behindB md ops H T2 = true) {t : Nat} (ht : t ∈ T2) (hr : t ∈ Region.ready md ops listed) : ∀ h ∈ H, listed.getD h false = true := by
  cases T2 with
  | nil => cases ht
  | cons u us =>
    simp only [behindB, Bool.and_eq_true] at hb
    rcases List.mem_cons.1 ht with rfl | ht
    · exact sink_spec inv (.inr hr) H hb.1
    · exact sink_spec inv (.inl (chain_spec inv us u hb.2 t ht (.inr hr))) H hb.1

/-- Whatever order is picked: the reading ones stand still in C, the early ones stay in C. -/
def AnyP (P : Program) (md : Region.Mode) (ops : Array Oper) (C : World → Prop) (Q : Exit → Act → World → Prop) (H T1 : List Nat) : Nat → Array Bool → Act → World → Prop
  | 0, listed, a, w => Region.ready md ops listed = [] ∧ Q .normal a w
  | f + 1, listed, a, w => Region.ready md ops listed ≠ [] ∧ ∀ i ∈ Region.ready md ops listed,
      (i ∈ H ∧ ∃ o v, ops[i]? = some o ∧ YieldsS P ops C o v a ∧ AnyP P md ops C Q H T1 f (listed.setIfInBounds i true) (a.put o.dst v) w) ∨
      (i ∉ H ∧ wpOp P ops Q i (fun a' w' => (i ∈ T1 → C w') ∧ AnyP P md ops C Q H T1 f (listed.setIfInBounds i true) a' w') a w)

theorem anyP_any {H T1 T2 : List Nat} (hb : behindB md ops H T2 = true) (hcov : ∀ i, i < ops.size → i ∈ H ∨ i ∈ T1 ∨ i ∈ T2) : ∀ (f : Nat) (listed : Array Bool) (a : Act) (w : World), Closed md ops listed → (C w ∨ ∀ h ∈ H, listed.getD h false = true) →
    AnyP P md ops C Q H T1 f listed a w → wpAny P md ops Q f listed a w
  | 0, _, _, _, _, _, h => h
  | f + 1, listed, a, w, inv, hC, h => by
    refine ⟨fun h0 => absurd h0 h.1, fun i hi => ?_⟩
    rcases h.2 i hi with ⟨hiH, o, v, ho, hy, hK⟩ | ⟨hiH, hop⟩
    · have hCw : C w := by
        rcases hC with q | q
        · exact q
        · have := q i hiH
          rw [getD_both (mem_ready.1 hi).1] at this
          cases this
      exact hy.wpOp ho hCw (anyP_any hb hcov f _ _ _ (inv.set hi) (.inl hCw) hK)
    · refine wpOp_mono (fun a' w' hk => anyP_any hb hcov f _ a' w' (inv.set hi) ?_ hk.2) hop
      obtain ⟨_, oi, hoi, _⟩ := mem_ready.1 hi
      have hlt : i < ops.size := (Array.getElem?_eq_some_iff.1 hoi).1
      rcases hcov i hlt with q | q | q
      · exact absurd q hiH
      · exact .inl (hk.1 q)
      · exact .inr fun x hx => getD_set_true (behind_spec inv hb q hi x hx)
theorem plan_first {H T1 : List Nat} {i : Nat} {oi : Oper} {v : Value} (hi : ops[i]? = some oi) (hsel : ∀ (j : Nat) (o : Oper) cs b, ops[j]? = some o → o.op ≠ .select cs b) (hiH : i ∈ H)
    (hQ : ∀ c d u a w, Q (.panic c) (Act.put a d u) w → Q (.panic c) a w) :
    ∀ (f : Nat) (listed : Array Bool) (a : Act) (w : World),
      (∀ j oj, ops[j]? = some oj → j ≠ i → listed.getD j true = false → (∀ e ∈ oj.after, Region.binds md e = true → e.on ≠ i) → oi.apart ops oj = true) →
      i ∈ Region.ready md ops listed → YieldsS P ops C oi v a →
      AnyP P md ops C Q H T1 f (listed.setIfInBounds i true) (a.put oi.dst v) w → AnyP P md ops C Q H T1 (f + 1) listed a w := by
  intro f
  induction f with
  | zero =>
    intro listed a w _ hr hy K
    refine ⟨fun h => (by rw [h] at hr; cases hr), fun j hj => ?_⟩
    by_cases hji : j = i
    · subst hji; exact .inl ⟨hiH, oi, v, hi, hy, K⟩
    · have := ready_mono hj hji
      rw [K.1] at this
      cases this
  | succ f ih =>
    intro listed a w hfree hr hy K
    have hun := (mem_ready.1 hr).1
    refine ⟨fun h => (by rw [h] at hr; cases hr), fun j hj => ?_⟩
    by_cases hji : j = i
    · subst hji; exact .inl ⟨hiH, oi, v, hi, hy, K⟩
    · obtain ⟨hjun, oj, hoj, hall⟩ := mem_ready.1 hj
      have hnot : ∀ e ∈ oj.after, Region.binds md e = true → e.on ≠ i := fun e he hb heq => by
        have h1 := hall e he hb
        rw [heq, getD_both hun] at h1
        cases h1
      have hap := hfree j oj hoj hji hjun hnot
      have hfree' : ∀ k ok, ops[k]? = some ok → k ≠ i → (listed.setIfInBounds j true).getD k true = false →
          (∀ e ∈ ok.after, Region.binds md e = true → e.on ≠ i) → oi.apart ops ok = true := fun k ok hk hki hun' hno => by
        refine hfree k ok hk hki ?_ hno
        by_cases hjk : j = k
        · subst hjk; exact hjun
        · rw [getD_set_ne true hjk] at hun'; exact hun'
      rcases K.2 j (ready_mono hj hji) with ⟨hjH, o', u, ho', hyj, hK⟩ | ⟨hjH, hop⟩
      · have : o' = oj := Option.some.inj (ho'.symm.trans hoj)
        subst this
        refine .inl ⟨hjH, o', u, ho', hyj.unput hap (fun cs b => hsel j o' cs b hoj), ?_⟩
        refine ih _ _ _ hfree' (ready_mono hr (Ne.symm hji)) (hy.put hap (fun cs b => hsel i oi cs b hi)) ?_
        rw [Array.setIfInBounds_comm _ _ hji, ← Act.put_comm a v u (Oper.apart_spec hap).2.1]
        exact hK
      · have h2 := wpOp_putS hoj hap (fun cs b => hsel i oi cs b hi) (fun cs b => hsel j oj cs b hoj) (fun c a w => hQ c _ _ a w) hy hop
        refine .inr ⟨hjH, wpOp_mono (fun a' w' h3 => ⟨h3.2.1, ih _ _ _ hfree' (ready_mono hr (Ne.symm hji)) h3.1 ?_⟩) h2⟩
        rw [Array.setIfInBounds_comm _ _ hji]
        exact h3.2.2
def opsAt (l : List Oper) (H : List Nat) : List Oper := H.filterMap fun i => l[i]?
/-- What stands behind an early operation: the class, and what follows. -/
def CheckQ (C : World → Prop) (Q : Exit → Act → World → Prop) (K : Act → World → Prop) : Exit → Act → World → Prop
  | .normal, a, w => C w ∧ K a w
  | e, a, w => Q e a w
theorem Oper.wp_q {o : Oper} {a : Act} {w : World} {K : Act → World → Prop} {Q' : Exit → Act → World → Prop} (hp : ∀ c a w, Q' (.panic c) a w → Q (.panic c) a w) (ho : LetsOut Q' → LetsOut Q) (h : o.wp P a w K Q') : o.wp P a w K Q := by
  unfold Oper.wp at *
  generalize (execOp a.eval o).run P w = r at *
  cases r with
  | ok n w' =>
    cases n <;> simp only [Oper.upon] at h ⊢ <;> first
      | exact h
      | exact Calls.mono h (fun e w'' he => by cases e <;> first | exact he | exact hp _ _ _ he | exact ho he)
  | halt x w' => cases x <;> simp only [Oper.upon] at h ⊢ <;> first | exact hp _ _ _ h | exact h
theorem wpOp_check {i : Nat} {o : Oper} {a : Act} {w : World} {K : Act → World → Prop} (hi : ops[i]? = some o) (h : wpList P ops (CheckQ C Q K) [o] a w) : wpOp P ops Q i (fun a' w' => C w' ∧ K a' w') a w := by
  unfold wpOp
  simp only [hi]
  unfold wpList at h
  by_cases hw : Region.wanted o (yielded ops a.tmps) = true
  · rw [if_pos hw] at h ⊢
    rcases h with h | h
    · exact .inl (Oper.wp_mono (fun _ _ q => q) (Oper.wp_q (fun _ _ _ q => q) (fun ⟨x, y, q⟩ => ⟨x, y, q⟩) h))
    · exact .inr ⟨h.1, by obtain ⟨x, y, q⟩ := h.2; exact ⟨x, y, q⟩⟩
  · rw [if_neg hw] at h ⊢
    exact h
def wpT1 (P : Program) (ops : Array Oper) (C : World → Prop) (Q : Exit → Act → World → Prop) : List Oper → (Act → World → Prop) → Act → World → Prop
  | [], K => K
  | o :: r, K => wpList P ops (CheckQ C Q (wpT1 P ops C Q r K)) [o]
end
section
variable {P : Program} {md : Region.Mode} {C : World → Prop} {Q : Exit → Act → World → Prop} {l : List Oper}
theorem opsAt_cons {i : Nat} {H : List Nat} {o : Oper} (h : l[i]? = some o) : opsAt l (i :: H) = o :: opsAt l H := by unfold opsAt; rw [List.filterMap_cons, h]
theorem ready_get {i : Nat} {listed : Array Bool} (h : Region.ready md l.toArray listed = [i]) : ∃ o, l[i]? = some o := by
  have : i ∈ Region.ready md l.toArray listed := by rw [h]; simp
  obtain ⟨_, o, ho, _⟩ := mem_ready.1 this
  exact ⟨o, by simpa using ho⟩
theorem plan_T2 {H T1 : List Nat} : ∀ (T2 : List Nat) (listed : Array Bool) (a : Act) (w : World), (∀ t ∈ T2, t ∉ H ∧ t ∉ T1) → seqL md l.toArray T2 listed = true → wpList P l.toArray Q (opsAt l T2) a w → AnyP P md l.toArray C Q H T1 T2.length listed a w
  | [], _, _, _, _, hs, h => ⟨by simpa [seqL] using hs, h⟩
  | t :: ts, listed, a, w, hd, hs, h => by
    simp only [seqL, Bool.and_eq_true, decide_eq_true_eq] at hs
    obtain ⟨o, ho⟩ := ready_get hs.1
    rw [opsAt_cons ho] at h
    refine ⟨by rw [hs.1]; simp, fun i hi => ?_⟩
    rw [hs.1] at hi
    have : i = t := by simpa using hi
    subst this
    refine .inr ⟨(hd i (by simp)).1, ?_⟩
    have hw : wpOp P l.toArray Q i (wpList P l.toArray Q (opsAt l ts)) a w := by
      unfold wpOp
      simp only [show l.toArray[i]? = some o by simpa using ho]
      exact h
    exact wpOp_mono (fun a' w' h' => ⟨fun q => absurd q (hd i (by simp)).2, plan_T2 ts _ a' w' (fun t ht => hd t (by simp [ht])) hs.2 h'⟩) hw
theorem plan_T1 {H T1 T2 : List Nat} (h2 : ∀ t ∈ T2, t ∉ H ∧ t ∉ T1) : ∀ (T : List Nat) (listed : Array Bool) (a : Act) (w : World), (∀ t ∈ T, t ∉ H) → seqL md l.toArray (T ++ T2) listed = true →
    wpT1 P l.toArray C Q (opsAt l T) (fun a w => wpList P l.toArray Q (opsAt l T2) a w) a w → AnyP P md l.toArray C Q H T1 (T ++ T2).length listed a w
  | [], listed, a, w, _, hs, h => plan_T2 T2 listed a w h2 hs h
  | t :: ts, listed, a, w, hd, hs, h => by
    simp only [List.cons_append, seqL, Bool.and_eq_true, decide_eq_true_eq] at hs
    obtain ⟨o, ho⟩ := ready_get hs.1
    rw [opsAt_cons ho] at h
    refine ⟨by rw [hs.1]; simp, fun i hi => ?_⟩
    rw [hs.1] at hi
    have : i = t := by simpa using hi
    subst this
    refine .inr ⟨hd i (by simp), ?_⟩
    have hw := wpOp_check (i := i) (by simpa using ho) h
    exact wpOp_mono (fun a' w' h' => ⟨fun _ => h'.1, plan_T1 h2 ts _ a' w' (fun t ht => hd t (by simp [ht])) hs.2 h'.2⟩) hw
theorem plan_H {H T1 T : List Nat} {L : Act → Prop} {w : World} (hsel : Region.noSelect l.toArray = true) (hQ : ∀ c d u a w, Q (.panic c) (Act.put a d u) w → Q (.panic c) a w) (hCw : C w)
    (hL : ∀ listed a, seqL md l.toArray T listed = true → L a → AnyP P md l.toArray C Q H T1 T.length listed a w) :
    ∀ (H' : List Nat) (listed : Array Bool) (a : Act), (∀ h ∈ H', h ∈ H ∧ plainAt l.toArray h = true) → headL md l.toArray T H' listed = true → wpQuiet P l.toArray C L (opsAt l H') a →
      AnyP P md l.toArray C Q H T1 (H'.length + T.length) listed a w
  | [], listed, a, _, hs, h => by rw [List.length_nil, Nat.zero_add]; exact hL listed a hs h
  | i :: is, listed, a, hd, hs, h => by
    simp only [headL, Bool.and_eq_true] at hs
    obtain ⟨⟨hr, hf⟩, hs'⟩ := hs
    have hr' : i ∈ Region.ready md l.toArray listed := by simpa using hr
    obtain ⟨_, o, ho, _⟩ := mem_ready.1 hr'
    have ho' : l[i]? = some o := by simpa using ho
    rw [opsAt_cons ho'] at h
    have hst : qOp P l.toArray C i (wpQuiet P l.toArray C L (opsAt l is)) a := by unfold qOp; simp only [ho]; exact h
    obtain ⟨v, hy, hK⟩ := yieldsIn_of_qOp ho hst
    have hpl : plainB o = true := by
      have := (hd i (by simp)).2
      unfold plainAt at this
      rw [ho] at this
      exact this
    have hyS : YieldsS P l.toArray C o v a := by
      rcases hy with ⟨q1, q2⟩ | q
      · refine .inl ⟨q1, fun W hW => ?_⟩
        have q3 := q2 W hW
        unfold Oper.quietAt at q3
        generalize hrr : (execOp a.eval o).run P W = r at q3 ⊢
        cases r with
        | ok n W' =>
          obtain ⟨u, rfl⟩ := plain_value hpl hrr
          simp only [Oper.quietUpon] at q3
          obtain ⟨e1, e2⟩ := q3
          rw [e1, e2]
        | halt x W' => simp only [Oper.quietUpon] at q3
      · exact .inr q
    rw [List.length_cons, show is.length + 1 + T.length = (is.length + T.length) + 1 by omega]
    exact plan_first ho (Region.noSelect_spec hsel) (hd i (by simp)).1 hQ _ listed a w (Region.free_spec ho hf) hr' hyS
      (plan_H hsel hQ hCw hL is _ _ (fun h hh => hd h (by simp [hh])) hs' hK)
/-- The region by a plan. -/
theorem wp_region_plan {id : Nat} {a : Act} {w : World} (H T1 T2 : List Nat) (hm : P.follows .mixedOrders = true) (hB : planB .any l.toArray H T1 T2 = true) (hQ : ∀ c d u a w, Q (.panic c) (Act.put a d u) w → Q (.panic c) a w) (hC : C w.drew)
    (h : wpQuiet P l.toArray C (fun a' => wpT1 P l.toArray C Q (opsAt l T1) (fun a w => wpList P l.toArray Q (opsAt l T2) a w) a' w.drew) (opsAt l H) a) : (Code.region id l.toArray true).wp P Q a w := by
  simp only [planB, Bool.and_eq_true, decide_eq_true_eq, List.all_eq_true, Bool.or_eq_true, List.contains_iff_mem, Bool.not_eq_true'] at hB
  obtain ⟨⟨hsel, hpl⟩, ⟨hcov, hd1, hd2⟩, hlen, hbe, hhd⟩ := hB
  refine wp_region_any hm ?_
  have inv0 : Closed .any l.toArray (Array.replicate l.toArray.size false) := fun j oj _ hl => by rw [getD_replicate_false] at hl; cases hl
  have hd1' : ∀ t ∈ T1 ++ T2, t ∉ H := fun t ht q => by
    have := hd1 t ht
    rw [List.contains_eq_mem, decide_eq_true q] at this
    cases this
  have hd2' : ∀ t ∈ T2, t ∉ T1 := fun t ht q => by
    have := hd2 t ht
    rw [List.contains_eq_mem, decide_eq_true q] at this
    cases this
  have h2 : ∀ t ∈ T2, t ∉ H ∧ t ∉ T1 := fun t ht => ⟨hd1' t (by simp [ht]), hd2' t ht⟩
  have := plan_H (md := .any) (H := H) (T1 := T1) (T := T1 ++ T2) hsel hQ hC (fun listed a hs hl => plan_T1 h2 T1 listed a w.drew (fun t ht => hd1' t (by simp [ht])) hs hl) H _ a (fun h hh => ⟨hh, hpl h hh⟩) hhd h
  rw [hlen] at this
  exact anyP_any hbe (fun i hi => hcov i (List.mem_range.2 hi)) _ _ _ _ inv0 (.inl hC) this
/-- A world in which of what was there at w only the blocks in S may have turned. -/
structure Within (S : List Nat) (w : World) where
  W : World
  h : Only S w W
instance (S : List Nat) (w : World) : Nonempty (Within S w) := ⟨⟨w, Only.refl S w⟩⟩
theorem wp_region_in {id : Nat} {a : Act} {w : World} (S H T1 T2 : List Nat) (hm : P.follows .mixedOrders = true) (hB : planB .any l.toArray H T1 T2 = true) (hQ : ∀ c d u a w, Q (.panic c) (Act.put a d u) w → Q (.panic c) a w)
    (h : wpQuiet P l.toArray (fun W => ∃ p : Within S w, W = p.W) (fun a' => wpT1 P l.toArray (fun W => ∃ p : Within S w, W = p.W) Q (opsAt l T1) (fun a w => wpList P l.toArray Q (opsAt l T2) a w) a' w.drew) (opsAt l H) a) : (Code.region id l.toArray true).wp P Q a w :=
  wp_region_plan H T1 T2 hm hB hQ ⟨⟨_, (Only.refl S w).drew⟩, rfl⟩ h
theorem Within.cell {S : List Nat} {w : World} {x : Addr} {v : Value} (hc : w.cell? x = some v) (hn : x.block ∉ S) (p : Within S w) : p.W.cell? x = some v := (p.h.cell (block_lt_of_cell hc) hn).trans hc
theorem check_of {S : List Nat} {w w' : World} {K : Act → World → Prop} {a : Act} (hO : Only S w w') (h : K a w') : CheckQ (fun W => ∃ p : Within S w, W = p.W) Q K .normal a w' := ⟨⟨⟨w', hO⟩, rfl⟩, h⟩
end
end Go.Proofs.YteinoiicnmemhaaGreatDoor
/- A region that draws its order, by a plan of five parts: reads, early ones, reads again, early ones, the rest. No program is named. -/
set_option linter.unusedVariables false
set_option linter.unusedSimpArgs false
namespace Go.Proofs.YteinoiicnmemhaaGreatDoor
open Go Go.RowKit Go.Sort
section
variable {P : Program} {md : Region.Mode} {C : World → Prop} {Q : Exit → Act → World → Prop} {l : List Oper}
def seqTo (md : Region.Mode) (ops : Array Oper) (S : Array Bool → Bool) : List Nat → Array Bool → Bool
  | [], listed => S listed
  | t :: ts, listed => decide (Region.ready md ops listed = [t]) && seqTo md ops S ts (listed.setIfInBounds t true)
def headTo (md : Region.Mode) (ops : Array Oper) (S : Array Bool → Bool) : List Nat → Array Bool → Bool
  | [], listed => S listed
  | h :: H, listed => (Region.ready md ops listed).contains h && Region.free md ops listed h && headTo md ops S H (listed.setIfInBounds h true)
theorem plan_A {H T1 : List Nat} {n : Nat} {S : Array Bool → Bool} {L : Act → World → Prop} (hL : ∀ listed a w, S listed = true → L a w → AnyP P md l.toArray C Q H T1 n listed a w) :
    ∀ (T : List Nat) (listed : Array Bool) (a : Act) (w : World), (∀ t ∈ T, t ∉ H) → seqTo md l.toArray S T listed = true → wpT1 P l.toArray C Q (opsAt l T) L a w → AnyP P md l.toArray C Q H T1 (T.length + n) listed a w
  | [], listed, a, w, _, hs, h => by rw [List.length_nil, Nat.zero_add]; exact hL listed a w hs h
  | t :: ts, listed, a, w, hd, hs, h => by
    simp only [seqTo, Bool.and_eq_true, decide_eq_true_eq] at hs
    obtain ⟨o, ho⟩ := ready_get hs.1
    rw [opsAt_cons ho] at h
    rw [List.length_cons, show ts.length + 1 + n = (ts.length + n) + 1 by omega]
    refine ⟨by rw [hs.1]; simp, fun i hi => ?_⟩
    rw [hs.1] at hi
    have : i = t := by simpa using hi
    subst this
    refine .inr ⟨hd i (by simp), ?_⟩
    have hw := wpOp_check (i := i) (by simpa using ho) h
    exact wpOp_mono (fun a' w' h' => ⟨fun _ => h'.1, plan_A hL ts _ a' w' (fun t ht => hd t (by simp [ht])) hs.2 h'.2⟩) hw
theorem plan_Hn {H T1 : List Nat} {n : Nat} {S : Array Bool → Bool} {L : Act → Prop} {w : World} (hsel : Region.noSelect l.toArray = true) (hQ : ∀ c d u a w, Q (.panic c) (Act.put a d u) w → Q (.panic c) a w)
    (hL : ∀ listed a, S listed = true → L a → AnyP P md l.toArray C Q H T1 n listed a w) :
    ∀ (H' : List Nat) (listed : Array Bool) (a : Act), (∀ h ∈ H', h ∈ H ∧ plainAt l.toArray h = true) → headTo md l.toArray S H' listed = true → wpQuiet P l.toArray C L (opsAt l H') a →
      AnyP P md l.toArray C Q H T1 (H'.length + n) listed a w
  | [], listed, a, _, hs, h => by rw [List.length_nil, Nat.zero_add]; exact hL listed a hs h
  | i :: is, listed, a, hd, hs, h => by
    simp only [headTo, Bool.and_eq_true] at hs
    obtain ⟨⟨hr, hf⟩, hs'⟩ := hs
    have hr' : i ∈ Region.ready md l.toArray listed := by simpa using hr
    obtain ⟨_, o, ho, _⟩ := mem_ready.1 hr'
    have ho' : l[i]? = some o := by simpa using ho
    rw [opsAt_cons ho'] at h
    have hst : qOp P l.toArray C i (wpQuiet P l.toArray C L (opsAt l is)) a := by unfold qOp; simp only [ho]; exact h
    obtain ⟨v, hy, hK⟩ := yieldsIn_of_qOp ho hst
    have hpl : plainB o = true := by
      have := (hd i (by simp)).2
      unfold plainAt at this
      rw [ho] at this
      exact this
    have hyS : YieldsS P l.toArray C o v a := by
      rcases hy with ⟨q1, q2⟩ | q
      · refine .inl ⟨q1, fun W hW => ?_⟩
        have q3 := q2 W hW
        unfold Oper.quietAt at q3
        generalize hrr : (execOp a.eval o).run P W = r at q3 ⊢
        cases r with
        | ok n W' =>
          obtain ⟨u, rfl⟩ := plain_value hpl hrr
          simp only [Oper.quietUpon] at q3
          obtain ⟨e1, e2⟩ := q3
          rw [e1, e2]
        | halt x W' => simp only [Oper.quietUpon] at q3
      · exact .inr q
    rw [List.length_cons, show is.length + 1 + n = (is.length + n) + 1 by omega]
    exact plan_first ho (Region.noSelect_spec hsel) (hd i (by simp)).1 hQ _ listed a w (Region.free_spec ho hf) hr' hyS
      (plan_Hn hsel hQ hL is _ _ (fun h hh => hd h (by simp [hh])) hs' hK)
theorem anyP_anyZ {ops : Array Oper} {H T1 T2 Z : List Nat} (hb : behindB md ops Z T2 = true) (hz : ∀ h ∈ H, h ∈ Z) (hcov : ∀ i, i < ops.size → i ∈ H ∨ i ∈ T1 ∨ i ∈ T2) : ∀ (f : Nat) (listed : Array Bool) (a : Act) (w : World), Closed md ops listed → (C w ∨ ∀ h ∈ H, listed.getD h false = true) →
    AnyP P md ops C Q H T1 f listed a w → wpAny P md ops Q f listed a w
  | 0, _, _, _, _, _, h => h
  | f + 1, listed, a, w, inv, hC, h => by
    refine ⟨fun h0 => absurd h0 h.1, fun i hi => ?_⟩
    rcases h.2 i hi with ⟨hiH, o, v, ho, hy, hK⟩ | ⟨hiH, hop⟩
    · have hCw : C w := by
        rcases hC with q | q
        · exact q
        · have := q i hiH
          rw [getD_both (mem_ready.1 hi).1] at this
          cases this
      exact hy.wpOp ho hCw (anyP_anyZ hb hz hcov f _ _ _ (inv.set hi) (.inl hCw) hK)
    · refine wpOp_mono (fun a' w' hk => anyP_anyZ hb hz hcov f _ a' w' (inv.set hi) ?_ hk.2) hop
      obtain ⟨_, oi, hoi, _⟩ := mem_ready.1 hi
      have hlt : i < ops.size := (Array.getElem?_eq_some_iff.1 hoi).1
      rcases hcov i hlt with q | q | q
      · exact absurd q hiH
      · exact .inl (hk.1 q)
      · exact .inr fun x hx => getD_set_true (behind_spec inv hb q hi x (hz x hx))
def planB2 (md : Region.Mode) (ops : Array Oper) (H A G B T2 : List Nat) : Bool :=
  (Region.noSelect ops && (H ++ G).all (plainAt ops)) && (((List.range ops.size).all (fun i => (H ++ G).contains i || ((A ++ B).contains i || T2.contains i)) && ((A ++ (B ++ T2)).all (fun i => !(H ++ G).contains i) && T2.all (fun i => !(A ++ B).contains i))) &&
    (decide (H.length + (A.length + (G.length + (B.length + T2.length))) = ops.size) && (behindB md ops (H ++ (A ++ (G ++ B))) T2 && headTo md ops (seqTo md ops (headTo md ops (seqTo md ops (seqL md ops T2) B) G) A) H (Array.replicate ops.size false))))
/-- The region by a plan of five parts. -/
theorem wp_region_plan2 {id : Nat} {a : Act} {w : World} (H A G B T2 : List Nat) (hm : P.follows .mixedOrders = true) (hB : planB2 .any l.toArray H A G B T2 = true) (hQ : ∀ c d u a w, Q (.panic c) (Act.put a d u) w → Q (.panic c) a w) (hC : C w.drew)
    (h : wpQuiet P l.toArray C (fun a' => wpT1 P l.toArray C Q (opsAt l A) (fun a w => wpQuiet P l.toArray C (fun a' => wpT1 P l.toArray C Q (opsAt l B) (fun a w => wpList P l.toArray Q (opsAt l T2) a w) a' w) (opsAt l G) a) a' w.drew) (opsAt l H) a) : (Code.region id l.toArray true).wp P Q a w := by
  simp only [planB2, Bool.and_eq_true, decide_eq_true_eq, List.all_eq_true, Bool.or_eq_true, List.contains_iff_mem, Bool.not_eq_true'] at hB
  obtain ⟨⟨hsel, hpl⟩, ⟨hcov, hd1, hd2⟩, hlen, hbe, hhd⟩ := hB
  refine wp_region_any hm ?_
  have inv0 : Closed .any l.toArray (Array.replicate l.toArray.size false) := fun j oj _ hl => by rw [getD_replicate_false] at hl; cases hl
  have hd1' : ∀ t ∈ A ++ (B ++ T2), t ∉ H ++ G := fun t ht q => by
    have := hd1 t ht
    rw [List.contains_eq_mem, decide_eq_true q] at this
    cases this
  have hd2' : ∀ t ∈ T2, t ∉ A ++ B := fun t ht q => by
    have := hd2 t ht
    rw [List.contains_eq_mem, decide_eq_true q] at this
    cases this
  have h2 : ∀ t ∈ T2, t ∉ H ++ G ∧ t ∉ A ++ B := fun t ht => ⟨hd1' t (by simp [ht]), hd2' t ht⟩
  have := plan_Hn (C := C) (md := .any) (H := H ++ G) (T1 := A ++ B) (S := seqTo .any l.toArray (headTo .any l.toArray (seqTo .any l.toArray (seqL .any l.toArray T2) B) G) A) hsel hQ
    (fun listed a hs hl => plan_A (S := headTo .any l.toArray (seqTo .any l.toArray (seqL .any l.toArray T2) B) G)
      (fun listed a w hs hl => plan_Hn (S := seqTo .any l.toArray (seqL .any l.toArray T2) B) hsel hQ
        (fun listed a hs hl => plan_A (S := seqL .any l.toArray T2) (fun listed a w hs hl => plan_T2 T2 listed a w h2 hs hl) B listed a w (fun t ht => hd1' t (by simp [ht])) hs hl)
        G listed a (fun h hh => ⟨by simp [hh], hpl h (by simp [hh])⟩) hs hl)
      A listed a w.drew (fun t ht => hd1' t (by simp [ht])) hs hl) H _ a (fun h hh => ⟨by simp [hh], hpl h (by simp [hh])⟩) hhd h
  rw [hlen] at this
  exact anyP_anyZ hbe (fun x hx => by simp at hx ⊢; rcases hx with q | q <;> simp [q]) (fun i hi => by
    rcases hcov i (List.mem_range.2 hi) with q | q | q
    · exact .inl q
    · exact .inr (.inl q)
    · exact .inr (.inr q)) _ _ _ _ inv0 (.inl hC) this
/-- Behind the last early operation, where nothing is left. -/
theorem check_last {S : List Nat} {w w' : World} {K : Act → World → Prop} {a : Act} (hO : Only S w w') (hK : ∀ a w, Q .normal a w → K a w) (h : Q .normal a w') : CheckQ (fun W => ∃ p : Within S w, W = p.W) Q K .normal a w' := ⟨⟨⟨w', hO⟩, rfl⟩, hK _ _ h⟩
theorem wp_region_in2 {id : Nat} {a : Act} {w : World} (S H A G B T2 : List Nat) (hm : P.follows .mixedOrders = true) (hB : planB2 .any l.toArray H A G B T2 = true) (hQ : ∀ c d u a w, Q (.panic c) (Act.put a d u) w → Q (.panic c) a w)
    (h : wpQuiet P l.toArray (fun W => ∃ p : Within S w, W = p.W) (fun a' => wpT1 P l.toArray (fun W => ∃ p : Within S w, W = p.W) Q (opsAt l A) (fun a W => wpQuiet P l.toArray (fun W => ∃ p : Within S w, W = p.W) (fun a' => wpT1 P l.toArray (fun W => ∃ p : Within S w, W = p.W) Q (opsAt l B) (fun a w => wpList P l.toArray Q (opsAt l T2) a w) a' W) (opsAt l G) a) a' w.drew) (opsAt l H) a) : (Code.region id l.toArray true).wp P Q a w :=
  wp_region_plan2 H A G B T2 hm hB hQ ⟨⟨_, (Only.refl S w).drew⟩, rfl⟩ h
end
end Go.Proofs.YteinoiicnmemhaaGreatDoor
/- Laws of operations: a large struct read under a guard, and in a region that draws its order. -/
set_option linter.unusedVariables false
namespace Go.Proofs.YteinoiicnmemhaaGreatDoor
open Go Go.RowKit
section
variable {P : Program} {ops : Array Oper} {rest : List Oper} {o : Oper} {a : Act} {Q : Exit → Act → World → Prop}
theorem wpList_load_row2w (hw : Region.wanted o (yielded ops a.tmps) = true) (ty : TypeId) (x : Operand) (ho : o.op = .load ty x) {w : World} (b f : Nat) (hx : a.eval x = .pointer (some ⟨b, f, none⟩)) (n : Nat) (cs : List Value) (hn : cs.length = n) {d : TypeDesc} (hc : ∀ i, i < n → w.cell? ⟨b, f + i, none⟩ = cs[i]?)
    (hu : P.underlying ty = some d) (hd : d.isRow = true) (hi : (P.info? ty).map (·.size) = some n) (h : wpList P ops Q rest (a.put o.dst (.agg cs.toArray)) w) : wpList P ops Q (o :: rest) a w := by
  refine BigFrame.wpList_want hw fun _ hK => wp_load_mid ty x ho b f hx cs d (fun j v hv => ?_) hu hd (by rw [hi, hn]) (hK _ _ h)
  have hj : j < cs.length := (List.getElem?_eq_some_iff.1 hv).1
  rw [hc j (by omega)]
  exact hv
theorem quiet_load_row {C : World → Prop} (ty : TypeId) (x : Operand) (ho : o.op = .load ty x) (b f : Nat) (hx : a.eval x = .pointer (some ⟨b, f, none⟩)) (n : Nat) (cs : List Value) (hn : cs.length = n) {d : TypeDesc} (hc : ∀ W, C W → ∀ i, i < n → W.cell? ⟨b, f + i, none⟩ = cs[i]?)
    (hu : P.underlying ty = some d) (hd : d.isRow = true) (hi : (P.info? ty).map (·.size) = some n) {K : Act → Prop} (h : K (a.put o.dst (.agg cs.toArray))) : o.quiet P a C K := by
  refine ⟨.agg cs.toArray, fun W hW => ?_, h⟩
  have hr : W.rangeAt b f cs := fun j v hv => by
    have hj : j < cs.length := (List.getElem?_eq_some_iff.1 hv).1
    rw [hc W hW j (by omega)]
    exact hv
  unfold Oper.quietAt execOp
  simp only [ho, hx, run_loadAt_mid W b f ty cs d hr hu hd (by rw [hi, hn]), Sem.run_bind, Sem.run_pure, Result.andThen_ok]
  exact ⟨rfl, rfl⟩
end
end Go.Proofs.YteinoiicnmemhaaGreatDoor
/- Regions that draw their order: plans of many parts, and invariants over all orders; what a call keeps. No program is named. -/
set_option linter.unusedVariables false
set_option linter.unusedSimpArgs false
namespace Go.Proofs.YteinoiicnmemhaaGreatDoor
open Go Go.RowKit Go.Sort
/-! ## what a call keeps: the blocks below a, and those of R -/
structure Keeps (a : World) (R : List Nat) (w w' : World) : Prop where
  ex : ∃ S, Only S w w' ∧ ∀ g ∈ S, a.heap.size ≤ g ∧ g ∉ R
section
variable {a w w' w'' : World} {R R' : List Nat}
theorem Keeps.of0 (h : Only [] w w') : Keeps a R w w' := ⟨[], h, by simp⟩
theorem Keeps.refl (a : World) (R : List Nat) (w : World) : Keeps a R w w := .of0 (Only.refl _ _)
theorem Keeps.trans (h : Keeps a R w w') (k : Keeps a R w' w'') : Keeps a R w w'' := by
  obtain ⟨S, h1, h2⟩ := h
  obtain ⟨T, k1, k2⟩ := k
  refine ⟨S ++ T, (h1.mono (fun g hg => List.mem_append_left _ hg)).trans (k1.mono (fun g hg => List.mem_append_right _ hg)), fun g hg => ?_⟩
  rcases List.mem_append.1 hg with q | q
  · exact h2 g q
  · exact k2 g q
theorem Keeps.then0 (h : Keeps a R w w') (k : Only [] w' w'') : Keeps a R w w'' := h.trans (.of0 k)
theorem Keeps.alloc (h : Keeps a R w w') (o : Obj) : Keeps a R w (w'.alloc o) := h.then0 ((Only.refl _ _).alloc o)
theorem Keeps.drew (h : Keeps a R w w') : Keeps a R w w'.drew := h.then0 (Only.refl _ _).drew
theorem Keeps.setCell (h : Keeps a R w w') {p : Addr} (hp : a.heap.size ≤ p.block ∧ p.block ∉ R) (u : Value) : Keeps a R w (w'.setCell p u) :=
  h.trans ⟨[p.block], (Only.refl _ _).setCell (.inl (by simp)) u, by simpa using hp⟩
theorem Keeps.less (h : Keeps a R w w') (hr : ∀ g ∈ R', g ∈ R) : Keeps a R' w w' := by
  obtain ⟨S, h1, h2⟩ := h
  exact ⟨S, h1, fun g hg => ⟨(h2 g hg).1, fun q => (h2 g hg).2 (hr g q)⟩⟩
theorem Keeps.size (h : Keeps a R w w') : w.heap.size ≤ w'.heap.size := by
  obtain ⟨S, h1, _⟩ := h
  exact h1.size
theorem Keeps.block (h : Keeps a R w w') {g : Nat} (hl : g < w.heap.size) (hg : g < a.heap.size ∨ g ∈ R) : w'.heap[g]? = w.heap[g]? := by
  obtain ⟨S, h1, h2⟩ := h
  refine h1.block g hl fun q => ?_
  have := h2 g q
  rcases hg with hg | hg
  · omega
  · exact this.2 hg
theorem Keeps.blk (h : Keeps a R w w') {g : Nat} {t : TypeId} {cs : Array Value} (hb : Blk w g t cs) (hg : g < a.heap.size ∨ g ∈ R) : Blk w' g t cs := hb.of_eq (h.block hb.lt hg)
theorem Keeps.cell (h : Keeps a R w w') {p : Addr} (hl : p.block < w.heap.size) (hg : p.block < a.heap.size ∨ p.block ∈ R) : w'.cell? p = w.cell? p := World.cell?_of_block (h.block hl hg)
theorem Keeps.slc (h : Keeps a R w w') {size n : Nat} {v : Value} {cs : List Value} (hs : Slc w size v n cs) (hg : ∀ g, v.ownBlock = some g → g < a.heap.size ∨ g ∈ R) : Slc w' size v n cs :=
  hs.keep h.size fun g h1 h2 => h.block h2 (hg g h1)
theorem Keeps.own (h : Keeps a R w w') {base size n : Nat} {e : TypeId} {v : Value} {xs : List Value} (hs : w.ownsRow base e size v n xs) (hg : ∀ g, v.ownBlock = some g → g < a.heap.size ∨ g ∈ R) : w'.ownsRow base e size v n xs := by
  obtain ⟨h1, h2⟩ := hs
  rcases h2 with ⟨rfl, rfl⟩ | ⟨g, cap, cur, rfl, hb, hg', q⟩
  · exact ⟨h1, .inl ⟨rfl, rfl⟩⟩
  · exact ⟨h1, .inr ⟨g, cap, cur, rfl, hb, (h.block (lt_of_block hg') (hg g rfl)).trans hg', q⟩⟩
theorem Keeps.only (h : Keeps a R w w') (ha : Only [] a w) : Only [] a w' := by
  obtain ⟨S, h1, h2⟩ := h
  exact ha.step h1 (fun g hg => .inr (h2 g hg).1)
/-- A world that a call may leave. -/
structure Kept (a : World) (R : List Nat) (w : World) where
  W : World
  h : Keeps a R w W
instance (a : World) (R : List Nat) (w : World) : Nonempty (Kept a R w) := ⟨⟨w, Keeps.refl a R w⟩⟩
theorem Kept.cell {x : Addr} {v : Value} (hc : w.cell? x = some v) (hn : x.block < a.heap.size ∨ x.block ∈ R) (p : Kept a R w) : p.W.cell? x = some v := (p.h.cell (block_lt_of_cell hc) hn).trans hc
end
/-! ## plans of many parts -/
section
variable {P : Program} {md : Region.Mode} {C : World → Prop} {Q : Exit → Act → World → Prop} {l : List Oper}
def stagesTo (md : Region.Mode) (ops : Array Oper) (S : Array Bool → Bool) : List (List Nat × List Nat) → Array Bool → Bool
  | [], listed => S listed
  | (H, A) :: r, listed => headTo md ops (seqTo md ops (stagesTo md ops S r) A) H listed
def wpStages (P : Program) (l : List Oper) (C : World → Prop) (Q : Exit → Act → World → Prop) (K : Act → World → Prop) : List (List Nat × List Nat) → Act → World → Prop
  | [] => K
  | (H, A) :: r => fun a w => wpQuiet P l.toArray C (fun a' => wpT1 P l.toArray C Q (opsAt l A) (wpStages P l C Q K r) a' w) (opsAt l H) a
def stLen : List (List Nat × List Nat) → Nat → Nat
  | [], n => n
  | (H, A) :: r, n => H.length + (A.length + stLen r n)
theorem plan_stages {H T1 : List Nat} {n : Nat} {S : Array Bool → Bool} {K : Act → World → Prop} (hsel : Region.noSelect l.toArray = true) (hQ : ∀ c d u a w, Q (.panic c) (Act.put a d u) w → Q (.panic c) a w)
    (hK : ∀ listed a w, S listed = true → K a w → AnyP P md l.toArray C Q H T1 n listed a w) :
    ∀ (st : List (List Nat × List Nat)) (listed : Array Bool) (a : Act) (w : World), (∀ p ∈ st, (∀ h ∈ p.1, h ∈ H ∧ plainAt l.toArray h = true) ∧ ∀ t ∈ p.2, t ∉ H) → stagesTo md l.toArray S st listed = true → wpStages P l C Q K st a w →
      AnyP P md l.toArray C Q H T1 (stLen st n) listed a w
  | [], listed, a, w, _, hs, h => hK listed a w hs h
  | (H1, A) :: r, listed, a, w, hd, hs, h =>
    plan_Hn (S := seqTo md l.toArray (stagesTo md l.toArray S r) A) hsel hQ
      (fun listed a hs h => plan_A (S := stagesTo md l.toArray S r) (fun listed a w hs h => plan_stages hsel hQ hK r listed a w (fun p hp => hd p (by simp [hp])) hs h) A listed a w (hd (H1, A) (by simp)).2 hs h)
      H1 listed a (hd (H1, A) (by simp)).1 hs h
def stOrder : List (List Nat × List Nat) → List Nat
  | [] => []
  | (H, A) :: r => H ++ (A ++ stOrder r)
def planS (md : Region.Mode) (ops : Array Oper) (st : List (List Nat × List Nat)) (T2 : List Nat) : Bool :=
  (Region.noSelect ops && ((st.flatMap (·.1)).all (plainAt ops) && (st.flatMap (·.2)).all (fun i => !(st.flatMap (·.1)).contains i))) &&
    (((List.range ops.size).all (fun i => (st.flatMap (·.1)).contains i || ((st.flatMap (·.2)).contains i || T2.contains i)) && T2.all (fun i => !(st.flatMap (·.1)).contains i && !(st.flatMap (·.2)).contains i)) &&
      ((st.flatMap (·.1)).all (fun i => (stOrder st).contains i) && (decide (stLen st T2.length = ops.size) && (behindB md ops (stOrder st) T2 && stagesTo md ops (seqL md ops T2) st (Array.replicate ops.size false)))))
theorem wp_region_stages {id : Nat} {a : Act} {w : World} (st : List (List Nat × List Nat)) (T2 : List Nat) (hm : P.follows .mixedOrders = true) (hB : planS .any l.toArray st T2 = true) (hQ : ∀ c d u a w, Q (.panic c) (Act.put a d u) w → Q (.panic c) a w) (hC : C w.drew)
    (h : wpStages P l C Q (fun a w => wpList P l.toArray Q (opsAt l T2) a w) st a w.drew) : (Code.region id l.toArray true).wp P Q a w := by
  simp only [planS, Bool.and_eq_true, decide_eq_true_eq, List.all_eq_true, Bool.or_eq_true, List.contains_iff_mem, Bool.not_eq_true'] at hB
  obtain ⟨⟨hsel, hpl, hd1⟩, ⟨hcov, hd2⟩, hz, hlen, hbe, hst⟩ := hB
  refine wp_region_any hm ?_
  have inv0 : Closed .any l.toArray (Array.replicate l.toArray.size false) := fun j oj _ hl => by rw [getD_replicate_false] at hl; cases hl
  have no : ∀ {L : List Nat} {t : Nat}, L.contains t = false → t ∉ L := fun {L t} h q => by rw [List.contains_eq_mem, decide_eq_true q] at h; cases h
  have := plan_stages (C := C) (md := .any) (H := st.flatMap (·.1)) (T1 := st.flatMap (·.2)) (S := seqL .any l.toArray T2) hsel hQ
    (fun listed a w hs h => plan_T2 T2 listed a w (fun t ht => ⟨no (hd2 t ht).1, no (hd2 t ht).2⟩) hs h) st _ a w.drew
    (fun p hp => ⟨fun x hx => ⟨List.mem_flatMap.2 ⟨p, hp, hx⟩, hpl x (List.mem_flatMap.2 ⟨p, hp, hx⟩)⟩, fun t ht => no (hd1 t (List.mem_flatMap.2 ⟨p, hp, ht⟩))⟩) hst h
  rw [hlen] at this
  exact anyP_anyZ hbe (fun x hx => hz x hx) (fun i hi => by
    rcases hcov i (List.mem_range.2 hi) with q | q | q
    · exact .inl q
    · exact .inr (.inl q)
    · exact .inr (.inr q)) _ _ _ _ inv0 (.inl hC) this
/-! ## an invariant over all orders -/
/-- Behind an early operation: the class Kept. -/
theorem check_kept {a0 : World} {R : List Nat} {w w' : World} {K : Act → World → Prop} {a : Act} (hO : Keeps a0 R w w') (h : K a w') : CheckQ (fun W => ∃ p : Kept a0 R w, W = p.W) Q K .normal a w' := ⟨⟨⟨w', hO⟩, rfl⟩, h⟩
end
end Go.Proofs.YteinoiicnmemhaaGreatDoor
/- A region that draws its order, by a plan with a fork: reads; two early ones, in either order; further early ones; the rest. No program is named. -/
set_option linter.unusedVariables false
set_option linter.unusedSimpArgs false
namespace Go.Proofs.YteinoiicnmemhaaGreatDoor
open Go Go.RowKit Go.Sort
section
variable {P : Program} {md : Region.Mode} {C : World → Prop} {Q : Exit → Act → World → Prop} {l : List Oper}
def forkTo (md : Region.Mode) (ops : Array Oper) (S : Array Bool → Bool) (x y : Nat) (listed : Array Bool) : Bool :=
  (decide (Region.ready md ops listed = [x, y]) || decide (Region.ready md ops listed = [y, x])) && (seqTo md ops S [y] (listed.setIfInBounds x true) && seqTo md ops S [x] (listed.setIfInBounds y true))
theorem plan_fork {H T1 : List Nat} {n : Nat} {S : Array Bool → Bool} {L : Act → World → Prop} (hL : ∀ listed a w, S listed = true → L a w → AnyP P md l.toArray C Q H T1 n listed a w)
    (x y : Nat) (listed : Array Bool) (a : Act) (w : World) (hx : x ∉ H) (hy : y ∉ H) (hs : forkTo md l.toArray S x y listed = true) (h1 : wpT1 P l.toArray C Q (opsAt l [x, y]) L a w) (h2 : wpT1 P l.toArray C Q (opsAt l [y, x]) L a w) :
    AnyP P md l.toArray C Q H T1 (n + 1 + 1) listed a w := by
  simp only [forkTo, Bool.and_eq_true, Bool.or_eq_true, decide_eq_true_eq] at hs
  obtain ⟨hr, s1, s2⟩ := hs
  have hmem : ∀ i, i ∈ Region.ready md l.toArray listed ↔ i = x ∨ i = y := fun i => by
    rcases hr with q | q
    · rw [q]; simp
    · rw [q]; simp [or_comm]
  have step : ∀ u v, u ∉ H → v ∉ H → u ∈ Region.ready md l.toArray listed → seqTo md l.toArray S [v] (listed.setIfInBounds u true) = true → wpT1 P l.toArray C Q (opsAt l [u, v]) L a w →
      (u ∈ H ∧ ∃ o v', l.toArray[u]? = some o ∧ YieldsS P l.toArray C o v' a ∧ AnyP P md l.toArray C Q H T1 (n + 1) (listed.setIfInBounds u true) (a.put o.dst v') w) ∨
      (u ∉ H ∧ wpOp P l.toArray Q u (fun a' w' => (u ∈ T1 → C w') ∧ AnyP P md l.toArray C Q H T1 (n + 1) (listed.setIfInBounds u true) a' w') a w) := by
    intro u v hu hv hmu hs hh
    obtain ⟨_, o, ho, _⟩ := mem_ready.1 hmu
    have ho' : l[u]? = some o := by simpa using ho
    rw [opsAt_cons ho'] at hh
    refine .inr ⟨hu, ?_⟩
    have hw := wpOp_check (i := u) (by simpa using ho') hh
    refine wpOp_mono (fun a' w' h' => ⟨fun _ => h'.1, ?_⟩) hw
    have := plan_A (H := H) (T1 := T1) hL [v] (listed.setIfInBounds u true) a' w' (by simpa using hv) hs h'.2
    rwa [List.length_singleton, Nat.add_comm] at this
  refine ⟨fun q => by (rcases hr with r | r <;> rw [r] at q <;> cases q), fun i hi => ?_⟩
  rcases (hmem i).1 hi with rfl | rfl
  · exact step i y hx hy hi s1 h1
  · exact step i x hy hx hi s2 h2
/-- What the two early ones lead to, in either order; and what follows. -/
def ForkGo (P : Program) (l : List Oper) (C : World → Prop) (Q : Exit → Act → World → Prop) (x y : Nat) (R : Act → World → Prop) (a0 : Act) (w0 : World) : Prop :=
  ∃ M : Act → World → Prop, wpT1 P l.toArray C Q (opsAt l [x, y]) M a0 w0 ∧ wpT1 P l.toArray C Q (opsAt l [y, x]) M a0 w0 ∧ ∀ a w, M a w → R a w
theorem fork_intro {x y : Nat} {R : Act → World → Prop} {a0 : Act} {w0 : World} (M : Act → Act → World → Prop) (h1 : wpT1 P l.toArray C Q (opsAt l [x, y]) (M a0) a0 w0) (h2 : wpT1 P l.toArray C Q (opsAt l [y, x]) (M a0) a0 w0)
    (h3 : ∀ a w, M a0 a w → R a w) : ForkGo P l C Q x y R a0 w0 := ⟨M a0, h1, h2, h3⟩
end
end Go.Proofs.YteinoiicnmemhaaGreatDoor
/- Regions that draw their order, where some cells hold all along (the blocks that they lie in may turn elsewhere). No program is named. -/
set_option linter.unusedVariables false
set_option linter.unusedSimpArgs false
namespace Go.Proofs.YteinoiicnmemhaaGreatDoor.J
open Go.RowKit Go
section
variable {P : Program} {Q : Exit → Act → World → Prop} {l : List Oper} {F : List (Addr × Value)}
end
end Go.Proofs.YteinoiicnmemhaaGreatDoor.J
/- A region that draws its order: reads; a read that may come before, between or behind two early ones; further early ones; reads; an early one; the rest. No program is named. -/
set_option linter.unusedVariables false
set_option linter.unusedSimpArgs false
namespace Go.Proofs.YteinoiicnmemhaaGreatDoor.J
open Go Go.RowKit Go.Sort
section
variable {P : Program} {md : Region.Mode} {C : World → Prop} {Q : Exit → Act → World → Prop} {l : List Oper}
end
end Go.Proofs.YteinoiicnmemhaaGreatDoor.J
/- Contracts: find, times, floorOf, put, keep. -/
set_option linter.unusedVariables false
set_option linter.unusedSimpArgs false
namespace Go.Proofs.YteinoiicnmemhaaGreatDoor
open Go.RowKit
theorem zeroS (w : World) : (zeroValue 75).run Tryz.prog w = .ok (StreamR.zero.val (.slice none 0 0)) w := by kernel_rfl
theorem find_any {w : World} {M : List Nat} {sb mb : Nat} {av : Value} {pf : ByteArray → Value} {s : MS} (h : StAt w M sb mb av pf s) (n : ByteArray) :
    Calls Tryz.prog 21 #[.pointer (some ⟨sb, 0, none⟩), .string n] w fun e w' => e = .returned ((s.find n).val (pvOf s pf n)) ∧ Only [] w w' := by
  obtain ⟨A, cap, hpv, _⟩ := (h.rd n).1.openI
  have c1 : ∀ o, (w.alloc o).cell? ⟨sb, 1, none⟩ = some (.map (some mb)) := fun o => (World.cell?_alloc_lt w o _ h.blk.lt).trans (h.blk.cell 1)
  have hl := h.look n
  obtain ⟨x, hx⟩ : ∃ x, x = s.find n := ⟨_, rfl⟩
  rw [hpv] at hl ⊢
  rw [← hx] at hl ⊢
  clear hpv hx
  obtain ⟨places, ⟨a, b, d⟩, fl, del⟩ := x
  have HL := Lib.hid hl
  clear hl
  unfold StreamR.val
  go_enter Tryz.func21, Tryz.ntmps21
  go_wp2_with (at_lookup; refine wpList_lookup_is rfl 70 rfl keyEnc_string Tryz.underlying70 Tryz.underlying9 (zeroS _) n rfl rfl (h.map.alloc _) (.agg #[.slice A places.length cap, .int .i64 a, .int .i64 b, .int .i64 d, .int .i64 fl, .bool del]) HL.out ?_)
  exact bodyPost_ret (v := .agg #[.slice A places.length cap, .int .i64 a, .int .i64 b, .int .i64 d, .int .i64 fl, .bool del]) (by simp [results, Tryz.results21, go_sem]) rfl ⟨rfl, (Only.refl [] w).alloc _⟩
theorem infoI : (Tryz.prog.info? 3).map (fun i => (i.zero, i.size, i.bytes)) = some (some (.int .i64 0), 1, 8) := by kernel_rfl
theorem news_one {w : World} {u : Value} {e : TypeId} : ∀ j x, [u][j]? = some x → (w.alloc (.cells #[u] e)).cell? ((⟨w.heap.size, 0, none⟩ : Addr).add j) = some x := by
  intro j x hx
  match j with
  | 0 => exact (cell_of_row _ _ 0 _ _ _ (heap_alloc_new w (.cells #[u] e))).trans hx
  | j + 1 => simp at hx
theorem timeAt_nat {all : List StoredR} {q : Nat} (h : q < all.length) : timeAt all (q : Int) = all[q].time := by simp [timeAt, h]
theorem times_len (all : List StoredR) (x : StreamR) : (times all x).length = x.places.length := by simp [times]
theorem ints_take {ts : List Int} {k : Nat} {t : Int} (h : ts[k]? = some t) : ints (ts.take (k + 1)) = ints (ts.take k) ++ [.int .i64 t] := by
  obtain ⟨h1, h2⟩ := List.getElem?_eq_some_iff.1 h
  rw [List.take_succ_eq_append_getElem h1, h2]
  unfold ints
  rw [List.map_append]
  rfl
set_option maxHeartbeats 1000000 in
theorem times_any {w : World} {M : List Nat} {sb mb : Nat} {av pv : Value} {pf : ByteArray → Value} {s : MS} {x : StreamR} (h : StAt w M sb mb av pf s) (hp : Slc w 1 pv x.places.length (ints x.places))
    (hx : ∀ p ∈ x.places, 0 ≤ p ∧ p < s.all.length) (hl : x.places.length ≤ 1000000000) :
    Calls Tryz.prog 58 #[.pointer (some ⟨sb, 0, none⟩), x.val pv] w fun e w' => ∃ v, e = .returned v ∧ Slc w' 1 v (times s.all x).length (ints (times s.all x)) ∧ Only [] w w' := by
  obtain ⟨A, cap, rfl, hnc, hcm, hel⟩ := hp.openI
  obtain ⟨A2, cap2, rfl, hnc2, hcm2, hel2⟩ := h.cell
  obtain ⟨i0, hi, hz0, hz1, hz2⟩ := info_parts infoI
  have htl := times_len s.all x
  have htk : ∀ k (hk : k < x.places.length) (q : Nat), x.places[k] = (q : Int) → (hq : q < s.all.length) → (times s.all x)[k]? = some s.all[q].time := by
    intro k hk q he hq
    simp only [times, List.getElem?_map, List.getElem?_eq_getElem hk, he, Option.map_some]
    rw [timeAt_nat hq]
  obtain ⟨ts, hts⟩ : ∃ ts, ts = times s.all x := ⟨_, rfl⟩
  rw [← hts] at htk htl ⊢
  clear hts
  obtain ⟨places, ⟨a, b, d⟩, fl, del⟩ := x
  simp only [] at hx hl hel hnc htl htk
  unfold maxLen at hcm hcm2
  have hbb := h.blk.lt
  have c0 : w.cell? ⟨sb, 0, none⟩ = some (.slice A2 s.all.length cap2) := h.blk.cell 0
  have C0 := Lib.hid c0
  clear c0
  unfold StreamR.val
  go_enter Tryz.func58, Tryz.ntmps58
  go_wp2
  go_loopw [5, 11] (fun u i wr => ∃ k : Nat, k ≤ places.length ∧ i = .int .i64 k ∧ wr.ownsRow w.heap.size 3 1 u k (ints (ts.take k)) ∧ Only [] w wr) (fun _ i _ => places.length - (intOf i).toNat)
  case atStart => exact ⟨0, Nat.zero_le _, rfl, World.ownsRow_nil _ _ _ _, (Only.refl [] w).alloc _⟩
  case round =>
    obtain ⟨k, hk, rfl, hown, hO⟩ := hrel
    by_cases hlt : k < places.length
    · obtain ⟨b1, off1, rfl, hb1, hc1⟩ := hel k hlt
      obtain ⟨hp0, hp1⟩ := hx _ (List.getElem_mem hlt)
      obtain ⟨q, hq⟩ := Int.eq_ofNat_of_zero_le hp0
      have hqa : q < s.all.length := by omega
      obtain ⟨b2, rfl, hb2, hc2⟩ := hel2 q hqa
      have ht := ints_take (htk k hlt q hq hqa)
      rw [hq, ← hO.cell hb1 (by simp)] at hc1
      have hc7 := hc2 7 (by omega)
      rw [← hO.cell hb2 (by simp)] at hc7
      have c7 : wr.cell? ⟨b2, q * 8 + 7, none⟩ = some (.int .i64 s.all[q].time) := hc7
      have c0 : wr.cell? ⟨sb, 0, none⟩ = some (.slice (some ⟨b2, 0, none⟩) s.all.length cap2) := (hO.cell hbb (by simp)).trans C0.out
      have hqi : (q : Int) < s.all.length := by omega
      obtain ⟨z, hz⟩ : ∃ z, z = s.all[q].time := ⟨_, rfl⟩
      rw [← hz] at c7 ht
      have HT := Lib.hid ht
      clear hel hel2 hc2 hc7 hz ht hq hx htk
      have htl' := Lib.hid htl
      clear htl
      go_wp2_with (at_builtin; refine wpList_append_own _ rfl (.tmp 15) (.tmp 24) 48 rfl w.heap.size 3 i0 (.int .i64 0) 1 8 Tryz.underlying48 hi hz0 hz1 hz2 rfl (by decide) _ _ _ rfl (World.ownsRow.alloc hown _) ⟨wr.heap.size, 0, none⟩ 1 1 [.int .i64 z] rfl rfl news_one ?c2 ?c3 ?c4 ?c5 ?_)
      case c2 => simp [Value.oneCell']
      case c3 => unfold maxLen; omega
      case c4 => omega
      case c5 => have := hO.size; simp; omega
      intro v' w4 hown' hgrow _
      rw [← HT.out] at hown'
      have ho4 : Only [] w w4 := (hO.alloc _).grown hgrow (fun k hk => .inr (hown.lt k hk).1)
      clear hgrow
      go_wp2
      exact ⟨⟨k + 1, hlt, by simp, hown', ho4⟩, by simp [intOf]; omega⟩
    · have hkl : k = ts.length := by omega
      rw [hkl, List.take_length] at hown
      have htl' := Lib.hid htl
      clear hkl htl htk
      go_wp2
      go_ret
      exact ⟨_, rfl, (Slc.of_own hown).1, hO⟩
end Go.Proofs.YteinoiicnmemhaaGreatDoor
/- Opening a law's arguments: slices of strings, of integers and of structs as plain lists. -/
set_option linter.unusedVariables false
set_option linter.unusedSimpArgs false
namespace Go.Proofs.YteinoiicnmemhaaGreatDoor
open Go.ChangeShapes Go.WideShapes Go.ChangeAt Go.RowKit Go.WideElems Go.ChangeMaps Go.Deep
theorem own : ownKnob Tryz.prog.godebug = none := by kernel_rfl
theorem laidOut : laidOutB Tryz.prog = true := by kernel_rfl
theorem addr_add (b off j : Nat) : (⟨b, off, none⟩ : Addr).add j = ⟨b, off + j, none⟩ := by
  cases j <;> simp [Addr.add]
section
variable {H : Type} {enc : TypeId × Value → H} {P : Program} {W : World} {base : Nat} {t e : TypeId} {v : Value} {d : DataW H} {ps : List MemPlace}
end
section
variable {H : Type} {enc : TypeId × Value → H} {P : Program} {W : World} {t e : TypeId}
theorem list_of {E : Type} (Q : Nat → E → Prop) : ∀ len, (∀ i, i < len → ∃ o, Q i o) → ∃ os : List E, os.length = len ∧ ∀ i (h : i < os.length), Q i os[i]
  | 0, _ => ⟨[], rfl, fun i h => absurd h (Nat.not_lt_zero _)⟩
  | len + 1, h => by
    obtain ⟨os, h1, h2⟩ := list_of Q len (fun i hi => h i (by omega))
    obtain ⟨o, ho⟩ := h len (by omega)
    refine ⟨os ++ [o], by simp [h1], fun i hi => ?_⟩
    by_cases hl : i < os.length
    · rw [List.getElem_append_left hl]; exact h2 i hl
    · have : i = len := by simp at hi; omega
      subst this
      rw [List.getElem_append_right (by omega)]
      simpa [h1] using ho
/-- The slice whose cells read so, as a list of its elements. -/
theorem open_rows_at {fuel k : Nat} {cs : List Value} {x : DataW H × List MemPlace} (ht : P.underlying t = some (.slice e)) (hc : P.cellsOf e = k) (hk : 0 < k) {E : Type} (cells : E → List Value) (okE : E → Prop)
    (hel : ∀ n cs x, DataW.trod enc P W 0 (fun _ => true) true n e cs = some x → (∀ y ∈ x.2, y.block < W.heap.size) → ∃ o, cs = cells o ∧ okE o)
    (hd : DataW.trod enc P W 0 (fun _ => true) true fuel t cs = some x) (hlt : ∀ y ∈ x.2, y.block < W.heap.size) :
    ∃ (v : Value) (os : List E), cs = [v] ∧ Slc W k v os.length (os.flatMap cells) ∧ (∀ o ∈ os, okE o ∧ (cells o).length = k) ∧ ∀ g, v.ownBlock = some g → g < W.heap.size ∨ os = [] := by
  rcases open_slice ht hd with ⟨hcs, hx⟩ | ⟨a, len, cap, m, n, D, Pl, hcs, _, hl, hm, hmm, hx, hel0⟩
  · exact ⟨_, [], hcs, Slc.nil W k, by simp, fun g hg => .inr rfl⟩
  · simp only [if_true] at hmm
    subst hmm
    have hpl : ∀ i, i < m → ∀ y ∈ Pl i, y.block < W.heap.size := fun i hi y hy => hlt y (by
      rw [hx]
      exact List.mem_append_right _ (List.mem_flatMap.2 ⟨i, List.mem_range.2 hi, hy⟩))
    obtain ⟨os, h1, h2⟩ := list_of (E := E) (fun i o => W.cells? 0 (a.add (i * P.cellsOf e)) (P.cellsOf e) = some (cells o) ∧ okE o) len (fun i hi => by
      obtain ⟨cs', hc', ht'⟩ := hel0 i (by omega)
      obtain ⟨o, rfl, ho⟩ := hel n cs' _ ht' (hpl i (by omega))
      exact ⟨o, hc', ho⟩)
    have hlen : ∀ o ∈ os, (cells o).length = k := by
      intro o ho
      obtain ⟨i, hi, rfl⟩ := List.getElem_of_mem ho
      have := (World.cells?_some (h2 i hi).1).2.1
      rw [this, hc]
    obtain ⟨b, off, spot⟩ := a
    have hcell : ∀ i (hi : i < os.length) r, r < k → W.cell? (((⟨b, off, spot⟩ : Addr).add (i * k)).add r) = (cells os[i])[r]? := by
      intro i hi r hr
      have := (World.cells?_some (h2 i hi).1).2.2 r (by rw [hc]; exact hr)
      rwa [hc] at this
    have hb : 0 < len → b < W.heap.size ∧ spot = none := by
      intro h0
      have h00 := hcell 0 (by omega) 0 hk
      have hs : (cells os[0])[0]? = some ((cells os[0])[0]'(by rw [hlen _ (List.getElem_mem _)]; exact hk)) := List.getElem?_eq_getElem _
      rw [hs] at h00
      generalize (cells os[0])[0]'(by rw [hlen _ (List.getElem_mem _)]; exact hk) = u at h00
      have h01 : W.cell? ⟨b, off, spot⟩ = some u := by simpa [Addr.add] using h00
      exact ⟨block_lt_of_cell h01, by simpa using World.cell?_spot h01⟩
    refine ⟨_, os, hcs, ?_, fun o ho => ⟨?_, hlen o ho⟩, fun g hg => ?_⟩
    · refine ⟨_, _, by rw [h1], by rw [flat_len cells k os hlen], by omega, hm, fun h0 => ?_⟩
      obtain ⟨q1, rfl⟩ := hb (by omega)
      refine ⟨b, off, rfl, q1, fun j hj => ?_⟩
      rw [flat_len cells k os hlen] at hj
      have hi : j / k < os.length := Nat.div_lt_of_lt_mul (by rw [Nat.mul_comm]; exact hj)
      have hr : j % k < k := Nat.mod_lt _ hk
      have hjk : j / k * k + j % k = j := by rw [Nat.mul_comm]; exact Nat.div_add_mod j k
      have := hcell (j / k) hi (j % k) hr
      rw [addr_add, addr_add] at this
      have e2 := flat_get cells k os hlen (j / k) (j % k) hi hr
      rw [hjk] at e2
      rw [e2, ← this]
      congr 2
      omega
    · obtain ⟨i, hi, rfl⟩ := List.getElem_of_mem ho
      exact (h2 i hi).2
    · by_cases h0 : 0 < len
      · have e : g = b := by
          have : some b = some g := hg
          simpa using this.symm
        rw [e]; exact .inl (hb h0).1
      · right
        exact List.eq_nil_of_length_eq_zero (by omega)
theorem open_rows {k : Nat} {base : Nat} {v : Value} {d : DataW H} {ps : List MemPlace} (ht : P.underlying t = some (.slice e)) (hc : P.cellsOf e = k) (hk : 0 < k) {E : Type} (cells : E → List Value) (okE : E → Prop)
    (hel : ∀ n cs x, DataW.trod enc P W 0 (fun _ => true) true n e cs = some x → (∀ y ∈ x.2, y.block < W.heap.size) → ∃ o, cs = cells o ∧ okE o)
    (hval : Value.okWide P W .any base t v) (hd : DataW.Trod enc P W 0 (fun _ => true) true t v d ps) (hlt : ∀ x ∈ ps, x.block < W.heap.size) :
    ∃ os : List E, Slc W k v os.length (os.flatMap cells) ∧ (∀ o ∈ os, okE o ∧ (cells o).length = k) ∧ ∀ g, v.ownBlock = some g → g < W.heap.size ∨ os = [] := by
  obtain ⟨fuel, hf⟩ := hd
  obtain ⟨a0, len, cap, rfl⟩ := okWide_slice ht hval
  obtain ⟨v', os, h1, h2, h3, h4⟩ := open_rows_at ht hc hk cells okE hel hf hlt
  have : v' = .slice a0 len cap := by
    simp [Value.cells] at h1
    exact h1.symm
  subst this
  exact ⟨os, h2, h3, h4⟩
end
end Go.Proofs.YteinoiicnmemhaaGreatDoor
/- The base of the texts about logs: rows of one's own, slices that are read, appends as runs, strings that are compared. -/
set_option linter.unusedVariables false
set_option linter.unusedSimpArgs false
namespace Go.Proofs.YteinoiicnmemhaaGreatDoor.J
open Go.RowKit Go
theorem ret_b {a b : Bool} (h : a = b) : Ending.returned (.bool a) = .returned (.bool b) := by rw [h]
theorem ret_i {a b : Int} (h : a = b) : Ending.returned (.int .i64 a) = .returned (.int .i64 b) := by rw [h]
theorem own_form {w : World} {base size n : Nat} {e : TypeId} {v : Value} {xs : List Value} (h : w.ownsRow base e size v n xs) : ∃ A cap, v = .slice A n cap ∧ n ≤ cap ∧ cap ≤ maxLen := by
  obtain ⟨_, h2⟩ := h
  rcases h2 with ⟨rfl, rfl⟩ | ⟨g, cap, cur, rfl, hb, hg, hn, hc, _⟩
  · exact ⟨none, 0, rfl, Nat.le_refl _, Nat.zero_le _⟩
  · exact ⟨_, cap, rfl, hn, hc⟩
theorem own_base {w : World} {base base' size n : Nat} {e : TypeId} {v : Value} {xs : List Value} (h : w.ownsRow base e size v n xs) (hb : base' ≤ base) : w.ownsRow base' e size v n xs := by
  obtain ⟨h1, h2⟩ := h
  rcases h2 with q | ⟨g, cap, cur, q1, q2, q3⟩
  · exact ⟨h1, .inl q⟩
  · exact ⟨h1, .inr ⟨g, cap, cur, q1, Nat.le_trans hb q2, q3⟩⟩
theorem own_some {w : World} {base size n : Nat} {e : TypeId} {v : Value} {xs : List Value} (h : w.ownsRow base e size v n xs) (h0 : 0 < n) : ∃ g cap cur, v = .slice (some ⟨g, 0, none⟩) n cap ∧ base ≤ g ∧ Blk w g e cur := by
  obtain ⟨_, h2⟩ := h
  rcases h2 with ⟨rfl, rfl⟩ | ⟨g, cap, cur, rfl, hb, hg, _⟩
  · omega
  · exact ⟨g, cap, cur, rfl, hb, hg⟩
theorem own_type {w : World} {base size n : Nat} {e : TypeId} {v : Value} {xs : List Value} (h : w.ownsRow base e size v n xs) {g : Nat} (hg : v.ownBlock = some g) : ∃ cur, Blk w g e cur := by
  obtain ⟨_, h2⟩ := h
  rcases h2 with ⟨rfl, rfl⟩ | ⟨g', cap, cur, rfl, hb, hg', _⟩
  · cases hg
  · cases hg; exact ⟨cur, hg'⟩
theorem slc_new1 {w : World} {e : TypeId} {size : Nat} {cs : List Value} (hs : cs.length = 1 * size) : Slc (w.alloc (.cells cs.toArray e)) size (.slice (some ⟨w.heap.size, 0, none⟩) 1 1) 1 cs := by
  have hb := Blk.new w e cs.toArray
  refine ⟨_, 1, rfl, hs, Nat.le_refl _, by simp [maxLen], fun _ => ⟨w.heap.size, 0, rfl, hb.lt, fun j hj => ?_⟩⟩
  rw [Nat.zero_add, hb.cell j]
  simp
theorem slc_take {w : World} {size n cap k : Nat} {A : Option Addr} {cs : List Value} (h : Slc w size (.slice A n cap) n cs) (hk : k ≤ n) : Slc w size (.slice A k cap) k (cs.take (k * size)) := by
  obtain ⟨A', cap', e, h1, h2, h3, h4⟩ := h
  injection e with e1 e2 e3
  subst e1 e3
  have hm : k * size ≤ n * size := Nat.mul_le_mul_right _ hk
  refine ⟨A, cap, rfl, by rw [List.length_take, h1]; omega, by omega, h3, fun hn => ?_⟩
  obtain ⟨b, off, rfl, hb, hc⟩ := h4 (by omega)
  refine ⟨b, off, rfl, hb, fun j hj => ?_⟩
  rw [List.length_take] at hj
  rw [hc j (by omega), List.getElem?_take, if_pos (by omega)]
/-! ## DeleteFunc of texts that are not too long, by a closure that holds nothing -/
theorem run_append_zero {P : Program} (w : World) (t e ty : TypeId) (A B : Option Addr) (size n cap c : Nat) (ht : P.underlying t = some (.slice e)) (hs : (Go.sizeOf e).run P w = .ok size w) (hnc : n ≤ cap) :
    (Builtin.append_ #[t, t] ty #[.slice A n cap, .slice B 0 c]).run P w = .ok (.slice A n cap) w := by
  cases A <;> cases B <;> simp [Builtin.append_, run_underlying ht, hs, hnc, Builtin.lenOf, Builtin.firstCells, storeCells, loadCells, loadCellsFrom]
theorem run_app {P : Program} {w : World} (t ty : TypeId) (base : Nat) (e : TypeId) (z : Value) (size bytes : Nat) (ht : P.underlying t = some (.slice e)) (hi : (P.info? e).map (fun i => (i.zero, i.size, i.bytes)) = some (some z, size, bytes))
    (hzs : z.cells.size = size) (hsz : 0 < size) {v : Value} {n : Nat} {xs : List Value} (hown : w.ownsRow base e size v n xs) {u : Value} {m : Nat} {cells : List Value} (hsl : Slc w size u m cells)
    (h1 : ∀ u ∈ cells, u.oneCell' = true) (hb : (n + m) * bytes ≤ 140737488355328) (hm : n + m ≤ maxLen) (hbase : base ≤ w.heap.size) :
    ∃ A cap w', (Builtin.append_ #[t, t] ty #[v, u]).run P w = .ok (.slice A (n + m) cap) w' ∧ w'.ownsRow base e size (.slice A (n + m) cap) (n + m) (xs ++ cells) ∧ Only v.ownBlock.toList w w' ∧
      ∀ g, (Value.slice A (n + m) cap).ownBlock = some g → v.ownBlock = some g ∨ w.heap.size ≤ g := by
  obtain ⟨i, hi1, hi2, hi3, hi4⟩ := info_parts hi
  obtain ⟨B, c, rfl, hl, hc1, hc2, hc⟩ := hsl
  by_cases h0 : m = 0
  · subst h0
    have hcn : cells = [] := List.eq_nil_of_length_eq_zero (by rw [hl]; simp)
    subst hcn
    obtain ⟨A, cap, rfl, hnc, _⟩ := own_form hown
    have hs : (Go.sizeOf e).run P w = .ok size w := by simp [Go.sizeOf, typeInfo, hi1, hi3]
    exact ⟨A, cap, w, run_append_zero w t e ty A B size n cap c ht hs hnc, by simpa using hown, Only.refl _ _, fun g hg => .inl hg⟩
  · obtain ⟨b, off, rfl, hb1, hcc⟩ := hc (by omega)
    obtain ⟨g, cap, w', hr, h2, h3, h4, _⟩ := run_append_lies (P := P) w t ty base e i z size bytes ht hi1 hi2 hi3 hi4 hzs hsz v n xs hown ⟨b, off, none⟩ m c cells hl (fun j x hx => by
      have hj : j < cells.length := (List.getElem?_eq_some_iff.1 hx).1
      rw [show ((⟨b, off, none⟩ : Addr).add j) = ⟨b, off + j, none⟩ by simp [Addr.add], hcc j hj, hx]) h1 (by omega) hm hb hbase w.heap.size rfl
    refine ⟨_, cap, w', hr, h2, (Only.refl _ _).grown h3 (fun k hk => .inl (by simp [hk])), fun x hx => ?_⟩
    have hx' : g = x := by simpa [Value.ownBlock] using hx
    subst hx'
    rcases h4 with h4 | h4
    · exact .inl h4
    · exact .inr (by omega)
theorem toList_decJ (a b : ByteArray) : (a.toList == b.toList) = decide (a = b) := by
  rw [ByteArray.toList_eq, ByteArray.toList_eq]
  by_cases h : a = b
  · rw [h]; simp
  · rw [decide_eq_false h, beq_eq_false_iff_ne]
    exact fun e => h (bts_inj e)
theorem infoSJ : (Tryz.prog.info? 9).map (fun i => (i.zero, i.size, i.bytes)) = some (some (.string ⟨#[]⟩), 1, 16) := by kernel_rfl
theorem infoU8 : (Tryz.prog.info? 5).map (fun i => (i.zero, i.size, i.bytes)) = some (some (.int .u8 0), 1, 1) := by kernel_rfl
theorem infoIJ : (Tryz.prog.info? 3).map (fun i => (i.zero, i.size, i.bytes)) = some (some (.int .i64 0), 1, 8) := by kernel_rfl
end Go.Proofs.YteinoiicnmemhaaGreatDoor.J
/- Contracts: floorOf, put, keep. -/
set_option linter.unusedVariables false
set_option linter.unusedSimpArgs false
namespace Go.Proofs.YteinoiicnmemhaaGreatDoor
open Go.RowKit
theorem StAt.tm {w : World} {M : List Nat} {sb mb : Nat} {av : Value} {pf : ByteArray → Value} {s : MS} (h : StAt w M sb mb av pf s) : w.cell? ⟨sb, 3, none⟩ = some (.int .i64 s.now) := h.blk.cell 3
set_option maxHeartbeats 2000000 in
theorem floorOf_any {w : World} {M : List Nat} {sb mb : Nat} {av pv : Value} {pf : ByteArray → Value} {s : MS} {x : StreamR} (h : StAt w M sb mb av pf s) (hn : 0 ≤ s.now ∧ s.now ≤ 1099511627776) (hp : Slc w 1 pv x.places.length (ints x.places))
    (hx : ∀ p ∈ x.places, 0 ≤ p ∧ p < s.all.length) (hl : x.places.length ≤ 1000000000) (hm : x.mt.ok = true) (hf : 0 ≤ x.floor ∧ x.floor ≤ x.places.length) :
    Calls Tryz.prog 22 #[.pointer (some ⟨sb, 0, none⟩), x.val pv] w fun e w' => e = .returned (.int .i64 (s.floorOf x)) ∧ Only [] w w' := by
  obtain ⟨A, cap, hpv, _⟩ := hp.openI
  have htl := times_len s.all x
  have hW : Only [] w (w.alloc (.cells #[pv, .int .i64 x.mt.maxCount, .int .i64 x.mt.maxAge, .int .i64 x.mt.before, .int .i64 x.floor, .bool x.deleted] 75)).drew := ((Only.refl [] w).alloc _).drew
  have HT := Lib.hid (times_any (h.only0 hW) (hp.only0 hW) hx hl)
  have HF := Lib.hid (fun (W : World) (v : Value) (hv : Slc W 1 v (times s.all x).length (ints (times s.all x))) => floor_any (m := x.mt) (floor := x.floor) (now := s.now) hv ⟨hn.1, by omega⟩ hm ⟨hf.1, by omega⟩ (by omega))
  have c3 : w.cell? ⟨sb, 3, none⟩ = some (.int .i64 s.now) := h.blk.cell 3
  have hbl := h.blk.lt
  have HN : Hid (s.floorOf x = floorE x.mt x.floor s.now (times s.all x)) := rfl
  obtain ⟨nw, hnw⟩ : ∃ nw, nw = s.now := ⟨_, rfl⟩
  rw [← hnw] at c3 HN HF
  obtain ⟨ts, hts⟩ : ∃ ts, ts = times s.all x := ⟨_, rfl⟩
  rw [← hts] at HT HF HN
  clear htl hn hts hnw
  rw [HN.out]
  subst hpv
  obtain ⟨places, ⟨a, b, d⟩, fl, del⟩ := x
  simp only [StreamR.val, MetaR.val] at HT HF hW HN ⊢
  clear hf hm hx hp HN
  go_enter Tryz.func22, Tryz.ntmps22
  go_wp2_with fail
  go_region_held3 (fun w' => w'.cell? ⟨w.heap.size, 0, none⟩ = some (.slice A places.length cap) ∧ w'.cell? ⟨w.heap.size, 1, none⟩ = some (.int .i64 a) ∧ w'.cell? ⟨w.heap.size, 2, none⟩ = some (.int .i64 b) ∧ w'.cell? ⟨w.heap.size, 3, none⟩ = some (.int .i64 d) ∧
      w'.cell? ⟨w.heap.size, 4, none⟩ = some (.int .i64 fl) ∧ w'.cell? ⟨w.heap.size, 5, none⟩ = some (.bool del) ∧ w'.cell? ⟨sb, 3, none⟩ = some (.int .i64 nw))
    (first | go_keep | (go_split_ands; refine ⟨?_, ?_, ?_, ?_, ?_, ?_, ?_⟩ <;> (rw [ho1.cell (block_lt_of_cell (by assumption)) (by simp)]; assumption)) | (go_split_ands; refine ⟨?_, ?_, ?_, ?_, ?_, ?_, ?_⟩ <;> (rw [ho2.cell (block_lt_of_cell (by assumption)) (by simp)]; assumption)))
    (first
      | (go_at_call 58; refine HT.out.mono ?_; rintro e w1 ⟨v1, rfl, hv1, ho1⟩)
      | (go_at_call 57; refine (HF.out _ _ hv1).mono ?_; rintro e w2 ⟨rfl, ho2⟩))
  go_wp2
  go_ret
  exact ⟨rfl, (hW.trans ho1).trans ho2⟩
set_option maxRecDepth 100000 in
theorem put_any {w : World} {M : List Nat} {sb mb : Nat} {av pv : Value} {pf : ByteArray → Value} {s : MS} {x : StreamR} (h : StAt w M sb mb av pf s) (n : ByteArray) (hp : Rd M w 1 pv x.places.length (ints x.places)) :
    Calls Tryz.prog 64 #[.pointer (some ⟨sb, 0, none⟩), .string n, x.val pv] w fun e w' => e = .returned (.tuple #[]) ∧ StAt w' M sb mb av (fun k => if k = n then pv else pf k) (s.put n x) ∧ Only [mb] w w' := by
  obtain ⟨A, cap, hpv, _⟩ := hp.1.openI
  have hfin : ∀ w', MapIs Value.string w' mb (aput (s.m.map fun p => (p.1, p.2.val (pf p.1))) n (x.val pv)) → Only [mb] w w' → StAt w' M sb mb av (fun k => if k = n then pv else pf k) (s.put n x) := by
    intro w' hm hO
    refine ⟨hO.blk h.blk (by simp; exact fun e => h.ne e.symm), own_only h.own hO (fun g hg => by simp; exact (h.ownne g hg).2), ?_, fun k y hy => ?_, h.inM, fun g hg => Nat.lt_of_lt_of_le (h.mlt g hg) hO.size⟩
    · rw [aput_mapk (fun k x => StreamR.val x (pf k)) (fun k x => StreamR.val x (if k = n then pv else pf k)) s.m h.nodup n x (x.val pv) (by simp) (fun a ha => by funext y; rw [if_neg ha])] at hm
      exact hm
    · have hk := aget_of_mem (aput_nodup h.nodup n x) hy
      rw [aget_aput] at hk
      by_cases e : n = k
      · subst e
        rw [if_pos rfl] at hk
        injection hk with hk
        subst hk
        simp only [if_true]
        exact hp.only hO (by simp; exact h.inM.2.1)
      · rw [if_neg e] at hk
        rw [if_neg (fun q => e q.symm)]
        exact (h.pl k y (aget_mem hk)).only hO (by simp; exact h.inM.2.1)
  have HF := Lib.hid hfin
  have c1 : ∀ o, (w.alloc o).cell? ⟨sb, 1, none⟩ = some (.map (some mb)) := fun o => (World.cell?_alloc_lt w o _ h.blk.lt).trans (h.blk.cell 1)
  have hne := fun w => run_eql_map_nil (P := Tryz.prog) w 70 _ _ (some mb) Tryz.underlying70
  have hM : ∀ o, MapIs Value.string (w.alloc o).drew mb (s.m.map fun p => (p.1, p.2.val (pf p.1))) := fun o => (h.map.alloc o).drew
  clear hfin
  subst hpv
  obtain ⟨places, ⟨a, b, d⟩, fl, del⟩ := x
  simp only [StreamR.val] at HF ⊢
  clear hp
  go_enter Tryz.func64, Tryz.ntmps64
  go_wp2
  refine wp_region_stail 6 (by kernel_rfl) (by kernel_rfl) ?_
  simp only [List.take_succ_cons, List.take_zero, List.drop_succ_cons, List.drop_zero]
  repeat still_step
  refine wpStill_nil ?_
  refine wpList_update_is rfl 70 rfl keyEnc_string Tryz.underlying70 Tryz.underlying9 n (.agg #[.slice A places.length cap, .int .i64 a, .int .i64 b, .int .i64 d, .int .i64 fl, .bool del]) (by rfl) (by rfl) (by rfl) (hM _) ?_
  intro w5 hm5 hu5
  have hO : Only [mb] w w5 := (((Only.refl [mb] w).alloc _).drew).trans hu5
  have hF := HF.out w5 hm5 hO
  go_wp2
  go_end0
  exact ⟨rfl, hF, hO⟩
end Go.Proofs.YteinoiicnmemhaaGreatDoor
