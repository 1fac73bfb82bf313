/- Proved here: contracts of functions and plain laws, part 1 of one proof. Conditions: each theorem names its own. -/
import Derived.WalkKit
import Derived.WalkSpells
import Derived.WalkLawsBesides
import Derived.Maps.Own
import Derived.Maps.OwnOps
import Derived.Maps.OwnSet
import Derived.Maps.RangeWalk
import Derived.Lib.Hide
import Derived.Laws.AppendOwn
import Derived.StillTail
import Derived.Deep.QuietTactic
import Derived.BigQuiet
import Derived.Lib.QuietBelow
import Derived.Test.YtfjkjndpndjfpaaGreatDoorProg
import Derived.Deep.AppendLies
import Derived.Lib.AppendZeros
import Derived.RegionTactic
import Derived.ChangeAlike
import Derived.Laws.BytesArg
import Derived.Lib.ConvBytes
/- Plain laws on worlds, used by all proofs of this seat: blocks known whole, which blocks a call may change, maps with typed keys as association lists, iterators over them. No program is named. -/
set_option linter.unusedVariables false
set_option linter.unusedSimpArgs false
namespace Go.Proofs.YtfjkjndpndjfpaaGreatDoor
open Go.RowKit Go.MapKept Go.ChangeMaps

/-! ## blocks -/
/-- Block g is just these cells of type t, none frozen. -/
def Blk (w : World) (g : Nat) (t : TypeId) (cs : Array Value) : Prop := w.heap[g]? = some (.cells cs t (0, 0))

section
variable {w w' : World} {g : Nat} {t : TypeId} {cs : Array Value}
theorem Blk.lt (h : Blk w g t cs) : g < w.heap.size := lt_of_block h
theorem Blk.cell (h : Blk w g t cs) (i : Nat) : w.cell? ⟨g, i, none⟩ = cs[i]? := cell_of_row w g i cs t (0, 0) h
theorem Blk.free (h : Blk w g t cs) (i : Nat) : w.frozen? ⟨g, i, none⟩ = false := frozen_of_row w g i cs t h
theorem Blk.new (w : World) (t : TypeId) (cs : Array Value) : Blk (w.alloc (.cells cs t)) w.heap.size t cs := heap_alloc_new w _
theorem Blk.set (h : Blk w g t cs) (i : Nat) (u : Value) : Blk (w.setCell ⟨g, i, none⟩ u) g t (cs.setIfInBounds i u) := heap_setCell_same w g i cs t u h
theorem Blk.of_eq (h : Blk w g t cs) (e : w'.heap[g]? = w.heap[g]?) : Blk w' g t cs := e.trans h
theorem Blk.other {g' : Nat} {t' : TypeId} {cs' : Array Value} (h : Blk w g t cs) (h' : Blk w g' t' cs') (ht : t ≠ t') : g ≠ g' := by
  intro e
  subst e
  unfold Blk at h h'
  rw [h] at h'
  simp at h'
  exact ht h'.2
theorem Blk.not_map {b : Nat} {es : Array MapEntry} {clock : Nat} (h : Blk w g t cs) (hb : w.heap[b]? = some (.map es clock)) : g ≠ b := by
  intro e
  subst e
  unfold Blk at h
  rw [h] at hb
  simp at hb
end

/-! ## what a call may have changed -/
/-- Of what was there at w only the blocks in S may have turned in w'. -/
structure Only (S : List Nat) (w w' : World) : Prop where
  os : w'.os = w.os
  tape : w'.tape = w.tape
  output : w'.output = w.output
  size : w.heap.size ≤ w'.heap.size
  block : ∀ k, k < w.heap.size → k ∉ S → w'.heap[k]? = w.heap[k]?

section
variable {S S' : List Nat} {a w w' : World}
theorem Only.refl (S : List Nat) (w : World) : Only S w w := ⟨rfl, rfl, rfl, Nat.le_refl _, fun _ _ _ => rfl⟩
theorem Only.trans (h : Only S a w) (k : Only S w w') : Only S a w' :=
  ⟨k.os.trans h.os, k.tape.trans h.tape, k.output.trans h.output, Nat.le_trans h.size k.size, fun i hi hn => (k.block i (Nat.lt_of_lt_of_le hi h.size) hn).trans (h.block i hi hn)⟩
theorem Only.mono (h : Only S a w) (hs : ∀ k, k ∈ S → k ∈ S') : Only S' a w := ⟨h.os, h.tape, h.output, h.size, fun i hi hn => h.block i hi (fun e => hn (hs i e))⟩
theorem Only.of_nil (h : Only [] a w) : Only S a w := h.mono (fun _ e => by cases e)
/-- A step behind: it may turn blocks in S, or blocks that are new since a. -/
theorem Only.step (h : Only S a w) (k : Only S' w w') (hs : ∀ i, i ∈ S' → i ∈ S ∨ a.heap.size ≤ i) : Only S a w' :=
  ⟨k.os.trans h.os, k.tape.trans h.tape, k.output.trans h.output, Nat.le_trans h.size k.size, fun i hi hn =>
    (k.block i (Nat.lt_of_lt_of_le hi h.size) (fun e => (hs i e).elim hn (fun e => absurd hi (by omega)))).trans (h.block i hi hn)⟩
theorem Only.alloc (h : Only S a w) (o : Obj) : Only S a (w.alloc o) :=
  h.trans ⟨rfl, rfl, rfl, by simp, fun k hk _ => Below.heap_alloc _ _ _ hk⟩
theorem Only.setCell (h : Only S a w) {p : Addr} (hp : p.block ∈ S ∨ a.heap.size ≤ p.block) (u : Value) : Only S a (w.setCell p u) :=
  h.step (S' := [p.block]) ⟨rfl, rfl, rfl, by simp [World.setCell], fun k _ hn => Below.heap_setCell _ _ _ _ (by simpa using hn)⟩ (fun i hi => by simp at hi; subst hi; exact hp)
theorem Only.drew (h : Only S a w) : Only S a w.drew := ⟨h.os, h.tape, h.output, h.size, h.block⟩
theorem Only.drewN (h : Only S a w) (n : Nat) : Only S a (w.drewN n) := ⟨h.os, h.tape, h.output, h.size, h.block⟩
theorem Only.setBlock (h : Only S a w) {b : Nat} (hb : b ∈ S ∨ a.heap.size ≤ b) (o : Obj) : Only S a (setBlock w b o) :=
  h.step (S' := [b]) ⟨rfl, rfl, rfl, by simp [Go.ChangeMaps.setBlock], fun k _ hn => by
    simp only [Go.ChangeMaps.setBlock, Array.getElem?_setIfInBounds]
    rw [if_neg (by intro e; exact hn (by simp [e]))]⟩ (fun i hi => by simp at hi; subst hi; exact hb)
theorem Only.grown (h : Only S a w) {row : Option Nat} (hg : w.grownBy w' row) (hr : ∀ k, row = some k → k ∈ S ∨ a.heap.size ≤ k) : Only S a w' :=
  h.step (S' := row.toList) ⟨hg.os, hg.tape, hg.output, hg.size, fun k hk hn => hg.block k hk (fun e => hn (by rw [← e]; simp))⟩ (fun i hi => hr i (by simpa using hi))
theorem Only.below (h : Only S a w) {B : Nat} (hb : Below B w w') (hB : w.heap.size ≤ B) : Only S a w' :=
  h.trans ⟨hb.os, hb.tape, hb.output, hb.size, fun k hk _ => hb.block k (by omega)⟩
theorem Only.of_below {B : Nat} (hb : Below B w w') (hB : w.heap.size ≤ B) : Only S w w' := (Only.refl S w).below hb hB
theorem Only.toBelow (h : Only [] a w) : Below a.heap.size a w := ⟨h.os, h.tape, h.output, h.size, fun k hk => h.block k hk (by simp)⟩
theorem Only.cell (h : Only S a w) {p : Addr} (hp : p.block < a.heap.size) (hn : p.block ∉ S) : w.cell? p = a.cell? p := World.cell?_of_block (h.block p.block hp hn)
theorem Only.frozen (h : Only S a w) {p : Addr} (hp : p.block < a.heap.size) (hn : p.block ∉ S) : w.frozen? p = a.frozen? p := World.frozen?_of_block (h.block p.block hp hn)
theorem Only.blk (h : Only S a w) {g : Nat} {t : TypeId} {cs : Array Value} (hg : Blk a g t cs) (hn : g ∉ S) : Blk w g t cs := hg.of_eq (h.block g hg.lt hn)
end

/-! ## association lists -/
section
variable {κ ν : Type} [DecidableEq κ]
def aget : List (κ × ν) → κ → Option ν
  | [], _ => none
  | (a, b) :: l, k => if a = k then some b else aget l k
def aput : List (κ × ν) → κ → ν → List (κ × ν)
  | [], k, v => [(k, v)]
  | (a, b) :: l, k, v => if a = k then (k, v) :: l else (a, b) :: aput l k v
def adel : List (κ × ν) → κ → List (κ × ν)
  | [], _ => []
  | (a, b) :: l, k => if a = k then l else (a, b) :: adel l k
/-- No key stands twice. -/
def ANodup (l : List (κ × ν)) : Prop := (l.map (·.1)).Nodup

theorem aget_none {l : List (κ × ν)} {k : κ} : aget l k = none ↔ k ∉ l.map (·.1) := by
  induction l with
  | nil => simp [aget]
  | cons p l ih =>
    obtain ⟨a, b⟩ := p
    simp only [aget]
    split
    · rename_i h; subst h; simp
    · rename_i h; rw [ih]; simp only [List.map_cons, List.mem_cons, not_or]; exact ⟨fun x => ⟨fun e => h e.symm, x⟩, fun x => x.2⟩
theorem aget_mem {l : List (κ × ν)} {k : κ} {v : ν} (h : aget l k = some v) : (k, v) ∈ l := by
  induction l with
  | nil => simp [aget] at h
  | cons p l ih =>
    obtain ⟨a, b⟩ := p
    simp only [aget] at h
    split at h
    · rename_i e; subst e; cases h; simp
    · exact List.mem_cons_of_mem _ (ih h)
theorem aget_of_mem {l : List (κ × ν)} (hn : ANodup l) {k : κ} {v : ν} (h : (k, v) ∈ l) : aget l k = some v := by
  induction l with
  | nil => simp at h
  | cons p l ih =>
    obtain ⟨a, b⟩ := p
    simp only [ANodup, List.map_cons, List.nodup_cons] at hn
    simp only [List.mem_cons, Prod.mk.injEq] at h
    simp only [aget]
    rcases h with ⟨rfl, rfl⟩ | h
    · simp
    · rw [if_neg, ih hn.2 h]
      intro e; subst e
      exact hn.1 (List.mem_map.2 ⟨_, h, rfl⟩)
theorem aput_keys (l : List (κ × ν)) (k : κ) (v : ν) : (aput l k v).map (·.1) = if k ∈ l.map (·.1) then l.map (·.1) else l.map (·.1) ++ [k] := by
  induction l with
  | nil => simp [aput]
  | cons p l ih =>
    obtain ⟨a, b⟩ := p
    simp only [aput]
    by_cases h : a = k
    · subst h; simp
    · have h' : ¬ k = a := fun e => h e.symm
      rw [if_neg h]
      simp only [List.map_cons, ih, List.mem_cons, h', false_or]
      split <;> simp
theorem aput_nodup {l : List (κ × ν)} (h : ANodup l) (k : κ) (v : ν) : ANodup (aput l k v) := by
  unfold ANodup at *
  rw [aput_keys]
  split
  · exact h
  · rename_i hk
    refine List.nodup_append.2 ⟨h, by simp, ?_⟩
    intro a ha b hb
    simp at hb
    subst hb
    intro e
    subst e
    exact hk ha
theorem adel_sublist (l : List (κ × ν)) (k : κ) : (adel l k).Sublist l := by
  induction l with
  | nil => exact List.Sublist.refl _
  | cons p l ih =>
    obtain ⟨a, b⟩ := p
    simp only [adel]
    split
    · exact List.sublist_cons_self _ _
    · exact ih.cons_cons _
theorem adel_nodup {l : List (κ × ν)} (h : ANodup l) (k : κ) : ANodup (adel l k) := List.Nodup.sublist ((adel_sublist l k).map _) h
theorem aget_aput (l : List (κ × ν)) (k q : κ) (v : ν) : aget (aput l k v) q = if k = q then some v else aget l q := by
  induction l with
  | nil => simp [aput, aget]
  | cons p l ih =>
    obtain ⟨a, b⟩ := p
    simp only [aput]
    by_cases h : a = k
    · subst h
      simp only [if_true, aget]
      split <;> simp_all
    · rw [if_neg h]
      simp only [aget, ih]
      by_cases h2 : a = q
      · subst h2; simp; intro e; exact absurd e.symm h
      · simp [h2]
theorem aget_adel {l : List (κ × ν)} (hn : ANodup l) (k q : κ) : aget (adel l k) q = if k = q then none else aget l q := by
  induction l with
  | nil => simp [adel, aget]
  | cons p l ih =>
    obtain ⟨a, b⟩ := p
    simp only [ANodup, List.map_cons, List.nodup_cons] at hn
    simp only [adel]
    by_cases h : a = k
    · subst h
      simp only [if_true, aget]
      split
      · rename_i e; subst e; exact aget_none.2 hn.1
      · rfl
    · rw [if_neg h]
      simp only [aget, ih hn.2]
      by_cases h2 : a = q
      · subst h2; simp; intro e; exact absurd e.symm h
      · simp [h2]
theorem length_aput (l : List (κ × ν)) (k : κ) (v : ν) : (aput l k v).length = if (aget l k).isSome then l.length else l.length + 1 := by
  induction l with
  | nil => simp [aput, aget]
  | cons p l ih =>
    obtain ⟨a, b⟩ := p
    simp only [aput, aget]
    by_cases h : a = k
    · simp [h]
    · simp only [if_neg h, List.length_cons, ih]; split <;> rfl
theorem length_adel (l : List (κ × ν)) (k : κ) : (adel l k).length = if (aget l k).isSome then l.length - 1 else l.length := by
  induction l with
  | nil => simp [adel, aget]
  | cons p l ih =>
    obtain ⟨a, b⟩ := p
    simp only [adel, aget]
    by_cases h : a = k
    · simp [h]
    · simp only [if_neg h, List.length_cons, ih]
      split
      · rename_i hs
        have : 0 < l.length := by
          cases l with
          | nil => simp [aget] at hs
          | cons => simp
        omega
      · rfl
theorem aput_map {μ : Type} (f : ν → μ) (l : List (κ × ν)) (k : κ) (v : ν) : (aput l k v).map (fun p => (p.1, f p.2)) = aput (l.map fun p => (p.1, f p.2)) k (f v) := by
  induction l with
  | nil => simp [aput]
  | cons p l ih => obtain ⟨a, b⟩ := p; simp only [aput, List.map_cons]; split <;> simp [ih]
theorem adel_map {μ : Type} (f : ν → μ) (l : List (κ × ν)) (k : κ) : (adel l k).map (fun p => (p.1, f p.2)) = adel (l.map fun p => (p.1, f p.2)) k := by
  induction l with
  | nil => simp [adel]
  | cons p l ih => obtain ⟨a, b⟩ := p; simp only [adel, List.map_cons]; split <;> simp [ih]
theorem aget_map {μ : Type} (f : ν → μ) (l : List (κ × ν)) (k : κ) : aget (l.map fun p => (p.1, f p.2)) k = (aget l k).map f := by
  induction l with
  | nil => simp [aget]
  | cons p l ih => obtain ⟨a, b⟩ := p; simp only [aget, List.map_cons]; split <;> simp [ih]
end

theorem map_eraseIdx' {α β : Type} (f : α → β) : ∀ (l : List α) (i : Nat), (l.eraseIdx i).map f = (l.map f).eraseIdx i
  | [], _ => rfl
  | _ :: _, 0 => rfl
  | a :: l, i + 1 => by simp [map_eraseIdx' f l i]

/-! ## maps -/
/-- How a key of Go lies as a value. -/
structure KeyEnc {κ : Type} (d : TypeDesc) (enc : κ → Value) : Prop where
  key : ∀ a, IsKey d (enc a)
  inj : ∀ a b, enc a = enc b → a = b

theorem keyEnc_string : KeyEnc .string Value.string := ⟨fun _ => trivial, fun _ _ h => by injection h⟩
theorem keyEnc_int (q : IntKind) : KeyEnc (.int q) (Value.int q) := ⟨fun _ => rfl, fun _ _ h => by injection h⟩
theorem KeyEnc.same {κ : Type} [DecidableEq κ] {d : TypeDesc} {enc : κ → Value} (K : KeyEnc d enc) (a b : κ) : Instr.sameNow d (enc a) (enc b) = some (decide (a = b)) := by
  obtain ⟨r, hr, hi⟩ := sameNow_of_keys (K.key a) (K.key b)
  rw [hr]
  by_cases h : a = b
  · subst h; simp [hi]
  · have : r = false := by
      cases r with
      | false => rfl
      | true => exact absurd (K.inj _ _ (hi.1 rfl)) h
    simp [this, h]

set_option linter.unusedSectionVars false
section
variable {κ : Type} [DecidableEq κ]
/-- Block b is a map that holds just these, in this order of coming. -/
def MapIs (enc : κ → Value) (w : World) (b : Nat) (kv : List (κ × Value)) : Prop :=
  ∃ es clock, w.heap[b]? = some (.map es clock) ∧ Stamped es clock ∧ es.toList.map (fun x => (x.key, x.val)) = kv.map (fun p => (enc p.1, p.2))

variable {enc : κ → Value} {w w' : World} {b : Nat} {kv : List (κ × Value)}
theorem MapIs.of_eq (h : MapIs enc w b kv) (e : w'.heap[b]? = w.heap[b]?) : MapIs enc w' b kv := by
  obtain ⟨es, clock, h1, h2⟩ := h
  exact ⟨es, clock, e.trans h1, h2⟩
theorem MapIs.lt (h : MapIs enc w b kv) : b < w.heap.size := by
  obtain ⟨es, clock, h1, _⟩ := h
  exact lt_of_block h1
theorem MapIs.only {S : List Nat} (h : MapIs enc w b kv) (k : Only S w w') (hn : b ∉ S) : MapIs enc w' b kv := h.of_eq (k.block b h.lt hn)
theorem MapIs.alloc (h : MapIs enc w b kv) (o : Obj) : MapIs enc (w.alloc o) b kv := h.of_eq (Below.heap_alloc _ _ _ h.lt)
theorem MapIs.drew (h : MapIs enc w b kv) : MapIs enc w.drew b kv := h
theorem MapIs.ne_blk {g : Nat} {t : TypeId} {cs : Array Value} (h : MapIs enc w b kv) (hg : Blk w g t cs) : b ≠ g := by
  obtain ⟨es, clock, h1, _⟩ := h
  exact fun e => hg.not_map h1 e.symm
theorem MapIs.setCell (h : MapIs enc w b kv) {p : Addr} (hp : b ≠ p.block) (u : Value) : MapIs enc (w.setCell p u) b kv := h.of_eq (Below.heap_setCell _ _ _ _ hp)
/-- A store into a cell that is there does not turn a map. -/
theorem MapIs.new (enc : κ → Value) (w : World) : MapIs enc (w.alloc (.map #[] 0)) w.heap.size [] := ⟨#[], 0, heap_alloc_new w _, stamped_empty 0, rfl⟩

theorem findNow_enc {d : TypeDesc} (K : KeyEnc d enc) (k : κ) : ∀ (es : List MapEntry) (kv : List (κ × Value)) (i : Nat), es.map (fun x => (x.key, x.val)) = kv.map (fun p => (enc p.1, p.2)) →
    (Instr.findNow d (enc k) es i = some none ∧ aget kv k = none ∧ (∀ x ∈ es, x.key ≠ enc k) ∧ (∀ v, aput kv k v = kv ++ [(k, v)]) ∧ adel kv k = kv) ∨
    ∃ j e v, Instr.findNow d (enc k) es i = some (some (i + j, v)) ∧ es[j]? = some e ∧ e.key = enc k ∧ e.val = v ∧ kv[j]? = some (k, v) ∧ aget kv k = some v ∧ (∀ v, aput kv k v = kv.set j (k, v)) ∧ adel kv k = kv.eraseIdx j
  | [], [], _, _ => .inl ⟨rfl, rfl, by simp, fun _ => rfl, rfl⟩
  | [], _ :: _, _, h => by simp at h
  | _ :: _, [], _, h => by simp at h
  | e :: es, (a, v) :: kv, i, h => by
    simp only [List.map_cons, List.cons.injEq, Prod.mk.injEq] at h
    obtain ⟨⟨h1, h2⟩, h3⟩ := h
    have hs := K.same k a
    rw [← h1] at hs
    by_cases hk : a = k
    · subst hk
      refine .inr ⟨0, e, v, ?_, rfl, h1, h2, rfl, by simp [aget], fun _ => by simp [aput], by simp [adel]⟩
      simp [Instr.findNow, hs, h2]
    · have hk' : ¬ k = a := fun e => hk e.symm
      have hs' : Instr.sameNow d (enc k) e.key = some false := by simp [hs, hk']
      have hne : e.key ≠ enc k := by
        intro q
        have := K.same k k
        rw [q] at hs'
        rw [hs'] at this
        simp at this
      rcases findNow_enc K k es kv (i + 1) h3 with ⟨p1, p2, p3, p4, p5⟩ | ⟨j, e', v', p1, p2, p3, p4, p5, p6, p7, p8⟩
      · refine .inl ⟨by simp [Instr.findNow, hs', p1], by simp [aget, hk, p2], ?_, fun u => by simp [aput, hk, p4], by simp [adel, hk, p5]⟩
        intro x hx
        cases hx with
        | head => exact hne
        | tail _ hx => exact p3 x hx
      · refine .inr ⟨j + 1, e', v', by simp [Instr.findNow, hs', p1]; omega, by simpa using p2, p3, p4, by simpa using p5, by simp [aget, hk, p6], fun u => by simp [aput, hk, p7], by simp [adel, hk, p8]⟩

variable {P : Program} {t k e : TypeId} {d : TypeDesc}
theorem MapIs.nodup (h : MapIs enc w b kv) : ANodup kv := by
  obtain ⟨es, clock, _, ⟨_, _, h3⟩, h4⟩ := h
  have e1 : es.toList.map (·.key) = (kv.map (·.1)).map enc := by
    have := congrArg (List.map Prod.fst) h4
    simpa [List.map_map, Function.comp_def] using this
  rw [e1] at h3
  unfold ANodup
  generalize kv.map (·.1) = l at h3
  induction l with
  | nil => simp
  | cons a l ih =>
    simp only [List.map_cons, List.nodup_cons] at h3
    exact List.nodup_cons.2 ⟨fun hm => h3.1 (List.mem_map.2 ⟨a, hm, rfl⟩), ih h3.2⟩

theorem MapIs.lookup (K : KeyEnc d enc) (ht : P.underlying t = some (.map k e)) (hk : P.underlying k = some d) {z : Value} (hz : (zeroValue e).run P w = .ok z w) (h : MapIs enc w b kv) (q : κ) (ok : Bool) :
    (Instr.lookup t (.map (some b)) (enc q) ok).run P w = .ok (if ok then .tuple #[(aget kv q).getD z, .bool (aget kv q).isSome] else (aget kv q).getD z) w := by
  obtain ⟨es, clock, hb, hs, hm⟩ := h
  rcases findNow_enc K q es.toList kv 0 hm with ⟨p1, p2, _⟩ | ⟨j, e', v, p1, _, _, _, _, p6, _⟩
  · cases ok <;> simp [Instr.lookup, run_underlying ht, MapKept.run_getObj_map hb, MapKept.run_checkKey hk (K.key q), MapKept.run_findKey hk p1, hz, p2, Result.andThen]
  · cases ok <;> simp [Instr.lookup, run_underlying ht, MapKept.run_getObj_map hb, MapKept.run_checkKey hk (K.key q), MapKept.run_findKey hk p1, p6, Result.andThen]

theorem MapIs.update (K : KeyEnc d enc) (ht : P.underlying t = some (.map k e)) (hk : P.underlying k = some d) (h : MapIs enc w b kv) (q : κ) (v : Value) :
    ∃ o, (Instr.mapUpdate t (.map (some b)) (enc q) v).run P w = .ok () (setBlock w b o) ∧ MapIs enc (setBlock w b o) b (aput kv q v) := by
  obtain ⟨es, clock, hb, hs, hm⟩ := h
  rcases findNow_enc K q es.toList kv 0 hm with ⟨p1, p2, p3, p4, _⟩ | ⟨j, e', v0, p1, p2, p3, p4, p5, _, p7, _⟩
  · refine ⟨.map (es.push { key := enc q, val := v, born := clock }) (clock + 1), ?_, _, _, heap_setBlock_same hb _, stamped_push hs p3, ?_⟩
    · simp [Instr.mapUpdate, run_underlying ht, MapKept.run_getObj_map hb, MapKept.run_checkKey hk (K.key q), MapKept.run_findKey hk p1, MapKept.run_setObj_map _ hb, Result.andThen, Go.ChangeMaps.setBlock]
    · rw [p4]; simp [hm]
  · have hj : es[j]? = some e' := by simpa using p2
    have hkey : ∀ x, es[j]? = some x → ({ x with key := enc q, val := v } : MapEntry).key = x.key := fun x hx => by rw [hj] at hx; cases hx; exact p3.symm
    refine ⟨.map (es.modify j fun x => { x with key := enc q, val := v }) clock, ?_, _, _, heap_setBlock_same hb _, stamped_modify hs j _ (fun _ _ => rfl) (fun x _ hx => hkey x hx), ?_⟩
    · simp [Instr.mapUpdate, run_underlying ht, MapKept.run_getObj_map hb, MapKept.run_checkKey hk (K.key q), MapKept.run_findKey hk p1, hj, p3, MapKept.run_keyThatStays (K.key q), MapKept.run_setObj_map _ hb, Result.andThen, Go.ChangeMaps.setBlock]
    · rw [p7]
      apply List.ext_getElem?
      intro i
      have hm' := congrArg (fun l => l[i]?) hm
      simp only [List.getElem?_map] at hm'
      simp only [List.getElem?_map, Array.getElem?_toList, Array.getElem?_modify, List.getElem?_set]
      by_cases e : j = i
      · subst e
        have hl : j < kv.length := (List.getElem?_eq_some_iff.1 p5).1
        simp [hj, hl]
      · rw [if_neg e, if_neg e]
        simpa using hm'

theorem MapIs.delete (K : KeyEnc d enc) (ht : P.underlying t = some (.map k e)) (hk : P.underlying k = some d) (h : MapIs enc w b kv) (q : κ) (ty : TypeId) :
    ∃ o, (Builtin.delete_ #[t, k] ty #[.map (some b), enc q]).run P w = .ok (.tuple #[]) (setBlock w b o) ∧ MapIs enc (setBlock w b o) b (adel kv q) := by
  obtain ⟨es, clock, hb, hs, hm⟩ := h
  rcases findNow_enc K q es.toList kv 0 hm with ⟨p1, _, _, _, p5⟩ | ⟨j, e', v0, p1, p2, _, _, _, _, _, p8⟩
  · refine ⟨.map es clock, ?_, _, _, heap_setBlock_same hb _, hs, ?_⟩
    · simp [Builtin.delete_, run_underlying ht, MapKept.run_getObj_map hb, MapKept.run_checkKey hk (K.key q), MapKept.run_findKey hk p1, MapKept.run_setObj_map _ hb, Result.andThen, Go.ChangeMaps.setBlock]
    · rw [p5]; exact hm
  · refine ⟨.map (es.eraseIdxIfInBounds j) clock, ?_, _, _, heap_setBlock_same hb _, stamped_erase hs j, ?_⟩
    · simp [Builtin.delete_, run_underlying ht, MapKept.run_getObj_map hb, MapKept.run_checkKey hk (K.key q), MapKept.run_findKey hk p1, MapKept.run_setObj_map _ hb, Result.andThen, Go.ChangeMaps.setBlock]
    · have hl : j < es.size := by have := (List.getElem?_eq_some_iff.1 p2).1; simpa using this
      rw [p8, map_eraseIdx', ← hm, ← map_eraseIdx']
      simp [Array.eraseIdxIfInBounds, hl]

theorem MapIs.len (ht : P.underlying t = some (.map k e)) (h : MapIs enc w b kv) (ty : TypeId) :
    (Builtin.len_ #[t] ty #[.map (some b)]).run P w = .ok (.int .i64 kv.length) w := by
  obtain ⟨es, clock, hb, _, hm⟩ := h
  have hl := congrArg List.length hm
  simp at hl
  simp [Builtin.len_, run_underlying ht, MapKept.run_getObj_map hb, Result.andThen, goInt, hl]

/-! the laws at the operation -/
variable {ops : Array Oper} {rest : List Oper} {o : Oper} {a : Act} {Q : Exit → Act → World → Prop}
theorem wpList_lookup_is (hg : o.guard = none) {m x : Operand} (t : TypeId) (hop : o.op = .lookup t m x false) (K : KeyEnc d enc) (ht : P.underlying t = some (.map k e)) (hk : P.underlying k = some d) {z : Value}
    (hz : (zeroValue e).run P w = .ok z w) (q : κ) (hm : a.eval m = .map (some b)) (hx : a.eval x = enc q) (h : MapIs enc w b kv) (v : Value) (hv : (aget kv q).getD z = v)
    (hK : wpList P ops Q rest (a.put o.dst v) w) : wpList P ops Q (o :: rest) a w := by
  refine wpList_plain hg fun K' hK' => ?_
  unfold Oper.wp
  simp only [execOp, hop, hm, hx, h.lookup K ht hk hz q false, Sem.run_bind, Sem.run_pure, Result.andThen_ok, hv]
  exact hK' _ _ hK
theorem wpList_lookup_ok_is (hg : o.guard = none) {m x : Operand} (t : TypeId) (hop : o.op = .lookup t m x true) (K : KeyEnc d enc) (ht : P.underlying t = some (.map k e)) (hk : P.underlying k = some d) {z : Value}
    (hz : (zeroValue e).run P w = .ok z w) (q : κ) (hm : a.eval m = .map (some b)) (hx : a.eval x = enc q) (h : MapIs enc w b kv) (v : Value) (is : Bool) (hv : (aget kv q).getD z = v) (hi : (aget kv q).isSome = is)
    (hK : wpList P ops Q rest (a.put o.dst (.tuple #[v, .bool is])) w) : wpList P ops Q (o :: rest) a w := by
  refine wpList_plain hg fun K' hK' => ?_
  unfold Oper.wp
  simp only [execOp, hop, hm, hx, h.lookup K ht hk hz q true, Sem.run_bind, Sem.run_pure, Result.andThen_ok, hv, hi]
  exact hK' _ _ hK
theorem wpList_update_is (hg : o.guard = none) {m x v : Operand} (t : TypeId) (hop : o.op = .mapUpdate t m x v) (K : KeyEnc d enc) (ht : P.underlying t = some (.map k e)) (hk : P.underlying k = some d)
    (q : κ) (val : Value) (hm : a.eval m = .map (some b)) (hx : a.eval x = enc q) (hv : a.eval v = val) (h : MapIs enc w b kv)
    (hK : ∀ w', MapIs enc w' b (aput kv q val) → Only [b] w w' → wpList P ops Q rest (a.put o.dst undef) w') : wpList P ops Q (o :: rest) a w := by
  refine wpList_plain hg fun K' hK' => ?_
  obtain ⟨o', hrun, r1⟩ := h.update K ht hk q val
  unfold Oper.wp
  simp [execOp, hop, hm, hx, hv, hrun, Result.andThen]
  exact hK' _ _ (hK _ r1 ((Only.refl _ w).setBlock (.inl (by simp)) _))
theorem wpList_delete_is (hg : o.guard = none) {m x : Operand} (t k : TypeId) (hop : o.op = .call { callee := .builtin .delete, args := #[m, x], argTypes := #[t, k] }) (K : KeyEnc d enc) (ht : P.underlying t = some (.map k e)) (hk : P.underlying k = some d)
    (q : κ) (hm : a.eval m = .map (some b)) (hx : a.eval x = enc q) (h : MapIs enc w b kv)
    (hK : ∀ w', MapIs enc w' b (adel kv q) → Only [b] w w' → wpList P ops Q rest (a.put o.dst (.tuple #[])) w') : wpList P ops Q (o :: rest) a w := by
  refine wpList_plain hg fun K' hK' => ?_
  obtain ⟨o', hrun, r1⟩ := h.delete K ht hk q o.type
  unfold Oper.wp
  simp [execOp, hop, resolve, invoke, builtin, hm, hx, hrun, Result.andThen]
  exact hK' _ _ (hK _ r1 ((Only.refl _ w).setBlock (.inl (by simp)) _))
theorem wpList_len_is (hg : o.guard = none) {m : Operand} (t : TypeId) (hop : o.op = .call { callee := .builtin .len, args := #[m], argTypes := #[t] }) (ht : P.underlying t = some (.map k e))
    (hm : a.eval m = .map (some b)) (h : MapIs enc w b kv) (hK : wpList P ops Q rest (a.put o.dst (.int .i64 kv.length)) w) : wpList P ops Q (o :: rest) a w := by
  refine wpList_plain hg fun K' hK' => ?_
  unfold Oper.wp
  simp [execOp, hop, resolve, invoke, builtin, hm, h.len ht o.type, Result.andThen]
  exact hK' _ _ hK
end

end Go.Proofs.YtfjkjndpndjfpaaGreatDoor
/- Slices that are read, in whatever world; slices in memory that stays. No program is named. -/
set_option linter.unusedVariables false
set_option linter.unusedSimpArgs false
namespace Go.Proofs.YtfjkjndpndjfpaaGreatDoor
open Go.RowKit
/-! ## slices that are only read -/
/-- v is a slice of n elements, size cells each, that holds the cells cs. -/
def Slc (w : World) (size : Nat) (v : Value) (n : Nat) (cs : List Value) : Prop :=
  ∃ A cap, v = .slice A n cap ∧ cs.length = n * size ∧ n ≤ cap ∧ cap ≤ maxLen ∧ (0 < n → ∃ b off, A = some ⟨b, off, none⟩ ∧ b < w.heap.size ∧ ∀ j, j < cs.length → w.cell? ⟨b, off + j, none⟩ = cs[j]?)
section
variable {w w' : World} {size n : Nat} {v : Value} {cs : List Value}
theorem Slc.keep (h : Slc w size v n cs) (hs : w.heap.size ≤ w'.heap.size) (hk : ∀ g, v.ownBlock = some g → g < w.heap.size → w'.heap[g]? = w.heap[g]?) : Slc w' size v n cs := by
  obtain ⟨A, cap, rfl, h1, h2, h3, h4⟩ := h
  refine ⟨A, cap, rfl, h1, h2, h3, fun hn => ?_⟩
  obtain ⟨b, off, rfl, hb, hc⟩ := h4 hn
  exact ⟨b, off, rfl, by omega, fun j hj => (World.cell?_of_block (hk b rfl hb)).trans (hc j hj)⟩
theorem Slc.only {S : List Nat} (h : Slc w size v n cs) (k : Only S w w') (hn : ∀ g, v.ownBlock = some g → g ∉ S) : Slc w' size v n cs :=
  h.keep k.size fun g hg hl => k.block g hl (hn g hg)
theorem Slc.nil (w : World) (size : Nat) : Slc w size (.slice none 0 0) 0 [] := ⟨none, 0, rfl, by simp, Nat.le_refl _, by simp [maxLen], fun h => absurd h (by omega)⟩
theorem Slc.of_own {base : Nat} {e : TypeId} (h : w.ownsRow base e size v n cs) : Slc w size v n cs ∧ ∀ g, v.ownBlock = some g → base ≤ g ∧ g < w.heap.size := by
  refine ⟨?_, h.lt⟩
  obtain ⟨h1, h2⟩ := h
  rcases h2 with ⟨rfl, rfl⟩ | ⟨g, cap, cur, rfl, hb, hg, hn, hc, hs, ht⟩
  · exact ⟨none, 0, rfl, h1, Nat.le_refl _, by simp [maxLen], fun h => absurd h (by omega)⟩
  · refine ⟨some ⟨g, 0, none⟩, cap, rfl, h1, hn, hc, fun _ => ⟨g, 0, rfl, lt_of_block hg, fun j hj => ?_⟩⟩
    rw [cell_of_row w g _ cur e (0, 0) hg, ← ht]
    have hj2 : j < n * size := by omega
    simp [hj2]
end

theorem Slc.cell {w : World} {size n : Nat} {v : Value} {cs : List Value} (h : Slc w size v n cs) : ∃ A cap, v = .slice A n cap ∧ n ≤ cap ∧ cap ≤ maxLen ∧ cs.length = n * size ∧ (n = 0 ∨ ∃ b off, A = some ⟨b, off, none⟩ ∧ b < w.heap.size ∧ ∀ j, j < cs.length → w.cell? ⟨b, off + j, none⟩ = cs[j]?) := by
  obtain ⟨A, cap, hv, h1, h2, h3, h4⟩ := h
  refine ⟨A, cap, hv, h2, h3, h1, ?_⟩
  rcases Nat.eq_zero_or_pos n with h0 | h0
  · exact .inl h0
  · exact .inr (h4 h0)

def ints (l : List Int) : List Value := l.map (Value.int .i64)
def strs (l : List ByteArray) : List Value := l.map Value.string
theorem flat_len {E : Type} (cells : E → List Value) (k : Nat) : ∀ (os : List E), (∀ o ∈ os, (cells o).length = k) → (os.flatMap cells).length = os.length * k
  | [], _ => by simp
  | o :: os, h => by
    rw [List.flatMap_cons, List.length_append, flat_len cells k os (fun x hx => h x (by simp [hx])), h o (by simp), List.length_cons, Nat.add_mul]
    omega
theorem flat_get {E : Type} (cells : E → List Value) (k : Nat) : ∀ (os : List E), (∀ o ∈ os, (cells o).length = k) → ∀ (i r : Nat) (hi : i < os.length), r < k → (os.flatMap cells)[i * k + r]? = (cells os[i])[r]?
  | [], _, _, _, hi, _ => absurd hi (Nat.not_lt_zero _)
  | o :: os, h, 0, r, _, hr => by
    rw [List.flatMap_cons, Nat.zero_mul, Nat.zero_add, List.getElem?_append_left (by rw [h o (by simp)]; exact hr)]
    rfl
  | o :: os, h, i + 1, r, hi, hr => by
    rw [List.flatMap_cons, List.getElem?_append_right (by rw [h o (by simp), Nat.add_mul]; omega), h o (by simp)]
    have : (i + 1) * k + r - k = i * k + r := by rw [Nat.add_mul]; omega
    rw [this, flat_get cells k os (fun x hx => h x (by simp [hx])) i r (by simpa using hi) hr]
    rfl
theorem own_only {S : List Nat} {w w' : World} {base size n : Nat} {e : TypeId} {v : Value} {xs : List Value} (h : w.ownsRow base e size v n xs) (k : Only S w w') (hn : ∀ g, v.ownBlock = some g → g ∉ S) : w'.ownsRow base e size v n xs := by
  obtain ⟨h1, h2⟩ := h
  rcases h2 with ⟨rfl, rfl⟩ | ⟨g, cap, cur, rfl, hb, hg, q⟩
  · exact ⟨h1, .inl ⟨rfl, rfl⟩⟩
  · exact ⟨h1, .inr ⟨g, cap, cur, rfl, hb, (k.block g (lt_of_block hg) (hn g rfl)).trans hg, q⟩⟩

/-- An opened slice of elements of k cells. -/
theorem Slc.openE {E : Type} {w : World} {v : Value} {k : Nat} {os : List E} (cells : E → List Value) (hk : ∀ o, (cells o).length = k) (h : Slc w k v os.length (os.flatMap cells)) :
    ∃ A cap, v = .slice A os.length cap ∧ os.length ≤ cap ∧ cap ≤ maxLen ∧ ∀ j (hj : j < os.length), ∃ b off, A = some ⟨b, off, none⟩ ∧ b < w.heap.size ∧ ∀ r, r < k → w.cell? ⟨b, off + j * k + r, none⟩ = (cells os[j])[r]? := by
  obtain ⟨A, cap, hv, h2, h3, h4, h5⟩ := h.cell
  refine ⟨A, cap, hv, h2, h3, fun j hj => ?_⟩
  rcases h5 with h5 | ⟨b, off, h5, h6, h7⟩
  · omega
  · refine ⟨b, off, h5, h6, fun r hr => ?_⟩
    have hlt : j * k + r < os.length * k := by
      have : (j + 1) * k ≤ os.length * k := Nat.mul_le_mul_right k hj
      rw [Nat.add_mul] at this
      omega
    rw [Nat.add_assoc, h7 _ (by rw [h4]; exact hlt)]
    exact flat_get cells k os (fun o _ => hk o) j r hj hr
theorem Slc.openI {w : World} {v : Value} {zs : List Int} (h : Slc w 1 v zs.length (ints zs)) :
    ∃ A cap, v = .slice A zs.length cap ∧ zs.length ≤ cap ∧ cap ≤ maxLen ∧ ∀ j (hj : j < zs.length), ∃ b off, A = some ⟨b, off, none⟩ ∧ b < w.heap.size ∧ w.cell? ⟨b, off + j, none⟩ = some (.int .i64 zs[j]) := by
  obtain ⟨A, cap, hv, h2, h3, h4, h5⟩ := h.cell
  refine ⟨A, cap, hv, h2, h3, fun j hj => ?_⟩
  rcases h5 with h5 | ⟨b, off, h5, h6, h7⟩
  · omega
  · refine ⟨b, off, h5, h6, ?_⟩
    rw [h7 j (by simpa [ints] using hj)]
    simp [ints, hj]
theorem Slc.openS {w : World} {v : Value} {ss : List ByteArray} (h : Slc w 1 v ss.length (strs ss)) :
    ∃ A cap, v = .slice A ss.length cap ∧ ss.length ≤ cap ∧ cap ≤ maxLen ∧ ∀ j (hj : j < ss.length), ∃ b off, A = some ⟨b, off, none⟩ ∧ b < w.heap.size ∧ w.cell? ⟨b, off + j, none⟩ = some (.string ss[j]) := by
  obtain ⟨A, cap, hv, h2, h3, h4, h5⟩ := h.cell
  refine ⟨A, cap, hv, h2, h3, fun j hj => ?_⟩
  rcases h5 with h5 | ⟨b, off, h5, h6, h7⟩
  · omega
  · refine ⟨b, off, h5, h6, ?_⟩
    rw [h7 j (by simpa [strs] using hj)]
    simp [strs, hj]
theorem Slc.only0 {w w' : World} {size n : Nat} {v : Value} {cs : List Value} (h : Slc w size v n cs) (k : Only [] w w') : Slc w' size v n cs := h.only k (by simp)

/-! ## slices in memory that stays: M are the blocks that may turn -/
def Rd (M : List Nat) (w : World) (size : Nat) (v : Value) (n : Nat) (cs : List Value) : Prop := Slc w size v n cs ∧ ∀ g, v.ownBlock = some g → (g ∉ M ∧ g < w.heap.size) ∨ n = 0
section
variable {M M' S : List Nat} {w w' : World} {size n : Nat} {v : Value} {cs : List Value}
theorem Slc.empty {w' : World} (h : Slc w size v 0 cs) : Slc w' size v 0 cs := by
  obtain ⟨A, cap, hv, h1, h2, h3, h4⟩ := h
  exact ⟨A, cap, hv, h1, h2, h3, fun q => absurd q (Nat.lt_irrefl _)⟩
theorem Rd.only (h : Rd M w size v n cs) (k : Only S w w') (hS : ∀ g ∈ S, g ∈ M) : Rd M w' size v n cs := by
  obtain ⟨h1, h2⟩ := h
  rcases Nat.eq_zero_or_pos n with h0 | h0
  · subst h0
    exact ⟨h1.empty, fun g hg => .inr rfl⟩
  · refine ⟨h1.only k fun g hg q => ?_, fun g hg => ?_⟩
    · rcases h2 g hg with q2 | q2
      · exact q2.1 (hS g q)
      · omega
    · rcases h2 g hg with q2 | q2
      · exact .inl ⟨q2.1, Nat.lt_of_lt_of_le q2.2 k.size⟩
      · omega
theorem Rd.only0 (h : Rd M w size v n cs) (k : Only [] w w') : Rd M w' size v n cs := h.only k (by simp)
theorem Rd.ext (h : Rd M w size v n cs) (hm : ∀ g ∈ M', g ∈ M ∨ w.heap.size ≤ g) : Rd M' w size v n cs :=
  ⟨h.1, fun g hg => (h.2 g hg).imp (fun q => ⟨fun q2 => (hm g q2).elim q.1 (fun q3 => by omega), q.2⟩) id⟩
theorem Rd.nil (M : List Nat) (w : World) (size : Nat) : Rd M w size (.slice none 0 0) 0 [] := ⟨Slc.nil w size, fun g hg => by cases hg⟩
end
end Go.Proofs.YtfjkjndpndjfpaaGreatDoor
/- All streams as plain data: what each method of model.State answers and leaves, as functions on lists. No program is named. -/
set_option linter.unusedVariables false
set_option linter.unusedSimpArgs false
namespace Go.Proofs.YtfjkjndpndjfpaaGreatDoor
open Go.RowKit

structure EventR where
  id : Int
  type : ByteArray
  data : ByteArray
  value : Nat
structure MetaR where
  maxCount : Int
  maxAge : Int
  before : Int
deriving DecidableEq
structure Cmd where
  kind : Int
  time : Int
  stream : ByteArray
  expected : Int
  events : List EventR
  mt : MetaR
structure StoredR where
  ev : EventR
  stream : ByteArray
  version : Int
  position : Int
  time : Int
structure StreamR where
  places : List Int
  mt : MetaR
  floor : Int
  deleted : Bool
structure MS where
  all : List StoredR
  m : List (ByteArray × StreamR)
  done : Int
  now : Int
structure Ans where
  err : Int
  version : Int
  position : Int
  again : Bool
deriving DecidableEq
def MetaR.zero : MetaR := ⟨0, 0, 0⟩
def StreamR.zero : StreamR := ⟨[], MetaR.zero, 0, false⟩
def Ans.ok : Ans := ⟨0, 0, 0, false⟩
def EventR.cells (e : EventR) : List Value := [.int .i64 e.id, .string e.type, .string e.data, .float .f64 e.value]
def StoredR.cells (s : StoredR) : List Value := s.ev.cells ++ [.string s.stream, .int .i64 s.version, .int .i64 s.position, .int .i64 s.time]
def MetaR.cells (m : MetaR) : List Value := [.int .i64 m.maxCount, .int .i64 m.maxAge, .int .i64 m.before]
def StreamR.val (x : StreamR) (pv : Value) : Value := .agg #[pv, .int .i64 x.mt.maxCount, .int .i64 x.mt.maxAge, .int .i64 x.mt.before, .int .i64 x.floor, .bool x.deleted]
def Cmd.val (c : Cmd) (ev : Value) : Value := .agg #[.int .i64 c.kind, .int .i64 c.time, .string c.stream, .int .i64 c.expected, ev, .int .i64 c.mt.maxCount, .int .i64 c.mt.maxAge, .int .i64 c.mt.before]
def Ans.val (a : Ans) : Value := .agg #[.int .i64 a.err, .int .i64 a.version, .int .i64 a.position, .bool a.again]
def EventR.val (e : EventR) : Value := .agg #[.int .i64 e.id, .string e.type, .string e.data, .float .f64 e.value]
def MetaR.val (m : MetaR) : Value := .agg #[.int .i64 m.maxCount, .int .i64 m.maxAge, .int .i64 m.before]

/-! ## which commands may be -/
def okByte (b : UInt8) : Bool := !(decide ((b.toNat : Int) < 33) || decide (126 < (b.toNat : Int)) || decide ((b.toNat : Int) = 64))
def nameOk (s : ByteArray) : Bool := decide (1 ≤ s.size) && decide (s.size ≤ 60) && s.data.toList.all okByte
def within (n : Int) : Bool := decide (0 ≤ n) && decide (n ≤ 1099511627776)
def expects (n : Int) : Bool := within n || decide (n = -1) || decide (n = -2) || decide (n = -4)
def MetaR.ok (m : MetaR) : Bool := within m.maxCount && within m.maxAge && within m.before
def EventR.ok (e : EventR) : Bool := decide (1 ≤ e.id) && nameOk e.type && decide (e.data.size ≤ 200)
def eventsE (l : List EventR) : Int := if l.length = 0 then 1 else if 8 < l.length then 2 else if l.all EventR.ok then 0 else 1
def Cmd.spare (c : Cmd) : Bool :=
  (decide (c.kind ≠ 1 ∧ c.kind ≠ 2 ∧ c.kind ≠ 3) && decide (c.stream.toList ≠ [])) || (decide (c.kind ≠ 1 ∧ c.kind ≠ 3) && decide (c.expected ≠ 0)) ||
    (decide (c.kind ≠ 1) && decide (0 < c.events.length)) || (decide (c.kind ≠ 2) && decide (c.mt ≠ MetaR.zero))
def Cmd.check (c : Cmd) : Int :=
  if c.kind < 1 ∨ 5 < c.kind ∨ within c.time = false then 1
  else if c.kind ≤ 3 ∧ nameOk c.stream = false then 1
  else if c.kind = 1 ∧ eventsE c.events ≠ 0 then eventsE c.events
  else if (c.kind = 1 ∨ c.kind = 3) ∧ expects c.expected = false then 1
  else if c.kind = 2 ∧ c.mt.ok = false then 1
  else if c.spare then 1 else 0

/-! ## what is seen -/
def young (age now : Int) : List Int → Int
  | [] => 0
  | t :: l => if now - age < t then 0 else 1 + young age now l
def floorE (m : MetaR) (floor now : Int) (times : List Int) : Int :=
  let o1 := max (max floor 0) m.before
  let o2 := if 0 < m.maxCount then max o1 (times.length - m.maxCount) else o1
  let o3 := if 0 < m.maxAge then max o2 (young m.maxAge now times) else o2
  min o3 times.length
def timeAt (all : List StoredR) (p : Int) : Int := ((all[p.toNat]?).map (·.time)).getD 0
def idAt (all : List StoredR) (p : Int) : Int := ((all[p.toNat]?).map (·.ev.id)).getD 0
def times (all : List StoredR) (x : StreamR) : List Int := x.places.map (timeAt all)
namespace MS
def new : MS := ⟨[], [], 0, 0⟩
def find (s : MS) (n : ByteArray) : StreamR := (aget s.m n).getD StreamR.zero
def floorOf (s : MS) (x : StreamR) : Int := floorE x.mt x.floor s.now (times s.all x)
def put (s : MS) (n : ByteArray) (x : StreamR) : MS := { s with m := aput s.m n x }
def keep (s : MS) (n : ByteArray) (x : StreamR) : MS := s.put n { x with floor := s.floorOf x }
end MS
def expected (want count : Int) : Bool := if want = -2 then true else if want = -1 then decide (count = 0) else if want = -4 then decide (0 < count) else decide (want = count - 1)
def wrong (x : StreamR) : Ans := ⟨22, x.places.length - 1, 0, false⟩
def firstOf (all : List StoredR) (id : Int) : List Int → Int → Int
  | [], _ => -1
  | p :: l, k => if idAt all p = id then k else firstOf all id l (k + 1)
def MS.first (s : MS) (x : StreamR) (id : Int) : Int := firstOf s.all id x.places 0
def fitsAgain (c : Cmd) (v : Int) : Bool := decide (c.expected = -2) || decide (c.expected = -4) || (decide (c.expected = v - 1) && decide (0 < v)) || (decide (c.expected = -1) && decide (v = 0))
def sameIds (all : List StoredR) : List EventR → List Int → Bool
  | [], _ => true
  | _ :: _, [] => false
  | e :: l, p :: ps => decide (idAt all p = e.id) && sameIds all l ps
def MS.again (s : MS) (c : Cmd) (x : StreamR) (v : Int) : Ans :=
  if fitsAgain c v = false ∨ x.places.length - v < c.events.length then wrong x
  else if sameIds s.all c.events (x.places.drop v.toNat) then ⟨0, v, (x.places[(v + c.events.length - 1).toNat]?).getD 0, true⟩ else wrong x
def isNaN (b : Nat) : Bool := FloatKind.f64.format.order b b != some Ordering.eq
def canon (b : Nat) : Nat := if isNaN b then 9221120237041090560 else b
def EventR.canon (e : EventR) : EventR := { e with value := Proofs.YtfjkjndpndjfpaaGreatDoor.canon e.value }
/-- The events as they are stored: behind all, in the stream. -/
def storedOf (stream : ByteArray) (now : Int) : List EventR → Int → Int → List StoredR
  | [], _, _ => []
  | e :: l, v, at_ => ⟨e.canon, stream, v, at_, now⟩ :: storedOf stream now l (v + 1) (at_ + 1)
def rangeFrom : Nat → Int → List Int
  | 0, _ => []
  | n + 1, a => a :: rangeFrom n (a + 1)
def MS.append (s : MS) (c : Cmd) (x : StreamR) : Ans × StreamR × MS :=
  (⟨0, x.places.length, s.all.length + c.events.length - 1, false⟩, { x with places := x.places ++ rangeFrom c.events.length s.all.length },
    { s with all := s.all ++ storedOf c.stream s.now c.events x.places.length s.all.length })
def MS.act (s : MS) (c : Cmd) (x : StreamR) : Ans × StreamR × MS :=
  let here : Ans := ⟨0, x.places.length, s.all.length, false⟩
  if c.kind = 2 then (here, { x with mt := c.mt }, s)
  else if c.kind = 3 then (if expected c.expected x.places.length then (here, { x with deleted := true }, s) else (wrong x, x, s))
  else
    let v := s.first x ((c.events.head?).map (·.id) |>.getD 0)
    if 0 ≤ v then (s.again c x v, x, s)
    else if expected c.expected x.places.length then s.append c x else (wrong x, x, s)
def MS.tick (s : MS) (t : Int) : MS := { s with now := max s.now t, done := s.done + 1 }
def MS.do (s : MS) (c : Cmd) : Ans × MS :=
  if c.check ≠ 0 then (⟨c.check, 0, 0, false⟩, s)
  else
    let s1 := s.tick c.time
    if c.kind = 4 ∨ c.kind = 5 then (⟨0, 0, s.all.length, false⟩, s1)
    else
      let x := s1.find c.stream
      if x.deleted then (⟨23, 0, 0, false⟩, s1)
      else
        let r := s1.act c { x with floor := s1.floorOf x }
        (r.1, r.2.2.keep c.stream r.2.1)
end Go.Proofs.YtfjkjndpndjfpaaGreatDoor
/- Links, plain: names, targets, what a target wants. No program is named. -/
set_option linter.unusedVariables false
set_option linter.unusedSimpArgs false
namespace Go.Proofs.YtfjkjndpndjfpaaGreatDoor
open Go.RowKit
def ba (l : List UInt8) : ByteArray := ⟨l.toArray⟩
theorem ba_bts (s : ByteArray) : ba s.data.toList = s := rfl
theorem bts_ba (l : List UInt8) : (ba l).data.toList = l := by simp [ba]
theorem ba_inj {a b : List UInt8} (h : ba a = ba b) : a = b := by rw [← bts_ba a, h, bts_ba]
theorem ba_eq {s : ByteArray} {l : List UInt8} : s = ba l ↔ s.data.toList = l := ⟨fun h => by rw [h, bts_ba], fun h => by rw [← h]; rfl⟩
theorem bts_inj {a b : ByteArray} (h : a.data.toList = b.data.toList) : a = b := by rw [← ba_bts a, h, ba_bts]
def ceP : List UInt8 := [36, 99, 101, 45]
def etP : List UInt8 := [36, 101, 116, 45]
def linkT : List UInt8 := [36, 62]
def sysL (l : List UInt8) : Bool := List.isPrefixOf [36] l
def isSys (s : ByteArray) : Bool := sysL s.data.toList
def preOf (b : UInt8) (l : List UInt8) : List UInt8 := l.takeWhile (fun x => x != b)
def cat (s : ByteArray) : Option ByteArray := if nameOk s = true ∧ isSys s = false ∧ (45 : UInt8) ∈ s.data.toList ∧ preOf 45 s.data.toList ≠ [] then some (ba (preOf 45 s.data.toList)) else none
def catB (t : List UInt8) : Bool := ceP.isPrefixOf t && (decide (t.drop 4 ≠ []) && !sysL (t.drop 4) && !decide ((45 : UInt8) ∈ t.drop 4))
def typB (t : List UInt8) : Bool := etP.isPrefixOf t && (nameOk (ba (t.drop 4)) && decide (t.drop 4 ≠ linkT))
def isTarget (t : ByteArray) : Bool := nameOk t && (catB t.data.toList || typB t.data.toList)
def ofCat (c : ByteArray) : ByteArray := ba (ceP ++ c.data.toList)
def ofTyp (c : ByteArray) : ByteArray := ba (etP ++ c.data.toList)
def targetsOf (s : StoredR) : List ByteArray := if isSys s.stream = true ∨ s.ev.type.data.toList = linkT then [] else ((cat s.stream).toList.map ofCat ++ [ofTyp s.ev.type]).filter isTarget
def wantsT (t : ByteArray) (s : StoredR) : Bool := (targetsOf s).any (fun x => decide (x = t))
theorem wantsT_iff {t : ByteArray} {s : StoredR} : wantsT t s = true ↔ t ∈ targetsOf s := by
  unfold wantsT
  rw [List.any_eq_true]
  constructor
  · rintro ⟨x, hx, h⟩
    rw [← of_decide_eq_true h]
    exact hx
  · exact fun h => ⟨t, h, decide_eq_true rfl⟩
/-- What the laws say. -/
def wantsL (t : ByteArray) (s : StoredR) : Bool :=
  nameOk t && decide (5 ≤ t.size) && !isSys s.stream && !decide (s.ev.type.data.toList = linkT) &&
    ((decide (t.data.toList.take 4 = ceP) && decide (cat s.stream = some (ba (t.data.toList.drop 4)))) || (decide (t.data.toList.take 4 = etP) && decide (s.ev.type.data.toList = t.data.toList.drop 4)))
theorem nameOk_size {s : ByteArray} (h : nameOk s = true) : 1 ≤ s.size ∧ s.size ≤ 60 := by
  simp [nameOk] at h
  exact ⟨h.1.1, h.1.2⟩
theorem nameOk_all {s : ByteArray} (h : nameOk s = true) : ∀ b ∈ s.data.toList, okByte b = true := by
  unfold nameOk at h
  rw [Bool.and_eq_true, List.all_eq_true] at h
  exact h.2
theorem nameOk_of {s : ByteArray} (h1 : 1 ≤ s.data.toList.length) (h2 : s.data.toList.length ≤ 60) (h3 : ∀ b ∈ s.data.toList, okByte b = true) : nameOk s = true := by
  have e : s.data.toList.length = s.size := by simp
  unfold nameOk
  rw [decide_eq_true (by omega : 1 ≤ s.size), decide_eq_true (by omega : s.size ≤ 60), Bool.true_and, Bool.true_and, List.all_eq_true]
  exact h3
theorem pre_prefix (p l : List UInt8) : p.isPrefixOf (p ++ l) = true := by
  rw [List.isPrefixOf_iff_prefix]
  exact List.prefix_append _ _
theorem pre_take {p t : List UInt8} (h : p.isPrefixOf t = true) : t.take p.length = p := by
  rw [List.isPrefixOf_iff_prefix] at h
  exact (List.prefix_iff_eq_take.1 h).symm
theorem sysL_takeWhile {l : List UInt8} {f : UInt8 → Bool} (h : sysL l = false) : sysL (l.takeWhile f) = false := by
  cases l with
  | nil => rfl
  | cons a l =>
    simp only [sysL, List.isPrefixOf, Bool.and_true, beq_eq_false_iff_ne] at h
    rw [List.takeWhile_cons]
    split
    · simp only [sysL, List.isPrefixOf, Bool.and_true, beq_eq_false_iff_ne]
      exact h
    · rfl
theorem not_mem_pre (b : UInt8) (l : List UInt8) : b ∉ preOf b l := by
  intro h
  unfold preOf at h
  induction l with
  | nil => simp at h
  | cons a l ih =>
    rw [List.takeWhile_cons] at h
    split at h
    · rename_i q
      rcases List.mem_cons.1 h with h | h
      · subst h
        simp at q
      · exact ih h
    · simp at h
theorem cat_some {s c : ByteArray} (h : cat s = some c) : nameOk s = true ∧ isSys s = false ∧ (45 : UInt8) ∈ s.data.toList ∧ c = ba (preOf 45 s.data.toList) ∧ c.data.toList ≠ [] := by
  unfold cat at h
  split at h
  · rename_i q
    injection h with h
    subst h
    exact ⟨q.1, q.2.1, q.2.2.1, rfl, by rw [bts_ba]; exact q.2.2.2⟩
  · cases h
theorem cat_good {s c : ByteArray} (h : cat s = some c) : c.data.toList ≠ [] ∧ sysL c.data.toList = false ∧ (45 : UInt8) ∉ c.data.toList := by
  obtain ⟨h1, h2, h3, h4, h5⟩ := cat_some h
  refine ⟨h5, ?_, ?_⟩
  · rw [h4, bts_ba]
    exact sysL_takeWhile h2
  · rw [h4, bts_ba]
    exact not_mem_pre _ _
theorem wants_eq (t : ByteArray) (s : StoredR) : wantsT t s = wantsL t s := by
  have hlen : t.data.toList.length = t.size := by simp
  rw [Bool.eq_iff_iff]
  rw [wantsT_iff]
  unfold targetsOf
  by_cases hs : isSys s.stream = true ∨ s.ev.type.data.toList = linkT
  · rw [if_pos hs]
    constructor
    · intro h; cases h
    · intro h
      simp only [wantsL, Bool.and_eq_true, Bool.not_eq_true', decide_eq_false_iff_not] at h
      rcases hs with q | q
      · rw [q] at h; simp at h
      · exact absurd q h.1.2
  · rw [if_neg hs]
    obtain ⟨hs1, hs2⟩ := not_or.1 hs
    have hs1 : isSys s.stream = false := by simpa using hs1
    rw [List.mem_filter, List.mem_append, List.mem_map, List.mem_singleton]
    unfold wantsL
    rw [hs1]
    simp only [Bool.and_eq_true, Bool.or_eq_true, decide_eq_true_eq, Bool.not_false, Bool.not_eq_true', decide_eq_false_iff_not, hs2, not_false_eq_true, and_true, true_and]
    constructor
    · rintro ⟨h1, h2⟩
      unfold isTarget at h2
      rw [Bool.and_eq_true, Bool.or_eq_true] at h2
      obtain ⟨h2, h3⟩ := h2
      rcases h1 with ⟨c, hc, rfl⟩ | rfl
      · have hc : cat s.stream = some c := by simpa using hc
        obtain ⟨g1, g2, g3⟩ := cat_good hc
        have e : (ofCat c).data.toList = ceP ++ c.data.toList := bts_ba _
        have hl : 1 ≤ c.data.toList.length := by
          cases hq : c.data.toList with
          | nil => exact absurd hq g1
          | cons _ _ => simp
        refine ⟨⟨h2, ?_⟩, .inl ⟨?_, ?_⟩⟩
        · rw [← hlen, e, List.length_append]
          simp [ceP] at hl ⊢
          omega
        · rw [e, List.take_append_of_le_length (by simp [ceP])]
          rfl
        · rw [hc, e]
          rfl
      · have e : (ofTyp s.ev.type).data.toList = etP ++ s.ev.type.data.toList := bts_ba _
        rw [e] at h3
        have ht : typB (etP ++ s.ev.type.data.toList) = true := by
          rcases h3 with q | q
          · unfold catB at q
            rw [Bool.and_eq_true] at q
            have := q.1
            simp [ceP, etP, List.isPrefixOf] at this
          · exact q
        unfold typB at ht
        simp only [Bool.and_eq_true] at ht
        have hn := ht.2.1
        have e2 : (etP ++ s.ev.type.data.toList).drop 4 = s.ev.type.data.toList := rfl
        rw [e2, ba_bts] at hn
        have hz := (nameOk_size hn).1
        refine ⟨⟨h2, ?_⟩, .inr ⟨?_, ?_⟩⟩
        · rw [← hlen, e, List.length_append]
          have : s.ev.type.data.toList.length = s.ev.type.size := by simp
          simp only [etP, List.length_cons, List.length_nil]
          omega
        · rw [e]
          rfl
        · rw [e]
          rfl
    · rintro ⟨⟨h1, h2⟩, h3⟩
      have htd : t.data.toList = t.data.toList.take 4 ++ t.data.toList.drop 4 := (List.take_append_drop 4 _).symm
      rcases h3 with ⟨h3, h4⟩ | ⟨h3, h4⟩
      · obtain ⟨g1, g2, g3⟩ := cat_good h4
        rw [bts_ba] at g1 g2 g3
        refine ⟨.inl ⟨ba (t.data.toList.drop 4), by simpa using h4, ?_⟩, ?_⟩
        · unfold ofCat
          rw [bts_ba, ← h3, List.take_append_drop, ba_bts]
        · unfold isTarget catB
          rw [h1, decide_eq_true g1, g2, decide_eq_false g3]
          have : ceP.isPrefixOf t.data.toList = true := by
            rw [htd, h3]
            exact pre_prefix _ _
          rw [this]
          rfl
      · refine ⟨.inr ?_, ?_⟩
        · unfold ofTyp
          rw [h4, ← h3, List.take_append_drop, ba_bts]
        · have hn : nameOk (ba (t.data.toList.drop 4)) = true := by
            refine nameOk_of ?_ ?_ ?_
            · rw [bts_ba, List.length_drop]
              omega
            · rw [bts_ba, List.length_drop]
              have := (nameOk_size h1).2
              omega
            · intro b hb
              rw [bts_ba] at hb
              exact nameOk_all h1 b (List.mem_of_mem_drop hb)
          have hp : etP.isPrefixOf t.data.toList = true := by
            rw [htd, h3]
            exact pre_prefix _ _
          unfold isTarget typB
          rw [h1, hn, hp, decide_eq_true (by rw [← h4]; exact hs2)]
          simp
theorem wantsL_sys {t : ByteArray} {s : StoredR} (h : wantsL t s = true) : nameOk t = true ∧ isSys s.stream = false ∧ isSys t = true ∧ s.stream ≠ t := by
  simp only [wantsL, Bool.and_eq_true, Bool.or_eq_true, decide_eq_true_eq, Bool.not_eq_true', decide_eq_false_iff_not] at h
  obtain ⟨⟨⟨⟨h1, h2⟩, h3⟩, h4⟩, h5⟩ := h
  have ht : isSys t = true := by
    unfold isSys
    rw [show t.data.toList = t.data.toList.take 4 ++ t.data.toList.drop 4 from (List.take_append_drop 4 _).symm]
    rcases h5 with h5 | h5 <;> rw [h5.1] <;> rfl
  refine ⟨h1, h3, ht, ?_⟩
  rintro rfl
  rw [ht] at h3
  cases h3
end Go.Proofs.YtfjkjndpndjfpaaGreatDoor
/- A region that draws its order: all operations but the last few read, reckon or call quietly within a class of worlds; the last few stand in one forced order. One walk in the order of the text serves every order. No program is named. -/
set_option linter.unusedVariables false
set_option linter.unusedSimpArgs false
namespace Go.Proofs.YtfjkjndpndjfpaaGreatDoor
open Go Go.RowKit Go.Sort
section
variable {P : Program} {ops : Array Oper} {md : Region.Mode} {C : World → Prop}

/-- Whatever order is picked, for so many operations of the first n; then L. -/
def AnyHead (P : Program) (md : Region.Mode) (ops : Array Oper) (C : World → Prop) (n : Nat) (L : Array Bool → Act → Prop) : Nat → Array Bool → Act → Prop
  | 0, listed, a => L listed a
  | f + 1, listed, a => Region.ready md ops listed ≠ [] ∧ ∀ i ∈ Region.ready md ops listed, i < n ∧ qOp P ops C i (AnyHead P md ops C n L f (listed.setIfInBounds i true)) a

theorem any_of_head {n g : Nat} {L : Array Bool → Act → Prop} {Q' : Exit → Act → World → Prop} (hL : ∀ listed a w, C w → L listed a → wpAny P md ops Q' g listed a w) :
    ∀ (f : Nat) (listed : Array Bool) (a : Act) (w : World), C w → AnyHead P md ops C n L f listed a → wpAny P md ops Q' (f + g) listed a w
  | 0, listed, a, w, hw, h => by rw [Nat.zero_add]; exact hL _ _ _ hw h
  | f + 1, listed, a, w, hw, h => by
    rw [show f + 1 + g = (f + g) + 1 by omega]
    exact ⟨fun h0 => absurd h0 h.1, fun i hi => wpOp_of_qOp hw (fun a' w' hw' h' => any_of_head hL f _ a' w' hw' h') (h.2 i hi).2⟩

theorem head_first {n i : Nat} {oi : Oper} {v : Value} {L : Array Bool → Act → Prop} (hi : ops[i]? = some oi) (hsel : ∀ (j : Nat) (o : Oper) cs b, ops[j]? = some o → o.op ≠ .select cs b)
    (hs : Region.sinkB md ops n = true) (hc : Region.chainB md ops n = true) (hn : n < ops.size) (hin : i < n)
    (hdone : ∀ listed a, L listed a → ∀ j ∈ Region.ready md ops listed, n ≤ j) :
    ∀ (f : Nat) (listed : Array Bool) (a : Act), HeadInv md ops n listed →
      (∀ j oj, ops[j]? = some oj → j ≠ i → listed.getD j true = false → (∀ e ∈ oj.after, Region.binds md e = true → e.on ≠ i) → oi.apart ops oj = true) →
      i ∈ Region.ready md ops listed → YieldsIn P ops C oi v a →
      AnyHead P md ops C n L f (listed.setIfInBounds i true) (a.put oi.dst v) → AnyHead P md ops C n L (f + 1) listed a := by
  intro f
  induction f with
  | zero =>
    intro listed a inv _ hr hy H
    have hun := (mem_ready.1 hr).1
    refine ⟨fun h => (by rw [h] at hr; cases hr), fun j hj => ?_⟩
    have hjn : j < n := by
      rcases Nat.lt_or_ge j n with h | h
      · exact h
      · exact absurd hj (tail_waits hs hc hn inv _ i rfl hin hun j h)
    refine ⟨hjn, ?_⟩
    by_cases hji : j = i
    · subst hji; exact hy.qOp hi H
    · have := hdone _ _ H j (ready_mono hj hji)
      omega
  | succ f ih =>
    intro listed a inv hfree hr hy H
    have hun := (mem_ready.1 hr).1
    refine ⟨fun h => (by rw [h] at hr; cases hr), fun j hj => ?_⟩
    have hjn : j < n := by
      rcases Nat.lt_or_ge j n with h | h
      · exact h
      · exact absurd hj (tail_waits hs hc hn inv _ i rfl hin hun j h)
    refine ⟨hjn, ?_⟩
    by_cases hji : j = i
    · subst hji; exact hy.qOp hi H
    · have h1 := (H.2 j (ready_mono hj hji)).2
      obtain ⟨hjun, oj, hoj, hall⟩ := mem_ready.1 hj
      have hnot : ∀ e ∈ oj.after, Region.binds md e = true → e.on ≠ i := fun e he hb heq => by
        have h1 := hall e he hb
        rw [heq, getD_both hun] at h1
        cases h1
      have h2 := qOp_put hoj (hfree j oj hoj hji hjun hnot) (fun cs b => hsel i oi cs b hi) (fun cs b => hsel j oj cs b hoj) hy h1
      have hfree' : ∀ k ok, ops[k]? = some ok → k ≠ i → (listed.setIfInBounds j true).getD k true = false →
          (∀ e ∈ ok.after, Region.binds md e = true → e.on ≠ i) → oi.apart ops ok = true := fun k ok hk hki hun hno => by
        refine hfree k ok hk hki ?_ hno
        by_cases hjk : j = k
        · subst hjk; exact hjun
        · rw [getD_set_ne true hjk] at hun; exact hun
      refine qOp_mono (fun a' h3 => ih (listed.setIfInBounds j true) a' (inv.set hj hjn) hfree' (ready_mono hr (Ne.symm hji)) h3.1 ?_) h2
      rw [Array.setIfInBounds_comm _ _ hji]
      exact h3.2

theorem head_lex {n g : Nat} {Lq : Act → Prop} (hsel : Region.noSelect ops = true) (hs : Region.sinkB md ops n = true) (hc : Region.chainB md ops n = true) (hn : n < ops.size) :
    ∀ (l : List Oper) (k : Nat) (listed : Array Bool) (a : Act), (∀ j, j < l.length → l[j]? = ops[k + j]?) → k + l.length = n → HeadInv md ops n listed →
    Region.lexHead md ops g l.length k listed = true → wpQuiet P ops C Lq l a →
    AnyHead P md ops C n (fun listed' a' => Region.seqB md ops g n listed' = true ∧ Lq a') l.length listed a
  | [], k, listed, a, _, hk, _, hB, h => by
    have : k = n := by simpa using hk
    subst this
    exact ⟨by simpa [Region.lexHead] using hB, h⟩
  | o :: l, k, listed, a, hl, hk, inv, hB, h => by
    have h0 : ops[k]? = some o := by simpa using (hl 0 (by simp)).symm
    simp only [List.length_cons, Region.lexHead, Bool.and_eq_true] at hB
    obtain ⟨⟨hr, hf⟩, hB'⟩ := hB
    have hkn : k < n := by simp only [List.length_cons] at hk; omega
    have hr' : k ∈ Region.ready md ops listed := by simpa using hr
    have hst : qOp P ops C k (wpQuiet P ops C Lq l) a := by unfold qOp; simp only [h0]; exact h
    obtain ⟨v, hy, hK⟩ := yieldsIn_of_qOp h0 hst
    exact head_first h0 (Region.noSelect_spec hsel) hs hc hn hkn (fun listed' a' hL => seqB_ready hL.1) l.length listed a inv (Region.free_spec h0 hf) hr' hy
      (head_lex hsel hs hc hn l (k + 1) _ _ (fun j hj => by have := hl (j + 1) (by simp; omega); simpa [Nat.add_assoc, Nat.add_comm 1 j] using this) (by simp only [List.length_cons] at hk; omega) (inv.set hr' hkn) hB' hK)

/-- The first n operations quietly within C, in the order of the text; the others one behind the other. -/
theorem wp_region_qtail {id : Nat} {Q : Exit → Act → World → Prop} {a : Act} {w : World} {l : List Oper} (n : Nat) (hm : P.follows .mixedOrders = true) (hB : Region.lexTailB .any l.toArray n = true) (hC : C { w with drawn := w.drawn + 1 })
    (h : wpQuiet P l.toArray C (fun a' => ∀ w', C w' → wpList P l.toArray Q (l.drop n) a' w') (l.take n) a) : (Code.region id l.toArray true).wp P Q a w := by
  simp only [Region.lexTailB, Bool.and_eq_true, decide_eq_true_eq] at hB
  obtain ⟨⟨⟨⟨hsel, hn⟩, hs⟩, hc⟩, hlex⟩ := hB
  have hn' : n < l.length := by simpa using hn
  have htl : (l.take n).length = n := by simp; omega
  have hdl : (l.drop n).length = l.toArray.size - n := by simp
  have inv0 : HeadInv .any l.toArray n (Array.replicate l.toArray.size false) :=
    ⟨by simp, fun j oj _ hl => (by rw [getD_replicate_false] at hl; cases hl), fun t _ ht => getD_in (by simpa using ht) (getD_replicate_false _ _)⟩
  have H := head_lex (md := .any) (g := l.toArray.size - n) hsel hs hc hn (l.take n) 0 _ a (fun j hj => by
    have hj' : j < n := by rw [htl] at hj; exact hj
    simp [hj']) (by simpa using htl) inv0 (by rw [htl]; exact hlex) h
  refine wp_region_any hm ?_
  have := any_of_head (Q' := Q) (g := l.toArray.size - n) (fun listed a' w' hw' hL => by
    have := wpAny_of_seq (md := .any) (Q' := Q) (l.drop n) n listed a' w' (fun j => by simp [List.getElem?_drop]) (by rw [hdl]; exact hL.1) (hL.2 w' hw')
    rwa [hdl] at this) _ _ _ _ hC H
  rw [htl, show n + (l.toArray.size - n) = l.toArray.size by omega] at this
  exact this

/-- The same at the class 'w with draws and with blocks laid behind it'. -/
theorem wp_region_btail {id : Nat} {Q : Exit → Act → World → Prop} {a : Act} {w : World} {l : List Oper} (n : Nat) (hm : P.follows .mixedOrders = true) (hB : Region.lexTailB .any l.toArray n = true)
    (h : wpQuiet P l.toArray (fun w' => ∃ p : Regrown, w' = grow (redrawn w p.d) p.os) (fun a' => ∀ w', (∃ p : Regrown, w' = grow (redrawn w p.d) p.os) → wpList P l.toArray Q (l.drop n) a' w') (l.take n) a) : (Code.region id l.toArray true).wp P Q a w :=
  wp_region_qtail (C := fun w' => ∃ p : Regrown, w' = grow (redrawn w p.d) p.os) n hm hB ⟨⟨w.drawn + 1, #[]⟩, by rw [grow_empty]; rfl⟩ h
/-- The first n operations stand still in the drawn world; the others one behind the other. -/
theorem wp_region_stail {id : Nat} {Q : Exit → Act → World → Prop} {a : Act} {w : World} {l : List Oper} (n : Nat) (hm : P.follows .mixedOrders = true) (hB : Region.lexTailB .any l.toArray n = true)
    (h : wpStill P l.toArray w.drew (fun a' => wpList P l.toArray Q (l.drop n) a' w.drew) (l.take n) a) : (Code.region id l.toArray true).wp P Q a w :=
  wp_region_still_tail n hm hB h
theorem Only.regrown (S : List Nat) (w : World) (d : Nat) (os : Array Obj) : Only S w (grow (redrawn w d) os) := Only.of_below (below_regrown w d os) (Nat.le_refl _)
theorem Calls.regrown_only {f : FuncId} {args : Array Value} {w : World} {d : Nat} {os : Array Obj} {v : Value}
    (h : Calls P f args (grow (redrawn w d) os) fun e w' => e = .returned v ∧ Only [] (grow (redrawn w d) os) w') : Calls P f args (grow (redrawn w d) os) fun e w'' => e = .returned v ∧ ∃ p : Regrown, w'' = grow (redrawn w p.d) p.os :=
  Calls.regrown_of (h.mono fun _ _ ⟨h1, h2⟩ => ⟨h1, h2.toBelow⟩)
end
end Go.Proofs.YtfjkjndpndjfpaaGreatDoor
/- A region that draws its order, walked in one order of one's own: first operations that only read (H), each the same in every world of a class C; then some that may come early but stay within C (T1); then the rest (T2), each behind all of H. No program is named. -/
set_option linter.unusedVariables false
set_option linter.unusedSimpArgs false
namespace Go.Proofs.YtfjkjndpndjfpaaGreatDoor
open Go Go.RowKit Go.Sort
section
variable {P : Program} {ops : Array Oper} {md : Region.Mode} {C : World → Prop} {Q : Exit → Act → World → Prop}

/-- An operation that ends in a value: it enters no function. -/
def plainB (o : Oper) : Bool :=
  match o.op with
  | .move _ | .assign _ | .pick .. | .load .. | .binOp .. | .unOp .. | .fieldAddr .. | .field .. | .indexAddr .. | .index .. | .lookup .. | .extract .. | .build .. | .slice .. | .convert .. => true
  | .nilCheck _ => true
  | .call { callee := .builtin .len, .. } => true
  | .call { callee := .builtin .min, .. } => true
  | .call { callee := .builtin .max, .. } => true
  | _ => false
theorem run_value {s : Sem Value} {w w' : World} {n : Next} (h : (do pure (Next.value (← s)) : Sem Next).run P w = .ok n w') : ∃ v, n = .value v := by
  simp only [Sem.run_bind] at h
  generalize s.run P w = r at h
  cases r with
  | ok a w1 => simp [Result.andThen] at h; exact ⟨a, h.1.symm⟩
  | halt x w1 => simp [Result.andThen] at h
/-- It stands still in every world of the class. -/
def YieldsS (P : Program) (ops : Array Oper) (C : World → Prop) (o : Oper) (v : Value) (a : Act) : Prop :=
  (Region.wanted o (yielded ops a.tmps) = true ∧ ∀ w, C w → (execOp a.eval o).run P w = .ok (.value v) w) ∨
  (Region.wanted o (yielded ops a.tmps) = false ∧ v = undef)
theorem YieldsS.of_same {o : Oper} {v : Value} {a a' : Act} (hy : YieldsS P ops C o v a) (he : execOp a'.eval o = execOp a.eval o)
    (hw : Region.wanted o (yielded ops a'.tmps) = Region.wanted o (yielded ops a.tmps)) : YieldsS P ops C o v a' := by
  unfold YieldsS at *
  rw [he, hw]
  exact hy
theorem YieldsS.put {oi oj : Oper} {v u : Value} {a : Act} (hap : oi.apart ops oj = true) (hsi : ∀ cs b, oi.op ≠ .select cs b) (hy : YieldsS P ops C oi v a) : YieldsS P ops C oi v (a.put oj.dst u) :=
  hy.of_same (execOp_put oi hsi a oj.dst u (Oper.apart_spec hap).2.2) (wanted_put oi a oj.dst u (Oper.apart_spec hap).2.2)
theorem YieldsS.unput {oi oj : Oper} {v u : Value} {a : Act} (hap : oi.apart ops oj = true) (hsj : ∀ cs b, oj.op ≠ .select cs b) (hy : YieldsS P ops C oj u (a.put oi.dst v)) : YieldsS P ops C oj u a :=
  hy.of_same (execOp_put oj hsj a oi.dst v (Oper.apart_spec hap).1).symm (wanted_put oj a oi.dst v (Oper.apart_spec hap).1).symm
theorem YieldsS.wpOp {i : Nat} {o : Oper} {v : Value} {a : Act} {w : World} (hi : ops[i]? = some o) (hC : C w) (hy : YieldsS P ops C o v a) {K : Act → World → Prop} (h : K (a.put o.dst v) w) : wpOp P ops Q i K a w := by
  unfold Go.wpOp
  simp only [hi]
  rcases hy with ⟨hw, hv⟩ | ⟨hw, rfl⟩
  · simp only [hw, if_true, Oper.wp, hv w hC, Oper.upon]; exact .inl h
  · simp only [hw, Bool.false_eq_true, if_false]; exact h
theorem wpOp_putS {j : Nat} {oi oj : Oper} {v : Value} (hj : ops[j]? = some oj) (hap : oi.apart ops oj = true)
    (hsi : ∀ cs b, oi.op ≠ .select cs b) (hsj : ∀ cs b, oj.op ≠ .select cs b)
    (hQ : ∀ c a w, Q (.panic c) (a.put oi.dst v) w → Q (.panic c) a w) {K : Act → World → Prop} {a : Act} {w : World}
    (hy : YieldsS P ops C oi v a) (h : wpOp P ops Q j K (a.put oi.dst v) w) :
    wpOp P ops Q j (fun a' w' => YieldsS P ops C oi v a' ∧ K (a'.put oi.dst v) w') a w := by
  obtain ⟨h1, h2, h3⟩ := Oper.apart_spec hap
  have keep : ∀ (b : Act), YieldsS P ops C oi v b → ∀ u, YieldsS P ops C oi v (b.put oj.dst u) := fun b hb u => hb.put hap hsi
  have keepD : ∀ d, YieldsS P ops C oi v { a with defers := d :: a.defers } := fun d => hy.of_same rfl rfl
  unfold Go.wpOp at h ⊢
  simp only [hj] at h ⊢
  rw [wanted_put oj a oi.dst v h1] at h
  by_cases hw : Region.wanted oj (yielded ops a.tmps) = true
  · rw [if_pos hw] at h ⊢
    rcases h with h | ⟨hasks, hlets⟩
    · left
      unfold Oper.wp at h ⊢
      rw [execOp_put oj hsj a oi.dst v h1] at h
      generalize (execOp a.eval oj).run P w = r at h ⊢
      cases r with
      | ok n w' =>
        cases n <;> simp only [Oper.upon] at h ⊢
        case value u => exact ⟨keep a hy u, (Act.put_comm a v u h2) ▸ h⟩
        case skip => exact ⟨keep a hy _, (Act.put_comm a v undef h2) ▸ h⟩
        case defer d =>
          refine ⟨keep _ (keepD d) _, ?_⟩
          rw [← Act.put_comm _ v undef h2, ← Act.put_defers]
          exact h
        case enter f args =>
          refine Calls.mono h fun e w'' he => ?_
          cases e with
          | returned u => exact ⟨keep a hy u, (Act.put_comm a v u h2) ▸ he⟩
          | panicked c => exact hQ _ _ _ he
          | outgrown => exact he
        case row row args => exact Rows.mono h fun u w'' he => ⟨keep a hy u, (Act.put_comm a v u h2) ▸ he⟩
      | halt x w' =>
        cases x <;> simp only [Oper.upon] at h ⊢
        case panic u => exact hQ _ _ _ h
    · right
      refine ⟨?_, hlets⟩
      unfold Oper.asks at *
      rw [execOp_put oj hsj a oi.dst v h1] at hasks
      exact hasks
  · rw [if_neg hw] at h ⊢
    exact ⟨keep a hy _, (Act.put_comm a v undef h2) ▸ h⟩
theorem run_valueF {α : Type} {s : Sem α} {f : α → Value} {w w' : World} {n : Next} (h : (s >>= fun x => pure (Next.value (f x)) : Sem Next).run P w = .ok n w') : ∃ v, n = .value v := by
  simp only [Sem.run_bind] at h
  generalize s.run P w = r at h
  cases r with
  | ok a w1 => simp [Result.andThen] at h; exact ⟨_, h.1.symm⟩
  | halt x w1 => simp [Result.andThen] at h
theorem run_bindV {α : Type} {s : Sem α} {g : α → Sem Next} {w w' : World} {n : Next} (hg : ∀ a n w w', (g a).run P w = .ok n w' → ∃ v, n = .value v) (h : (s >>= g).run P w = .ok n w') : ∃ v, n = .value v := by
  simp only [Sem.run_bind] at h
  generalize s.run P w = r at h
  cases r with
  | ok a w1 => exact hg a n w1 w' (by simpa [Result.andThen] using h)
  | halt x w1 => simp [Result.andThen] at h
theorem run_builtin {ρ : Operand → Value} {c : Call} {ty : TypeId} {b : Builtin} {s : Array TypeId → TypeId → Array Value → Sem Value} {w w' : World} {n : Next} (hc : c.callee = .builtin b)
    (hb : ∀ a t cs x, builtin b a t cs x = (do pure (Next.value (← s a t x)) : Sem Next)) (h : (do let d ← resolve ρ c ty; invoke d.target d.args : Sem Next).run P w = .ok n w') : ∃ v, n = .value v := by
  simp only [resolve, hc, Sem.run_bind, Sem.run_pure, Result.andThen_ok, invoke, hb] at h
  generalize (s c.argTypes ty (c.args.map ρ)).run P w = r at h
  cases r with
  | ok a w1 => simp [Result.andThen] at h; exact ⟨a, h.1.symm⟩
  | halt x w1 => simp [Result.andThen] at h
theorem plain_value {o : Oper} {ρ : Operand → Value} {w w' : World} {n : Next} (h : plainB o = true) (hr : (execOp ρ o).run P w = .ok n w') : ∃ v, n = .value v := by
  obtain ⟨dst, op, type, pos, after, guard⟩ := o
  cases op <;> simp only [plainB] at h <;> try cases h
  case move x => simp only [execOp, Sem.run_pure] at hr; cases hr; exact ⟨_, rfl⟩
  case assign x => simp only [execOp, Sem.run_pure] at hr; cases hr; exact ⟨_, rfl⟩
  case pick c a b => exact run_valueF hr
  case nilCheck x =>
    simp only [execOp] at hr
    split at hr
    all_goals first
      | (simp [runtimePanic, Sem.run_bind, Result.andThen, goPanic, Sem.run] at hr; done)
      | (simp only [Sem.run_pure] at hr; cases hr; exact ⟨_, rfl⟩)
      | (split at hr <;> first
          | (simp [runtimePanic, Sem.run_bind, Result.andThen, goPanic, Sem.run] at hr; done)
          | (simp only [Sem.run_pure] at hr; cases hr; exact ⟨_, rfl⟩)
          | (refine run_bindV (fun a n w w' h => ?_) hr
             refine run_bindV (fun a n w w' h => ?_) h
             split at h
             · simp [unsupported, Sem.run, Sem.run_bind, Result.andThen] at h
             · simp [Sem.run_bind, Result.andThen] at h
               exact ⟨_, h.1.symm⟩))
  case call c =>
    obtain ⟨callee, args, ats⟩ := c
    cases callee with
    | value f => simp at h
    | invoke r m => simp at h
    | builtin b =>
      cases b <;> simp at h
      case len => exact run_builtin (b := .len) (s := fun a t x => Builtin.len_ a t x) rfl (fun _ _ _ _ => rfl) hr
      case max => exact run_builtin (b := .max) (s := fun a t x => Builtin.max_ a t x) rfl (fun _ _ _ _ => rfl) hr
      case min => exact run_builtin (b := .min) (s := fun a t x => Builtin.min_ a t x) rfl (fun _ _ _ _ => rfl) hr
  all_goals exact run_value hr

/-! ## the plan -/
def sinkL (md : Region.Mode) (ops : Array Oper) : List Nat → Nat → Bool
  | [], _ => true
  | h :: H, t => ((H ++ [t]).any fun j => Region.waitsFor md ops j h) && sinkL md ops H t
def chainL (md : Region.Mode) (ops : Array Oper) : Nat → List Nat → Bool
  | _, [] => true
  | t, u :: us => Region.waitsFor md ops u t && chainL md ops u us
def behindB (md : Region.Mode) (ops : Array Oper) (H : List Nat) : List Nat → Bool
  | [] => true
  | t :: ts => sinkL md ops H t && chainL md ops t ts
/-- One behind the other, each the only one that may come. -/
def seqL (md : Region.Mode) (ops : Array Oper) : List Nat → Array Bool → Bool
  | [], listed => (Region.ready md ops listed).isEmpty
  | t :: ts, listed => decide (Region.ready md ops listed = [t]) && seqL md ops ts (listed.setIfInBounds t true)
def headL (md : Region.Mode) (ops : Array Oper) (T : List Nat) : List Nat → Array Bool → Bool
  | [], listed => seqL md ops T listed
  | h :: H, listed => (Region.ready md ops listed).contains h && Region.free md ops listed h && headL md ops T H (listed.setIfInBounds h true)
def plainAt (ops : Array Oper) (i : Nat) : Bool := match ops[i]? with | some o => plainB o | none => false
def planB (md : Region.Mode) (ops : Array Oper) (H T1 T2 : List Nat) : Bool :=
  (Region.noSelect ops && H.all (plainAt ops)) && (((List.range ops.size).all (fun i => H.contains i || (T1.contains i || T2.contains i)) && ((T1 ++ T2).all (fun i => !H.contains i) && T2.all (fun i => !T1.contains i))) &&
    (decide (H.length + (T1 ++ T2).length = ops.size) && (behindB md ops H T2 && headL md ops (T1 ++ T2) H (Array.replicate ops.size false))))
def Closed (md : Region.Mode) (ops : Array Oper) (listed : Array Bool) : Prop :=
  ∀ j oj, ops[j]? = some oj → listed.getD j false = true → ∀ e ∈ oj.after, Region.binds md e = true → listed.getD e.on false = true
theorem Closed.set {listed : Array Bool} {i : Nat} (inv : Closed md ops listed) (hi : i ∈ Region.ready md ops listed) : Closed md ops (listed.setIfInBounds i true) := by
  obtain ⟨_, oi, hoi, hall⟩ := mem_ready.1 hi
  intro j oj hj hl e he hb
  by_cases hij : i = j
  · subst hij
    have : oj = oi := Option.some.inj (hj.symm.trans hoi)
    subst this
    exact getD_set_true (hall e he hb)
  · rw [getD_set_ne false hij] at hl
    exact getD_set_true (inv j oj hj hl e he hb)
/-- What a listed or a ready operation waits for is listed. -/
theorem waits_listed {listed : Array Bool} (inv : Closed md ops listed) {j i : Nat} (hj : listed.getD j false = true ∨ j ∈ Region.ready md ops listed) (hw : Region.waitsFor md ops j i = true) : listed.getD i false = true := by
  obtain ⟨oj, hoj, e, he, hb, hon⟩ := Region.waitsFor_spec hw
  rcases hj with hj | hj
  · rw [← hon]; exact inv j oj hoj hj e he hb
  · obtain ⟨_, o', ho', hall⟩ := mem_ready.1 hj
    have : o' = oj := Option.some.inj (ho'.symm.trans hoj)
    subst this
    rw [← hon]; exact hall e he hb
theorem sink_spec {listed : Array Bool} (inv : Closed md ops listed) {t : Nat} (ht : listed.getD t false = true ∨ t ∈ Region.ready md ops listed) : ∀ (H : List Nat), sinkL md ops H t = true → ∀ h ∈ H, listed.getD h false = true
  | [], _, _, hh => by cases hh
  | h :: H, hs, x, hx => by
    simp only [sinkL, Bool.and_eq_true] at hs
    have ih := sink_spec inv ht H hs.2
    rcases List.mem_cons.1 hx with rfl | hx
    · obtain ⟨j, hj, hw⟩ := List.any_eq_true.1 hs.1
      rcases List.mem_append.1 hj with hj | hj
      · exact waits_listed inv (.inl (ih j hj)) hw
      · have : j = t := by simpa using hj
        subst this
        exact waits_listed inv ht hw
    · exact ih x hx
theorem chain_spec {listed : Array Bool} (inv : Closed md ops listed) : ∀ (ts : List Nat) (t : Nat), chainL md ops t ts = true → ∀ u ∈ ts, (listed.getD u false = true ∨ u ∈ Region.ready md ops listed) → listed.getD t false = true
  | [], _, _, _, hu, _ => by cases hu
  | v :: ts, t, hc, u, hu, hr => by
    simp only [chainL, Bool.and_eq_true] at hc
    rcases List.mem_cons.1 hu with rfl | hu
    · exact waits_listed inv hr hc.1
    · exact waits_listed inv (.inl (chain_spec inv ts v hc.2 u hu hr)) hc.1
theorem behind_spec {listed : Array Bool} (inv : Closed md ops listed) {H T2 : List Nat} (hb : behindB md ops H T2 = true) {t : Nat} (ht : t ∈ T2) (hr : t ∈ Region.ready md ops listed) : ∀ h ∈ H, listed.getD h false = true := by
  cases T2 with
  | nil => cases ht
  | cons u us =>
    simp only [behindB, Bool.and_eq_true] at hb
    rcases List.mem_cons.1 ht with rfl | ht
    · exact sink_spec inv (.inr hr) H hb.1
    · exact sink_spec inv (.inl (chain_spec inv us u hb.2 t ht (.inr hr))) H hb.1

/-- Whatever order is picked: the reading ones stand still in C, the early ones stay in C. -/
def AnyP (P : Program) (md : Region.Mode) (ops : Array Oper) (C : World → Prop) (Q : Exit → Act → World → Prop) (H T1 : List Nat) : Nat → Array Bool → Act → World → Prop
  | 0, listed, a, w => Region.ready md ops listed = [] ∧ Q .normal a w
  | f + 1, listed, a, w => Region.ready md ops listed ≠ [] ∧ ∀ i ∈ Region.ready md ops listed,
      (i ∈ H ∧ ∃ o v, ops[i]? = some o ∧ YieldsS P ops C o v a ∧ AnyP P md ops C Q H T1 f (listed.setIfInBounds i true) (a.put o.dst v) w) ∨
      (i ∉ H ∧ wpOp P ops Q i (fun a' w' => (i ∈ T1 → C w') ∧ AnyP P md ops C Q H T1 f (listed.setIfInBounds i true) a' w') a w)

theorem anyP_any {H T1 T2 : List Nat} (hb : behindB md ops H T2 = true) (hcov : ∀ i, i < ops.size → i ∈ H ∨ i ∈ T1 ∨ i ∈ T2) : ∀ (f : Nat) (listed : Array Bool) (a : Act) (w : World), Closed md ops listed → (C w ∨ ∀ h ∈ H, listed.getD h false = true) →
    AnyP P md ops C Q H T1 f listed a w → wpAny P md ops Q f listed a w
  | 0, _, _, _, _, _, h => h
  | f + 1, listed, a, w, inv, hC, h => by
    refine ⟨fun h0 => absurd h0 h.1, fun i hi => ?_⟩
    rcases h.2 i hi with ⟨hiH, o, v, ho, hy, hK⟩ | ⟨hiH, hop⟩
    · have hCw : C w := by
        rcases hC with q | q
        · exact q
        · have := q i hiH
          rw [getD_both (mem_ready.1 hi).1] at this
          cases this
      exact hy.wpOp ho hCw (anyP_any hb hcov f _ _ _ (inv.set hi) (.inl hCw) hK)
    · refine wpOp_mono (fun a' w' hk => anyP_any hb hcov f _ a' w' (inv.set hi) ?_ hk.2) hop
      obtain ⟨_, oi, hoi, _⟩ := mem_ready.1 hi
      have hlt : i < ops.size := (Array.getElem?_eq_some_iff.1 hoi).1
      rcases hcov i hlt with q | q | q
      · exact absurd q hiH
      · exact .inl (hk.1 q)
      · exact .inr fun x hx => getD_set_true (behind_spec inv hb q hi x hx)
theorem plan_first {H T1 : List Nat} {i : Nat} {oi : Oper} {v : Value} (hi : ops[i]? = some oi) (hsel : ∀ (j : Nat) (o : Oper) cs b, ops[j]? = some o → o.op ≠ .select cs b) (hiH : i ∈ H)
    (hQ : ∀ c d u a w, Q (.panic c) (Act.put a d u) w → Q (.panic c) a w) :
    ∀ (f : Nat) (listed : Array Bool) (a : Act) (w : World),
      (∀ j oj, ops[j]? = some oj → j ≠ i → listed.getD j true = false → (∀ e ∈ oj.after, Region.binds md e = true → e.on ≠ i) → oi.apart ops oj = true) →
      i ∈ Region.ready md ops listed → YieldsS P ops C oi v a →
      AnyP P md ops C Q H T1 f (listed.setIfInBounds i true) (a.put oi.dst v) w → AnyP P md ops C Q H T1 (f + 1) listed a w := by
  intro f
  induction f with
  | zero =>
    intro listed a w _ hr hy K
    refine ⟨fun h => (by rw [h] at hr; cases hr), fun j hj => ?_⟩
    by_cases hji : j = i
    · subst hji; exact .inl ⟨hiH, oi, v, hi, hy, K⟩
    · have := ready_mono hj hji
      rw [K.1] at this
      cases this
  | succ f ih =>
    intro listed a w hfree hr hy K
    have hun := (mem_ready.1 hr).1
    refine ⟨fun h => (by rw [h] at hr; cases hr), fun j hj => ?_⟩
    by_cases hji : j = i
    · subst hji; exact .inl ⟨hiH, oi, v, hi, hy, K⟩
    · obtain ⟨hjun, oj, hoj, hall⟩ := mem_ready.1 hj
      have hnot : ∀ e ∈ oj.after, Region.binds md e = true → e.on ≠ i := fun e he hb heq => by
        have h1 := hall e he hb
        rw [heq, getD_both hun] at h1
        cases h1
      have hap := hfree j oj hoj hji hjun hnot
      have hfree' : ∀ k ok, ops[k]? = some ok → k ≠ i → (listed.setIfInBounds j true).getD k true = false →
          (∀ e ∈ ok.after, Region.binds md e = true → e.on ≠ i) → oi.apart ops ok = true := fun k ok hk hki hun' hno => by
        refine hfree k ok hk hki ?_ hno
        by_cases hjk : j = k
        · subst hjk; exact hjun
        · rw [getD_set_ne true hjk] at hun'; exact hun'
      rcases K.2 j (ready_mono hj hji) with ⟨hjH, o', u, ho', hyj, hK⟩ | ⟨hjH, hop⟩
      · have : o' = oj := Option.some.inj (ho'.symm.trans hoj)
        subst this
        refine .inl ⟨hjH, o', u, ho', hyj.unput hap (fun cs b => hsel j o' cs b hoj), ?_⟩
        refine ih _ _ _ hfree' (ready_mono hr (Ne.symm hji)) (hy.put hap (fun cs b => hsel i oi cs b hi)) ?_
        rw [Array.setIfInBounds_comm _ _ hji, ← Act.put_comm a v u (Oper.apart_spec hap).2.1]
        exact hK
      · have h2 := wpOp_putS hoj hap (fun cs b => hsel i oi cs b hi) (fun cs b => hsel j oj cs b hoj) (fun c a w => hQ c _ _ a w) hy hop
        refine .inr ⟨hjH, wpOp_mono (fun a' w' h3 => ⟨h3.2.1, ih _ _ _ hfree' (ready_mono hr (Ne.symm hji)) h3.1 ?_⟩) h2⟩
        rw [Array.setIfInBounds_comm _ _ hji]
        exact h3.2.2
def opsAt (l : List Oper) (H : List Nat) : List Oper := H.filterMap fun i => l[i]?
/-- What stands behind an early operation: the class, and what follows. -/
def CheckQ (C : World → Prop) (Q : Exit → Act → World → Prop) (K : Act → World → Prop) : Exit → Act → World → Prop
  | .normal, a, w => C w ∧ K a w
  | e, a, w => Q e a w
theorem Oper.wp_q {o : Oper} {a : Act} {w : World} {K : Act → World → Prop} {Q' : Exit → Act → World → Prop} (hp : ∀ c a w, Q' (.panic c) a w → Q (.panic c) a w) (ho : LetsOut Q' → LetsOut Q) (h : o.wp P a w K Q') : o.wp P a w K Q := by
  unfold Oper.wp at *
  generalize (execOp a.eval o).run P w = r at *
  cases r with
  | ok n w' =>
    cases n <;> simp only [Oper.upon] at h ⊢ <;> first
      | exact h
      | exact Calls.mono h (fun e w'' he => by cases e <;> first | exact he | exact hp _ _ _ he | exact ho he)
  | halt x w' => cases x <;> simp only [Oper.upon] at h ⊢ <;> first | exact hp _ _ _ h | exact h
theorem wpOp_check {i : Nat} {o : Oper} {a : Act} {w : World} {K : Act → World → Prop} (hi : ops[i]? = some o) (h : wpList P ops (CheckQ C Q K) [o] a w) : wpOp P ops Q i (fun a' w' => C w' ∧ K a' w') a w := by
  unfold wpOp
  simp only [hi]
  unfold wpList at h
  by_cases hw : Region.wanted o (yielded ops a.tmps) = true
  · rw [if_pos hw] at h ⊢
    rcases h with h | h
    · exact .inl (Oper.wp_mono (fun _ _ q => q) (Oper.wp_q (fun _ _ _ q => q) (fun ⟨x, y, q⟩ => ⟨x, y, q⟩) h))
    · exact .inr ⟨h.1, by obtain ⟨x, y, q⟩ := h.2; exact ⟨x, y, q⟩⟩
  · rw [if_neg hw] at h ⊢
    exact h
def wpT1 (P : Program) (ops : Array Oper) (C : World → Prop) (Q : Exit → Act → World → Prop) : List Oper → (Act → World → Prop) → Act → World → Prop
  | [], K => K
  | o :: r, K => wpList P ops (CheckQ C Q (wpT1 P ops C Q r K)) [o]
end
section
variable {P : Program} {md : Region.Mode} {C : World → Prop} {Q : Exit → Act → World → Prop} {l : List Oper}
theorem opsAt_cons {i : Nat} {H : List Nat} {o : Oper} (h : l[i]? = some o) : opsAt l (i :: H) = o :: opsAt l H := by unfold opsAt; rw [List.filterMap_cons, h]
theorem ready_get {i : Nat} {listed : Array Bool} (h : Region.ready md l.toArray listed = [i]) : ∃ o, l[i]? = some o := by
  have : i ∈ Region.ready md l.toArray listed := by rw [h]; simp
  obtain ⟨_, o, ho, _⟩ := mem_ready.1 this
  exact ⟨o, by simpa using ho⟩
theorem plan_T2 {H T1 : List Nat} : ∀ (T2 : List Nat) (listed : Array Bool) (a : Act) (w : World), (∀ t ∈ T2, t ∉ H ∧ t ∉ T1) → seqL md l.toArray T2 listed = true → wpList P l.toArray Q (opsAt l T2) a w → AnyP P md l.toArray C Q H T1 T2.length listed a w
  | [], _, _, _, _, hs, h => ⟨by simpa [seqL] using hs, h⟩
  | t :: ts, listed, a, w, hd, hs, h => by
    simp only [seqL, Bool.and_eq_true, decide_eq_true_eq] at hs
    obtain ⟨o, ho⟩ := ready_get hs.1
    rw [opsAt_cons ho] at h
    refine ⟨by rw [hs.1]; simp, fun i hi => ?_⟩
    rw [hs.1] at hi
    have : i = t := by simpa using hi
    subst this
    refine .inr ⟨(hd i (by simp)).1, ?_⟩
    have hw : wpOp P l.toArray Q i (wpList P l.toArray Q (opsAt l ts)) a w := by
      unfold wpOp
      simp only [show l.toArray[i]? = some o by simpa using ho]
      exact h
    exact wpOp_mono (fun a' w' h' => ⟨fun q => absurd q (hd i (by simp)).2, plan_T2 ts _ a' w' (fun t ht => hd t (by simp [ht])) hs.2 h'⟩) hw
theorem plan_T1 {H T1 T2 : List Nat} (h2 : ∀ t ∈ T2, t ∉ H ∧ t ∉ T1) : ∀ (T : List Nat) (listed : Array Bool) (a : Act) (w : World), (∀ t ∈ T, t ∉ H) → seqL md l.toArray (T ++ T2) listed = true →
    wpT1 P l.toArray C Q (opsAt l T) (fun a w => wpList P l.toArray Q (opsAt l T2) a w) a w → AnyP P md l.toArray C Q H T1 (T ++ T2).length listed a w
  | [], listed, a, w, _, hs, h => plan_T2 T2 listed a w h2 hs h
  | t :: ts, listed, a, w, hd, hs, h => by
    simp only [List.cons_append, seqL, Bool.and_eq_true, decide_eq_true_eq] at hs
    obtain ⟨o, ho⟩ := ready_get hs.1
    rw [opsAt_cons ho] at h
    refine ⟨by rw [hs.1]; simp, fun i hi => ?_⟩
    rw [hs.1] at hi
    have : i = t := by simpa using hi
    subst this
    refine .inr ⟨hd i (by simp), ?_⟩
    have hw := wpOp_check (i := i) (by simpa using ho) h
    exact wpOp_mono (fun a' w' h' => ⟨fun _ => h'.1, plan_T1 h2 ts _ a' w' (fun t ht => hd t (by simp [ht])) hs.2 h'.2⟩) hw
theorem plan_H {H T1 T : List Nat} {L : Act → Prop} {w : World} (hsel : Region.noSelect l.toArray = true) (hQ : ∀ c d u a w, Q (.panic c) (Act.put a d u) w → Q (.panic c) a w) (hCw : C w)
    (hL : ∀ listed a, seqL md l.toArray T listed = true → L a → AnyP P md l.toArray C Q H T1 T.length listed a w) :
    ∀ (H' : List Nat) (listed : Array Bool) (a : Act), (∀ h ∈ H', h ∈ H ∧ plainAt l.toArray h = true) → headL md l.toArray T H' listed = true → wpQuiet P l.toArray C L (opsAt l H') a →
      AnyP P md l.toArray C Q H T1 (H'.length + T.length) listed a w
  | [], listed, a, _, hs, h => by rw [List.length_nil, Nat.zero_add]; exact hL listed a hs h
  | i :: is, listed, a, hd, hs, h => by
    simp only [headL, Bool.and_eq_true] at hs
    obtain ⟨⟨hr, hf⟩, hs'⟩ := hs
    have hr' : i ∈ Region.ready md l.toArray listed := by simpa using hr
    obtain ⟨_, o, ho, _⟩ := mem_ready.1 hr'
    have ho' : l[i]? = some o := by simpa using ho
    rw [opsAt_cons ho'] at h
    have hst : qOp P l.toArray C i (wpQuiet P l.toArray C L (opsAt l is)) a := by unfold qOp; simp only [ho]; exact h
    obtain ⟨v, hy, hK⟩ := yieldsIn_of_qOp ho hst
    have hpl : plainB o = true := by
      have := (hd i (by simp)).2
      unfold plainAt at this
      rw [ho] at this
      exact this
    have hyS : YieldsS P l.toArray C o v a := by
      rcases hy with ⟨q1, q2⟩ | q
      · refine .inl ⟨q1, fun W hW => ?_⟩
        have q3 := q2 W hW
        unfold Oper.quietAt at q3
        generalize hrr : (execOp a.eval o).run P W = r at q3 ⊢
        cases r with
        | ok n W' =>
          obtain ⟨u, rfl⟩ := plain_value hpl hrr
          simp only [Oper.quietUpon] at q3
          obtain ⟨e1, e2⟩ := q3
          rw [e1, e2]
        | halt x W' => simp only [Oper.quietUpon] at q3
      · exact .inr q
    rw [List.length_cons, show is.length + 1 + T.length = (is.length + T.length) + 1 by omega]
    exact plan_first ho (Region.noSelect_spec hsel) (hd i (by simp)).1 hQ _ listed a w (Region.free_spec ho hf) hr' hyS
      (plan_H hsel hQ hCw hL is _ _ (fun h hh => hd h (by simp [hh])) hs' hK)
/-- The region by a plan. -/
theorem wp_region_plan {id : Nat} {a : Act} {w : World} (H T1 T2 : List Nat) (hm : P.follows .mixedOrders = true) (hB : planB .any l.toArray H T1 T2 = true) (hQ : ∀ c d u a w, Q (.panic c) (Act.put a d u) w → Q (.panic c) a w) (hC : C w.drew)
    (h : wpQuiet P l.toArray C (fun a' => wpT1 P l.toArray C Q (opsAt l T1) (fun a w => wpList P l.toArray Q (opsAt l T2) a w) a' w.drew) (opsAt l H) a) : (Code.region id l.toArray true).wp P Q a w := by
  simp only [planB, Bool.and_eq_true, decide_eq_true_eq, List.all_eq_true, Bool.or_eq_true, List.contains_iff_mem, Bool.not_eq_true'] at hB
  obtain ⟨⟨hsel, hpl⟩, ⟨hcov, hd1, hd2⟩, hlen, hbe, hhd⟩ := hB
  refine wp_region_any hm ?_
  have inv0 : Closed .any l.toArray (Array.replicate l.toArray.size false) := fun j oj _ hl => by rw [getD_replicate_false] at hl; cases hl
  have hd1' : ∀ t ∈ T1 ++ T2, t ∉ H := fun t ht q => by
    have := hd1 t ht
    rw [List.contains_eq_mem, decide_eq_true q] at this
    cases this
  have hd2' : ∀ t ∈ T2, t ∉ T1 := fun t ht q => by
    have := hd2 t ht
    rw [List.contains_eq_mem, decide_eq_true q] at this
    cases this
  have h2 : ∀ t ∈ T2, t ∉ H ∧ t ∉ T1 := fun t ht => ⟨hd1' t (by simp [ht]), hd2' t ht⟩
  have := plan_H (md := .any) (H := H) (T1 := T1) (T := T1 ++ T2) hsel hQ hC (fun listed a hs hl => plan_T1 h2 T1 listed a w.drew (fun t ht => hd1' t (by simp [ht])) hs hl) H _ a (fun h hh => ⟨hh, hpl h hh⟩) hhd h
  rw [hlen] at this
  exact anyP_any hbe (fun i hi => hcov i (List.mem_range.2 hi)) _ _ _ _ inv0 (.inl hC) this
/-- A world in which of what was there at w only the blocks in S may have turned. -/
structure Within (S : List Nat) (w : World) where
  W : World
  h : Only S w W
instance (S : List Nat) (w : World) : Nonempty (Within S w) := ⟨⟨w, Only.refl S w⟩⟩
theorem wp_region_in {id : Nat} {a : Act} {w : World} (S H T1 T2 : List Nat) (hm : P.follows .mixedOrders = true) (hB : planB .any l.toArray H T1 T2 = true) (hQ : ∀ c d u a w, Q (.panic c) (Act.put a d u) w → Q (.panic c) a w)
    (h : wpQuiet P l.toArray (fun W => ∃ p : Within S w, W = p.W) (fun a' => wpT1 P l.toArray (fun W => ∃ p : Within S w, W = p.W) Q (opsAt l T1) (fun a w => wpList P l.toArray Q (opsAt l T2) a w) a' w.drew) (opsAt l H) a) : (Code.region id l.toArray true).wp P Q a w :=
  wp_region_plan H T1 T2 hm hB hQ ⟨⟨_, (Only.refl S w).drew⟩, rfl⟩ h
theorem Within.cell {S : List Nat} {w : World} {x : Addr} {v : Value} (hc : w.cell? x = some v) (hn : x.block ∉ S) (p : Within S w) : p.W.cell? x = some v := (p.h.cell (block_lt_of_cell hc) hn).trans hc
theorem check_of {S : List Nat} {w w' : World} {K : Act → World → Prop} {a : Act} (hO : Only S w w') (h : K a w') : CheckQ (fun W => ∃ p : Within S w, W = p.W) Q K .normal a w' := ⟨⟨⟨w', hO⟩, rfl⟩, h⟩
end
end Go.Proofs.YtfjkjndpndjfpaaGreatDoor
/- A region that draws its order, by a plan of five parts: reads, early ones, reads again, early ones, the rest. No program is named. -/
set_option linter.unusedVariables false
set_option linter.unusedSimpArgs false
namespace Go.Proofs.YtfjkjndpndjfpaaGreatDoor
open Go Go.RowKit Go.Sort
section
variable {P : Program} {md : Region.Mode} {C : World → Prop} {Q : Exit → Act → World → Prop} {l : List Oper}
def seqTo (md : Region.Mode) (ops : Array Oper) (S : Array Bool → Bool) : List Nat → Array Bool → Bool
  | [], listed => S listed
  | t :: ts, listed => decide (Region.ready md ops listed = [t]) && seqTo md ops S ts (listed.setIfInBounds t true)
def headTo (md : Region.Mode) (ops : Array Oper) (S : Array Bool → Bool) : List Nat → Array Bool → Bool
  | [], listed => S listed
  | h :: H, listed => (Region.ready md ops listed).contains h && Region.free md ops listed h && headTo md ops S H (listed.setIfInBounds h true)
theorem plan_A {H T1 : List Nat} {n : Nat} {S : Array Bool → Bool} {L : Act → World → Prop} (hL : ∀ listed a w, S listed = true → L a w → AnyP P md l.toArray C Q H T1 n listed a w) :
    ∀ (T : List Nat) (listed : Array Bool) (a : Act) (w : World), (∀ t ∈ T, t ∉ H) → seqTo md l.toArray S T listed = true → wpT1 P l.toArray C Q (opsAt l T) L a w → AnyP P md l.toArray C Q H T1 (T.length + n) listed a w
  | [], listed, a, w, _, hs, h => by rw [List.length_nil, Nat.zero_add]; exact hL listed a w hs h
  | t :: ts, listed, a, w, hd, hs, h => by
    simp only [seqTo, Bool.and_eq_true, decide_eq_true_eq] at hs
    obtain ⟨o, ho⟩ := ready_get hs.1
    rw [opsAt_cons ho] at h
    rw [List.length_cons, show ts.length + 1 + n = (ts.length + n) + 1 by omega]
    refine ⟨by rw [hs.1]; simp, fun i hi => ?_⟩
    rw [hs.1] at hi
    have : i = t := by simpa using hi
    subst this
    refine .inr ⟨hd i (by simp), ?_⟩
    have hw := wpOp_check (i := i) (by simpa using ho) h
    exact wpOp_mono (fun a' w' h' => ⟨fun _ => h'.1, plan_A hL ts _ a' w' (fun t ht => hd t (by simp [ht])) hs.2 h'.2⟩) hw
theorem plan_Hn {H T1 : List Nat} {n : Nat} {S : Array Bool → Bool} {L : Act → Prop} {w : World} (hsel : Region.noSelect l.toArray = true) (hQ : ∀ c d u a w, Q (.panic c) (Act.put a d u) w → Q (.panic c) a w)
    (hL : ∀ listed a, S listed = true → L a → AnyP P md l.toArray C Q H T1 n listed a w) :
    ∀ (H' : List Nat) (listed : Array Bool) (a : Act), (∀ h ∈ H', h ∈ H ∧ plainAt l.toArray h = true) → headTo md l.toArray S H' listed = true → wpQuiet P l.toArray C L (opsAt l H') a →
      AnyP P md l.toArray C Q H T1 (H'.length + n) listed a w
  | [], listed, a, _, hs, h => by rw [List.length_nil, Nat.zero_add]; exact hL listed a hs h
  | i :: is, listed, a, hd, hs, h => by
    simp only [headTo, Bool.and_eq_true] at hs
    obtain ⟨⟨hr, hf⟩, hs'⟩ := hs
    have hr' : i ∈ Region.ready md l.toArray listed := by simpa using hr
    obtain ⟨_, o, ho, _⟩ := mem_ready.1 hr'
    have ho' : l[i]? = some o := by simpa using ho
    rw [opsAt_cons ho'] at h
    have hst : qOp P l.toArray C i (wpQuiet P l.toArray C L (opsAt l is)) a := by unfold qOp; simp only [ho]; exact h
    obtain ⟨v, hy, hK⟩ := yieldsIn_of_qOp ho hst
    have hpl : plainB o = true := by
      have := (hd i (by simp)).2
      unfold plainAt at this
      rw [ho] at this
      exact this
    have hyS : YieldsS P l.toArray C o v a := by
      rcases hy with ⟨q1, q2⟩ | q
      · refine .inl ⟨q1, fun W hW => ?_⟩
        have q3 := q2 W hW
        unfold Oper.quietAt at q3
        generalize hrr : (execOp a.eval o).run P W = r at q3 ⊢
        cases r with
        | ok n W' =>
          obtain ⟨u, rfl⟩ := plain_value hpl hrr
          simp only [Oper.quietUpon] at q3
          obtain ⟨e1, e2⟩ := q3
          rw [e1, e2]
        | halt x W' => simp only [Oper.quietUpon] at q3
      · exact .inr q
    rw [List.length_cons, show is.length + 1 + n = (is.length + n) + 1 by omega]
    exact plan_first ho (Region.noSelect_spec hsel) (hd i (by simp)).1 hQ _ listed a w (Region.free_spec ho hf) hr' hyS
      (plan_Hn hsel hQ hL is _ _ (fun h hh => hd h (by simp [hh])) hs' hK)
theorem anyP_anyZ {ops : Array Oper} {H T1 T2 Z : List Nat} (hb : behindB md ops Z T2 = true) (hz : ∀ h ∈ H, h ∈ Z) (hcov : ∀ i, i < ops.size → i ∈ H ∨ i ∈ T1 ∨ i ∈ T2) : ∀ (f : Nat) (listed : Array Bool) (a : Act) (w : World), Closed md ops listed → (C w ∨ ∀ h ∈ H, listed.getD h false = true) →
    AnyP P md ops C Q H T1 f listed a w → wpAny P md ops Q f listed a w
  | 0, _, _, _, _, _, h => h
  | f + 1, listed, a, w, inv, hC, h => by
    refine ⟨fun h0 => absurd h0 h.1, fun i hi => ?_⟩
    rcases h.2 i hi with ⟨hiH, o, v, ho, hy, hK⟩ | ⟨hiH, hop⟩
    · have hCw : C w := by
        rcases hC with q | q
        · exact q
        · have := q i hiH
          rw [getD_both (mem_ready.1 hi).1] at this
          cases this
      exact hy.wpOp ho hCw (anyP_anyZ hb hz hcov f _ _ _ (inv.set hi) (.inl hCw) hK)
    · refine wpOp_mono (fun a' w' hk => anyP_anyZ hb hz hcov f _ a' w' (inv.set hi) ?_ hk.2) hop
      obtain ⟨_, oi, hoi, _⟩ := mem_ready.1 hi
      have hlt : i < ops.size := (Array.getElem?_eq_some_iff.1 hoi).1
      rcases hcov i hlt with q | q | q
      · exact absurd q hiH
      · exact .inl (hk.1 q)
      · exact .inr fun x hx => getD_set_true (behind_spec inv hb q hi x (hz x hx))
def planB2 (md : Region.Mode) (ops : Array Oper) (H A G B T2 : List Nat) : Bool :=
  (Region.noSelect ops && (H ++ G).all (plainAt ops)) && (((List.range ops.size).all (fun i => (H ++ G).contains i || ((A ++ B).contains i || T2.contains i)) && ((A ++ (B ++ T2)).all (fun i => !(H ++ G).contains i) && T2.all (fun i => !(A ++ B).contains i))) &&
    (decide (H.length + (A.length + (G.length + (B.length + T2.length))) = ops.size) && (behindB md ops (H ++ (A ++ (G ++ B))) T2 && headTo md ops (seqTo md ops (headTo md ops (seqTo md ops (seqL md ops T2) B) G) A) H (Array.replicate ops.size false))))
/-- The region by a plan of five parts. -/
theorem wp_region_plan2 {id : Nat} {a : Act} {w : World} (H A G B T2 : List Nat) (hm : P.follows .mixedOrders = true) (hB : planB2 .any l.toArray H A G B T2 = true) (hQ : ∀ c d u a w, Q (.panic c) (Act.put a d u) w → Q (.panic c) a w) (hC : C w.drew)
    (h : wpQuiet P l.toArray C (fun a' => wpT1 P l.toArray C Q (opsAt l A) (fun a w => wpQuiet P l.toArray C (fun a' => wpT1 P l.toArray C Q (opsAt l B) (fun a w => wpList P l.toArray Q (opsAt l T2) a w) a' w) (opsAt l G) a) a' w.drew) (opsAt l H) a) : (Code.region id l.toArray true).wp P Q a w := by
  simp only [planB2, Bool.and_eq_true, decide_eq_true_eq, List.all_eq_true, Bool.or_eq_true, List.contains_iff_mem, Bool.not_eq_true'] at hB
  obtain ⟨⟨hsel, hpl⟩, ⟨hcov, hd1, hd2⟩, hlen, hbe, hhd⟩ := hB
  refine wp_region_any hm ?_
  have inv0 : Closed .any l.toArray (Array.replicate l.toArray.size false) := fun j oj _ hl => by rw [getD_replicate_false] at hl; cases hl
  have hd1' : ∀ t ∈ A ++ (B ++ T2), t ∉ H ++ G := fun t ht q => by
    have := hd1 t ht
    rw [List.contains_eq_mem, decide_eq_true q] at this
    cases this
  have hd2' : ∀ t ∈ T2, t ∉ A ++ B := fun t ht q => by
    have := hd2 t ht
    rw [List.contains_eq_mem, decide_eq_true q] at this
    cases this
  have h2 : ∀ t ∈ T2, t ∉ H ++ G ∧ t ∉ A ++ B := fun t ht => ⟨hd1' t (by simp [ht]), hd2' t ht⟩
  have := plan_Hn (C := C) (md := .any) (H := H ++ G) (T1 := A ++ B) (S := seqTo .any l.toArray (headTo .any l.toArray (seqTo .any l.toArray (seqL .any l.toArray T2) B) G) A) hsel hQ
    (fun listed a hs hl => plan_A (S := headTo .any l.toArray (seqTo .any l.toArray (seqL .any l.toArray T2) B) G)
      (fun listed a w hs hl => plan_Hn (S := seqTo .any l.toArray (seqL .any l.toArray T2) B) hsel hQ
        (fun listed a hs hl => plan_A (S := seqL .any l.toArray T2) (fun listed a w hs hl => plan_T2 T2 listed a w h2 hs hl) B listed a w (fun t ht => hd1' t (by simp [ht])) hs hl)
        G listed a (fun h hh => ⟨by simp [hh], hpl h (by simp [hh])⟩) hs hl)
      A listed a w.drew (fun t ht => hd1' t (by simp [ht])) hs hl) H _ a (fun h hh => ⟨by simp [hh], hpl h (by simp [hh])⟩) hhd h
  rw [hlen] at this
  exact anyP_anyZ hbe (fun x hx => by simp at hx ⊢; rcases hx with q | q <;> simp [q]) (fun i hi => by
    rcases hcov i (List.mem_range.2 hi) with q | q | q
    · exact .inl q
    · exact .inr (.inl q)
    · exact .inr (.inr q)) _ _ _ _ inv0 (.inl hC) this
/-- Behind the last early operation, where nothing is left. -/
theorem check_last {S : List Nat} {w w' : World} {K : Act → World → Prop} {a : Act} (hO : Only S w w') (hK : ∀ a w, Q .normal a w → K a w) (h : Q .normal a w') : CheckQ (fun W => ∃ p : Within S w, W = p.W) Q K .normal a w' := ⟨⟨⟨w', hO⟩, rfl⟩, hK _ _ h⟩
theorem wp_region_in2 {id : Nat} {a : Act} {w : World} (S H A G B T2 : List Nat) (hm : P.follows .mixedOrders = true) (hB : planB2 .any l.toArray H A G B T2 = true) (hQ : ∀ c d u a w, Q (.panic c) (Act.put a d u) w → Q (.panic c) a w)
    (h : wpQuiet P l.toArray (fun W => ∃ p : Within S w, W = p.W) (fun a' => wpT1 P l.toArray (fun W => ∃ p : Within S w, W = p.W) Q (opsAt l A) (fun a W => wpQuiet P l.toArray (fun W => ∃ p : Within S w, W = p.W) (fun a' => wpT1 P l.toArray (fun W => ∃ p : Within S w, W = p.W) Q (opsAt l B) (fun a w => wpList P l.toArray Q (opsAt l T2) a w) a' W) (opsAt l G) a) a' w.drew) (opsAt l H) a) : (Code.region id l.toArray true).wp P Q a w :=
  wp_region_plan2 H A G B T2 hm hB hQ ⟨⟨_, (Only.refl S w).drew⟩, rfl⟩ h
end
end Go.Proofs.YtfjkjndpndjfpaaGreatDoor
/- Regions that draw their order: plans of many parts, and invariants over all orders; what a call keeps. No program is named. -/
set_option linter.unusedVariables false
set_option linter.unusedSimpArgs false
namespace Go.Proofs.YtfjkjndpndjfpaaGreatDoor
open Go Go.RowKit Go.Sort
/-! ## what a call keeps: the blocks below a, and those of R -/
structure Keeps (a : World) (R : List Nat) (w w' : World) : Prop where
  ex : ∃ S, Only S w w' ∧ ∀ g ∈ S, a.heap.size ≤ g ∧ g ∉ R
section
variable {a w w' w'' : World} {R R' : List Nat}
theorem Keeps.of0 (h : Only [] w w') : Keeps a R w w' := ⟨[], h, by simp⟩
theorem Keeps.refl (a : World) (R : List Nat) (w : World) : Keeps a R w w := .of0 (Only.refl _ _)
theorem Keeps.trans (h : Keeps a R w w') (k : Keeps a R w' w'') : Keeps a R w w'' := by
  obtain ⟨S, h1, h2⟩ := h
  obtain ⟨T, k1, k2⟩ := k
  refine ⟨S ++ T, (h1.mono (fun g hg => List.mem_append_left _ hg)).trans (k1.mono (fun g hg => List.mem_append_right _ hg)), fun g hg => ?_⟩
  rcases List.mem_append.1 hg with q | q
  · exact h2 g q
  · exact k2 g q
theorem Keeps.then0 (h : Keeps a R w w') (k : Only [] w' w'') : Keeps a R w w'' := h.trans (.of0 k)
theorem Keeps.alloc (h : Keeps a R w w') (o : Obj) : Keeps a R w (w'.alloc o) := h.then0 ((Only.refl _ _).alloc o)
theorem Keeps.drew (h : Keeps a R w w') : Keeps a R w w'.drew := h.then0 (Only.refl _ _).drew
theorem Keeps.setCell (h : Keeps a R w w') {p : Addr} (hp : a.heap.size ≤ p.block ∧ p.block ∉ R) (u : Value) : Keeps a R w (w'.setCell p u) :=
  h.trans ⟨[p.block], (Only.refl _ _).setCell (.inl (by simp)) u, by simpa using hp⟩
theorem Keeps.less (h : Keeps a R w w') (hr : ∀ g ∈ R', g ∈ R) : Keeps a R' w w' := by
  obtain ⟨S, h1, h2⟩ := h
  exact ⟨S, h1, fun g hg => ⟨(h2 g hg).1, fun q => (h2 g hg).2 (hr g q)⟩⟩
theorem Keeps.size (h : Keeps a R w w') : w.heap.size ≤ w'.heap.size := by
  obtain ⟨S, h1, _⟩ := h
  exact h1.size
theorem Keeps.block (h : Keeps a R w w') {g : Nat} (hl : g < w.heap.size) (hg : g < a.heap.size ∨ g ∈ R) : w'.heap[g]? = w.heap[g]? := by
  obtain ⟨S, h1, h2⟩ := h
  refine h1.block g hl fun q => ?_
  have := h2 g q
  rcases hg with hg | hg
  · omega
  · exact this.2 hg
theorem Keeps.blk (h : Keeps a R w w') {g : Nat} {t : TypeId} {cs : Array Value} (hb : Blk w g t cs) (hg : g < a.heap.size ∨ g ∈ R) : Blk w' g t cs := hb.of_eq (h.block hb.lt hg)
theorem Keeps.cell (h : Keeps a R w w') {p : Addr} (hl : p.block < w.heap.size) (hg : p.block < a.heap.size ∨ p.block ∈ R) : w'.cell? p = w.cell? p := World.cell?_of_block (h.block hl hg)
theorem Keeps.slc (h : Keeps a R w w') {size n : Nat} {v : Value} {cs : List Value} (hs : Slc w size v n cs) (hg : ∀ g, v.ownBlock = some g → g < a.heap.size ∨ g ∈ R) : Slc w' size v n cs :=
  hs.keep h.size fun g h1 h2 => h.block h2 (hg g h1)
theorem Keeps.own (h : Keeps a R w w') {base size n : Nat} {e : TypeId} {v : Value} {xs : List Value} (hs : w.ownsRow base e size v n xs) (hg : ∀ g, v.ownBlock = some g → g < a.heap.size ∨ g ∈ R) : w'.ownsRow base e size v n xs := by
  obtain ⟨h1, h2⟩ := hs
  rcases h2 with ⟨rfl, rfl⟩ | ⟨g, cap, cur, rfl, hb, hg', q⟩
  · exact ⟨h1, .inl ⟨rfl, rfl⟩⟩
  · exact ⟨h1, .inr ⟨g, cap, cur, rfl, hb, (h.block (lt_of_block hg') (hg g rfl)).trans hg', q⟩⟩
theorem Keeps.only (h : Keeps a R w w') (ha : Only [] a w) : Only [] a w' := by
  obtain ⟨S, h1, h2⟩ := h
  exact ha.step h1 (fun g hg => .inr (h2 g hg).1)
/-- A world that a call may leave. -/
structure Kept (a : World) (R : List Nat) (w : World) where
  W : World
  h : Keeps a R w W
instance (a : World) (R : List Nat) (w : World) : Nonempty (Kept a R w) := ⟨⟨w, Keeps.refl a R w⟩⟩
theorem Kept.cell {x : Addr} {v : Value} (hc : w.cell? x = some v) (hn : x.block < a.heap.size ∨ x.block ∈ R) (p : Kept a R w) : p.W.cell? x = some v := (p.h.cell (block_lt_of_cell hc) hn).trans hc
end
/-! ## plans of many parts -/
section
variable {P : Program} {md : Region.Mode} {C : World → Prop} {Q : Exit → Act → World → Prop} {l : List Oper}
def stagesTo (md : Region.Mode) (ops : Array Oper) (S : Array Bool → Bool) : List (List Nat × List Nat) → Array Bool → Bool
  | [], listed => S listed
  | (H, A) :: r, listed => headTo md ops (seqTo md ops (stagesTo md ops S r) A) H listed
def wpStages (P : Program) (l : List Oper) (C : World → Prop) (Q : Exit → Act → World → Prop) (K : Act → World → Prop) : List (List Nat × List Nat) → Act → World → Prop
  | [] => K
  | (H, A) :: r => fun a w => wpQuiet P l.toArray C (fun a' => wpT1 P l.toArray C Q (opsAt l A) (wpStages P l C Q K r) a' w) (opsAt l H) a
def stLen : List (List Nat × List Nat) → Nat → Nat
  | [], n => n
  | (H, A) :: r, n => H.length + (A.length + stLen r n)
theorem plan_stages {H T1 : List Nat} {n : Nat} {S : Array Bool → Bool} {K : Act → World → Prop} (hsel : Region.noSelect l.toArray = true) (hQ : ∀ c d u a w, Q (.panic c) (Act.put a d u) w → Q (.panic c) a w)
    (hK : ∀ listed a w, S listed = true → K a w → AnyP P md l.toArray C Q H T1 n listed a w) :
    ∀ (st : List (List Nat × List Nat)) (listed : Array Bool) (a : Act) (w : World), (∀ p ∈ st, (∀ h ∈ p.1, h ∈ H ∧ plainAt l.toArray h = true) ∧ ∀ t ∈ p.2, t ∉ H) → stagesTo md l.toArray S st listed = true → wpStages P l C Q K st a w →
      AnyP P md l.toArray C Q H T1 (stLen st n) listed a w
  | [], listed, a, w, _, hs, h => hK listed a w hs h
  | (H1, A) :: r, listed, a, w, hd, hs, h =>
    plan_Hn (S := seqTo md l.toArray (stagesTo md l.toArray S r) A) hsel hQ
      (fun listed a hs h => plan_A (S := stagesTo md l.toArray S r) (fun listed a w hs h => plan_stages hsel hQ hK r listed a w (fun p hp => hd p (by simp [hp])) hs h) A listed a w (hd (H1, A) (by simp)).2 hs h)
      H1 listed a (hd (H1, A) (by simp)).1 hs h
def stOrder : List (List Nat × List Nat) → List Nat
  | [] => []
  | (H, A) :: r => H ++ (A ++ stOrder r)
def planS (md : Region.Mode) (ops : Array Oper) (st : List (List Nat × List Nat)) (T2 : List Nat) : Bool :=
  (Region.noSelect ops && ((st.flatMap (·.1)).all (plainAt ops) && (st.flatMap (·.2)).all (fun i => !(st.flatMap (·.1)).contains i))) &&
    (((List.range ops.size).all (fun i => (st.flatMap (·.1)).contains i || ((st.flatMap (·.2)).contains i || T2.contains i)) && T2.all (fun i => !(st.flatMap (·.1)).contains i && !(st.flatMap (·.2)).contains i)) &&
      ((st.flatMap (·.1)).all (fun i => (stOrder st).contains i) && (decide (stLen st T2.length = ops.size) && (behindB md ops (stOrder st) T2 && stagesTo md ops (seqL md ops T2) st (Array.replicate ops.size false)))))
theorem wp_region_stages {id : Nat} {a : Act} {w : World} (st : List (List Nat × List Nat)) (T2 : List Nat) (hm : P.follows .mixedOrders = true) (hB : planS .any l.toArray st T2 = true) (hQ : ∀ c d u a w, Q (.panic c) (Act.put a d u) w → Q (.panic c) a w) (hC : C w.drew)
    (h : wpStages P l C Q (fun a w => wpList P l.toArray Q (opsAt l T2) a w) st a w.drew) : (Code.region id l.toArray true).wp P Q a w := by
  simp only [planS, Bool.and_eq_true, decide_eq_true_eq, List.all_eq_true, Bool.or_eq_true, List.contains_iff_mem, Bool.not_eq_true'] at hB
  obtain ⟨⟨hsel, hpl, hd1⟩, ⟨hcov, hd2⟩, hz, hlen, hbe, hst⟩ := hB
  refine wp_region_any hm ?_
  have inv0 : Closed .any l.toArray (Array.replicate l.toArray.size false) := fun j oj _ hl => by rw [getD_replicate_false] at hl; cases hl
  have no : ∀ {L : List Nat} {t : Nat}, L.contains t = false → t ∉ L := fun {L t} h q => by rw [List.contains_eq_mem, decide_eq_true q] at h; cases h
  have := plan_stages (C := C) (md := .any) (H := st.flatMap (·.1)) (T1 := st.flatMap (·.2)) (S := seqL .any l.toArray T2) hsel hQ
    (fun listed a w hs h => plan_T2 T2 listed a w (fun t ht => ⟨no (hd2 t ht).1, no (hd2 t ht).2⟩) hs h) st _ a w.drew
    (fun p hp => ⟨fun x hx => ⟨List.mem_flatMap.2 ⟨p, hp, hx⟩, hpl x (List.mem_flatMap.2 ⟨p, hp, hx⟩)⟩, fun t ht => no (hd1 t (List.mem_flatMap.2 ⟨p, hp, ht⟩))⟩) hst h
  rw [hlen] at this
  exact anyP_anyZ hbe (fun x hx => hz x hx) (fun i hi => by
    rcases hcov i (List.mem_range.2 hi) with q | q | q
    · exact .inl q
    · exact .inr (.inl q)
    · exact .inr (.inr q)) _ _ _ _ inv0 (.inl hC) this
/-! ## an invariant over all orders -/
def reachB (md : Region.Mode) (ops : Array Oper) (T : List Nat) : Nat → Array Bool → Bool
  | 0, listed => (Region.ready md ops listed).isEmpty && T.all fun t => listed.getD t false
  | f + 1, listed => !(Region.ready md ops listed).isEmpty && (Region.ready md ops listed).all fun i => reachB md ops T f (listed.setIfInBounds i true)
def listedOf (n : Nat) (H : List Nat) : Array Bool := H.foldl (fun a i => a.setIfInBounds i true) (Array.replicate n false)
def planI (md : Region.Mode) (ops : Array Oper) (H T : List Nat) : Bool :=
  (Region.noSelect ops && H.all (plainAt ops)) && (((List.range ops.size).all (fun i => H.contains i || T.contains i) && T.all (fun i => !H.contains i)) &&
    (decide (H.length + T.length = ops.size) && headTo md ops (fun listed => decide (listed = listedOf ops.size H) && reachB md ops T T.length listed) H (Array.replicate ops.size false)))
theorem flag_set {listed : Array Bool} {i : Nat} (h : listed.getD i true = false) (j : Nat) : (listed.setIfInBounds i true).getD j false = (decide (i = j) || listed.getD j false) := by
  have hi : i < listed.size := by
    rcases Nat.lt_or_ge i listed.size with q | q
    · exact q
    · simp [Array.getElem?_eq_none q] at h
  by_cases e : i = j
  · subst e
    simp [hi]
  · simp [e, Array.getElem?_setIfInBounds_ne e]
theorem plan_inv {H T : List Nat} {Inv : Array Bool → Act → World → Prop} (hcov : ∀ i, i < l.length → i ∈ H ∨ i ∈ T) (hd : ∀ t ∈ T, t ∉ H)
    (hstep : ∀ i ∈ T, ∀ listed a w, i ∈ Region.ready md l.toArray listed → Inv listed a w → wpList P l.toArray (CheckQ C Q (Inv (listed.setIfInBounds i true))) (opsAt l [i]) a w)
    (hend : ∀ listed a w, Inv listed a w → (∀ t ∈ T, listed.getD t false = true) → Q .normal a w) :
    ∀ (n : Nat) (listed : Array Bool) (a : Act) (w : World), (∀ h ∈ H, listed.getD h false = true) → reachB md l.toArray T n listed = true → Inv listed a w → AnyP P md l.toArray C Q H T n listed a w
  | 0, listed, a, w, _, hr, h => by
    simp only [reachB, Bool.and_eq_true, List.all_eq_true] at hr
    exact ⟨by simpa using hr.1, hend listed a w h hr.2⟩
  | n + 1, listed, a, w, hH, hr, h => by
    simp only [reachB, Bool.and_eq_true, List.all_eq_true, Bool.not_eq_true'] at hr
    refine ⟨fun q => by rw [q] at hr; simp at hr, fun i hi => ?_⟩
    obtain ⟨hun, o, ho, _⟩ := mem_ready.1 hi
    have ho' : l[i]? = some o := by simpa using ho
    have hiH : i ∉ H := fun q => by
      have := hH i q
      rw [getD_both hun] at this
      cases this
    have hlt : i < l.length := (List.getElem?_eq_some_iff.1 ho').1
    have hiT : i ∈ T := (hcov i hlt).resolve_left hiH
    refine .inr ⟨hiH, ?_⟩
    have hs := hstep i hiT listed a w hi h
    rw [opsAt_cons ho'] at hs
    have hw := wpOp_check (i := i) ho hs
    exact wpOp_mono (fun a' w' h' => ⟨fun _ => h'.1, plan_inv hcov hd hstep hend n _ a' w' (fun x hx => getD_set_true (hH x hx)) (hr.2 i hi) h'.2⟩) hw
theorem listedOf_true {H : List Nat} (hpl : ∀ x ∈ H, plainAt l.toArray x = true) : ∀ h ∈ H, (listedOf l.toArray.size H).getD h false = true := by
  have step : ∀ (L : List Nat) (A : Array Bool) (h : Nat), A.size = l.toArray.size → (h ∈ L ∧ h < l.toArray.size ∨ A.getD h false = true) → (L.foldl (fun a i => a.setIfInBounds i true) A).getD h false = true := by
    intro L
    induction L with
    | nil => intro A h _ q; rcases q with ⟨q, _⟩ | q; cases q; exact q
    | cons x L ih =>
      intro A h hs q
      refine ih _ h (by simpa using hs) ?_
      rcases q with ⟨q, hlt⟩ | q
      · rcases List.mem_cons.1 q with rfl | q
        · right
          simp [hs ▸ hlt]
        · exact .inl ⟨q, hlt⟩
      · exact .inr (getD_set_true q)
  intro h hh
  refine step H _ h (by simp) (.inl ⟨hh, ?_⟩)
  have := hpl h hh
  unfold plainAt at this
  split at this
  · rename_i o ho
    exact (Array.getElem?_eq_some_iff.1 ho).1
  · cases this
/-- The invariant is chosen behind the reads. -/
def InvGo (P : Program) (l : List Oper) (C : World → Prop) (Q : Exit → Act → World → Prop) (H T : List Nat) (a0 : Act) (w0 : World) : Prop :=
  ∃ Inv : Array Bool → Act → World → Prop, Inv (listedOf l.toArray.size H) a0 w0 ∧
    (∀ i ∈ T, ∀ listed a w, i ∈ Region.ready .any l.toArray listed → Inv listed a w → wpList P l.toArray (CheckQ C Q (Inv (listed.setIfInBounds i true))) (opsAt l [i]) a w) ∧
    ∀ listed a w, Inv listed a w → (∀ t ∈ T, listed.getD t false = true) → Q .normal a w
theorem inv_intro {H T : List Nat} {a0 : Act} {w0 : World} (I : Act → Array Bool → Act → World → Prop) (h0 : I a0 (listedOf l.toArray.size H) a0 w0)
    (hstep : ∀ i ∈ T, ∀ listed a w, i ∈ Region.ready .any l.toArray listed → I a0 listed a w → wpList P l.toArray (CheckQ C Q (I a0 (listed.setIfInBounds i true))) (opsAt l [i]) a w)
    (hend : ∀ listed a w, I a0 listed a w → (∀ t ∈ T, listed.getD t false = true) → Q .normal a w) : InvGo P l C Q H T a0 w0 := ⟨I a0, h0, hstep, hend⟩
theorem wp_region_inv2 {id : Nat} {a : Act} {w : World} (H T : List Nat) (hm : P.follows .mixedOrders = true) (hB : planI .any l.toArray H T = true) (hQ : ∀ c d u a w, Q (.panic c) (Act.put a d u) w → Q (.panic c) a w) (hC : C w.drew)
    (h : wpQuiet P l.toArray C (fun a' => InvGo P l C Q H T a' w.drew) (opsAt l H) a) : (Code.region id l.toArray true).wp P Q a w := by
  simp only [planI, Bool.and_eq_true, decide_eq_true_eq, List.all_eq_true, Bool.or_eq_true, List.contains_iff_mem, Bool.not_eq_true'] at hB
  obtain ⟨⟨hsel, hpl⟩, ⟨hcov, hd1⟩, hlen, hhd⟩ := hB
  refine wp_region_any hm ?_
  have inv0 : Closed .any l.toArray (Array.replicate l.toArray.size false) := fun j oj _ hl => by rw [getD_replicate_false] at hl; cases hl
  have no : ∀ {L : List Nat} {t : Nat}, L.contains t = false → t ∉ L := fun {L t} h q => by rw [List.contains_eq_mem, decide_eq_true q] at h; cases h
  have hl0 := listedOf_true (l := l) hpl
  have := plan_Hn (C := C) (md := .any) (H := H) (T1 := T) (n := T.length) (S := fun listed => decide (listed = listedOf l.toArray.size H) && reachB .any l.toArray T T.length listed) (L := fun a' => InvGo P l C Q H T a' w.drew) (w := w.drew) hsel hQ
    (fun listed a hs h => by
      simp only [Bool.and_eq_true, decide_eq_true_eq] at hs
      obtain ⟨rfl, hs⟩ := hs
      obtain ⟨Inv, h0, hstep, hend⟩ := h
      exact plan_inv (C := C) (fun i hi => hcov i (by simpa using hi)) (fun t ht => no (hd1 t ht)) hstep hend T.length _ a w.drew hl0 hs h0) H _ a (fun h hh => ⟨hh, hpl h hh⟩) hhd h
  rw [hlen] at this
  exact anyP_any (T2 := []) rfl (fun i hi => by
    rcases hcov i (List.mem_range.2 hi) with q | q
    · exact .inl q
    · exact .inr (.inl q)) _ _ _ _ inv0 (.inl hC) this
/-- What a ready operation tells of the flags. -/
theorem ready_dep {listed : Array Bool} {i : Nat} (hr : i ∈ Region.ready md l.toArray listed) (j : Nat) (hw : Region.waitsFor md l.toArray i j = true) : listed.getD j false = true := by
  obtain ⟨oj, hoj, e, he, hb, hon⟩ := Region.waitsFor_spec hw
  obtain ⟨_, o', ho', hall⟩ := mem_ready.1 hr
  have : o' = oj := Option.some.inj (ho'.symm.trans hoj)
  subst this
  rw [← hon]; exact hall e he hb
theorem ready_self {listed : Array Bool} {i : Nat} (hr : i ∈ Region.ready md l.toArray listed) : listed.getD i false = false ∧ listed.getD i true = false := ⟨getD_both (mem_ready.1 hr).1, (mem_ready.1 hr).1⟩
/-- Behind an early operation: the class Kept. -/
theorem check_kept {a0 : World} {R : List Nat} {w w' : World} {K : Act → World → Prop} {a : Act} (hO : Keeps a0 R w w') (h : K a w') : CheckQ (fun W => ∃ p : Kept a0 R w, W = p.W) Q K .normal a w' := ⟨⟨⟨w', hO⟩, rfl⟩, h⟩
end
end Go.Proofs.YtfjkjndpndjfpaaGreatDoor
/- A region that draws its order, by a plan with a fork: reads; two early ones, in either order; further early ones; the rest. No program is named. -/
set_option linter.unusedVariables false
set_option linter.unusedSimpArgs false
namespace Go.Proofs.YtfjkjndpndjfpaaGreatDoor
open Go Go.RowKit Go.Sort
section
variable {P : Program} {md : Region.Mode} {C : World → Prop} {Q : Exit → Act → World → Prop} {l : List Oper}
def forkTo (md : Region.Mode) (ops : Array Oper) (S : Array Bool → Bool) (x y : Nat) (listed : Array Bool) : Bool :=
  (decide (Region.ready md ops listed = [x, y]) || decide (Region.ready md ops listed = [y, x])) && (seqTo md ops S [y] (listed.setIfInBounds x true) && seqTo md ops S [x] (listed.setIfInBounds y true))
theorem plan_fork {H T1 : List Nat} {n : Nat} {S : Array Bool → Bool} {L : Act → World → Prop} (hL : ∀ listed a w, S listed = true → L a w → AnyP P md l.toArray C Q H T1 n listed a w)
    (x y : Nat) (listed : Array Bool) (a : Act) (w : World) (hx : x ∉ H) (hy : y ∉ H) (hs : forkTo md l.toArray S x y listed = true) (h1 : wpT1 P l.toArray C Q (opsAt l [x, y]) L a w) (h2 : wpT1 P l.toArray C Q (opsAt l [y, x]) L a w) :
    AnyP P md l.toArray C Q H T1 (n + 1 + 1) listed a w := by
  simp only [forkTo, Bool.and_eq_true, Bool.or_eq_true, decide_eq_true_eq] at hs
  obtain ⟨hr, s1, s2⟩ := hs
  have hmem : ∀ i, i ∈ Region.ready md l.toArray listed ↔ i = x ∨ i = y := fun i => by
    rcases hr with q | q
    · rw [q]; simp
    · rw [q]; simp [or_comm]
  have step : ∀ u v, u ∉ H → v ∉ H → u ∈ Region.ready md l.toArray listed → seqTo md l.toArray S [v] (listed.setIfInBounds u true) = true → wpT1 P l.toArray C Q (opsAt l [u, v]) L a w →
      (u ∈ H ∧ ∃ o v', l.toArray[u]? = some o ∧ YieldsS P l.toArray C o v' a ∧ AnyP P md l.toArray C Q H T1 (n + 1) (listed.setIfInBounds u true) (a.put o.dst v') w) ∨
      (u ∉ H ∧ wpOp P l.toArray Q u (fun a' w' => (u ∈ T1 → C w') ∧ AnyP P md l.toArray C Q H T1 (n + 1) (listed.setIfInBounds u true) a' w') a w) := by
    intro u v hu hv hmu hs hh
    obtain ⟨_, o, ho, _⟩ := mem_ready.1 hmu
    have ho' : l[u]? = some o := by simpa using ho
    rw [opsAt_cons ho'] at hh
    refine .inr ⟨hu, ?_⟩
    have hw := wpOp_check (i := u) (by simpa using ho') hh
    refine wpOp_mono (fun a' w' h' => ⟨fun _ => h'.1, ?_⟩) hw
    have := plan_A (H := H) (T1 := T1) hL [v] (listed.setIfInBounds u true) a' w' (by simpa using hv) hs h'.2
    rwa [List.length_singleton, Nat.add_comm] at this
  refine ⟨fun q => by (rcases hr with r | r <;> rw [r] at q <;> cases q), fun i hi => ?_⟩
  rcases (hmem i).1 hi with rfl | rfl
  · exact step i y hx hy hi s1 h1
  · exact step i x hy hx hi s2 h2
/-- What the two early ones lead to, in either order; and what follows. -/
def ForkGo (P : Program) (l : List Oper) (C : World → Prop) (Q : Exit → Act → World → Prop) (x y : Nat) (R : Act → World → Prop) (a0 : Act) (w0 : World) : Prop :=
  ∃ M : Act → World → Prop, wpT1 P l.toArray C Q (opsAt l [x, y]) M a0 w0 ∧ wpT1 P l.toArray C Q (opsAt l [y, x]) M a0 w0 ∧ ∀ a w, M a w → R a w
theorem fork_intro {x y : Nat} {R : Act → World → Prop} {a0 : Act} {w0 : World} (M : Act → Act → World → Prop) (h1 : wpT1 P l.toArray C Q (opsAt l [x, y]) (M a0) a0 w0) (h2 : wpT1 P l.toArray C Q (opsAt l [y, x]) (M a0) a0 w0)
    (h3 : ∀ a w, M a0 a w → R a w) : ForkGo P l C Q x y R a0 w0 := ⟨M a0, h1, h2, h3⟩
def planF (md : Region.Mode) (ops : Array Oper) (H : List Nat) (x y : Nat) (T1 T2 : List Nat) : Bool :=
  (Region.noSelect ops && H.all (plainAt ops)) && (((List.range ops.size).all (fun i => H.contains i || ((x :: y :: T1).contains i || T2.contains i)) && ((x :: y :: (T1 ++ T2)).all (fun i => !H.contains i) && T2.all (fun i => !(x :: y :: T1).contains i))) &&
    (decide (H.length + ((T1 ++ T2).length + 1 + 1) = ops.size) && (behindB md ops (H ++ (x :: y :: T1)) T2 && headTo md ops (forkTo md ops (seqL md ops (T1 ++ T2)) x y) H (Array.replicate ops.size false))))
theorem wp_region_fork {id : Nat} {a : Act} {w : World} (S H : List Nat) (x y : Nat) (T1 T2 : List Nat) (hm : P.follows .mixedOrders = true) (hB : planF .any l.toArray H x y T1 T2 = true) (hQ : ∀ c d u a w, Q (.panic c) (Act.put a d u) w → Q (.panic c) a w)
    (h : wpQuiet P l.toArray (fun W => ∃ p : Within S w, W = p.W) (fun a' => ForkGo P l (fun W => ∃ p : Within S w, W = p.W) Q x y (wpT1 P l.toArray (fun W => ∃ p : Within S w, W = p.W) Q (opsAt l T1) (fun a w => wpList P l.toArray Q (opsAt l T2) a w)) a' w.drew) (opsAt l H) a) : (Code.region id l.toArray true).wp P Q a w := by
  simp only [planF, Bool.and_eq_true, decide_eq_true_eq, List.all_eq_true, Bool.or_eq_true, List.contains_iff_mem, Bool.not_eq_true'] at hB
  obtain ⟨⟨hsel, hpl⟩, ⟨hcov, hd1, hd2⟩, hlen, hbe, hhd⟩ := hB
  refine wp_region_any hm ?_
  have inv0 : Closed .any l.toArray (Array.replicate l.toArray.size false) := fun j oj _ hl => by rw [getD_replicate_false] at hl; cases hl
  have hd1' : ∀ t ∈ x :: y :: (T1 ++ T2), t ∉ H := fun t ht q => by
    have := hd1 t ht
    rw [List.contains_eq_mem, decide_eq_true q] at this
    cases this
  have hd2' : ∀ t ∈ T2, t ∉ x :: y :: T1 := fun t ht q => by
    have := hd2 t ht
    rw [List.contains_eq_mem, decide_eq_true q] at this
    cases this
  have h2 : ∀ t ∈ T2, t ∉ H ∧ t ∉ x :: y :: T1 := fun t ht => ⟨hd1' t (by simp [ht]), hd2' t ht⟩
  have := plan_Hn (C := fun W => ∃ p : Within S w, W = p.W) (md := .any) (H := H) (T1 := x :: y :: T1) (S := forkTo .any l.toArray (seqL .any l.toArray (T1 ++ T2)) x y) hsel hQ
    (fun listed a hs hl => by
      obtain ⟨M, m1, m2, m3⟩ := hl
      exact plan_fork (S := seqL .any l.toArray (T1 ++ T2)) (L := M) (fun listed a w hs hM => plan_T1 h2 T1 listed a w (fun t ht => hd1' t (by simp [ht])) hs (m3 a w hM)) x y listed a w.drew (hd1' x (by simp)) (hd1' y (by simp)) hs m1 m2) H _ a (fun h hh => ⟨hh, hpl h hh⟩) hhd h
  rw [hlen] at this
  exact anyP_anyZ hbe (fun x hx => by simp [hx]) (fun i hi => by
    rcases hcov i (List.mem_range.2 hi) with q | q | q
    · exact .inl q
    · exact .inr (.inl q)
    · exact .inr (.inr q)) _ _ _ _ inv0 (.inl ⟨⟨_, (Only.refl S w).drew⟩, rfl⟩) this
end
end Go.Proofs.YtfjkjndpndjfpaaGreatDoor
/- The base of the texts about logs: rows of one's own, slices that are read, appends as runs, strings that are compared. -/
set_option linter.unusedVariables false
set_option linter.unusedSimpArgs false
namespace Go.Proofs.YtfjkjndpndjfpaaGreatDoor
open Go.RowKit Go
theorem ret_b {a b : Bool} (h : a = b) : Ending.returned (.bool a) = .returned (.bool b) := by rw [h]
theorem ret_i {a b : Int} (h : a = b) : Ending.returned (.int .i64 a) = .returned (.int .i64 b) := by rw [h]
theorem own_form {w : World} {base size n : Nat} {e : TypeId} {v : Value} {xs : List Value} (h : w.ownsRow base e size v n xs) : ∃ A cap, v = .slice A n cap ∧ n ≤ cap ∧ cap ≤ maxLen := by
  obtain ⟨_, h2⟩ := h
  rcases h2 with ⟨rfl, rfl⟩ | ⟨g, cap, cur, rfl, hb, hg, hn, hc, _⟩
  · exact ⟨none, 0, rfl, Nat.le_refl _, Nat.zero_le _⟩
  · exact ⟨_, cap, rfl, hn, hc⟩
theorem own_base {w : World} {base base' size n : Nat} {e : TypeId} {v : Value} {xs : List Value} (h : w.ownsRow base e size v n xs) (hb : base' ≤ base) : w.ownsRow base' e size v n xs := by
  obtain ⟨h1, h2⟩ := h
  rcases h2 with q | ⟨g, cap, cur, q1, q2, q3⟩
  · exact ⟨h1, .inl q⟩
  · exact ⟨h1, .inr ⟨g, cap, cur, q1, Nat.le_trans hb q2, q3⟩⟩
theorem own_some {w : World} {base size n : Nat} {e : TypeId} {v : Value} {xs : List Value} (h : w.ownsRow base e size v n xs) (h0 : 0 < n) : ∃ g cap cur, v = .slice (some ⟨g, 0, none⟩) n cap ∧ base ≤ g ∧ Blk w g e cur := by
  obtain ⟨_, h2⟩ := h
  rcases h2 with ⟨rfl, rfl⟩ | ⟨g, cap, cur, rfl, hb, hg, _⟩
  · omega
  · exact ⟨g, cap, cur, rfl, hb, hg⟩
theorem own_type {w : World} {base size n : Nat} {e : TypeId} {v : Value} {xs : List Value} (h : w.ownsRow base e size v n xs) {g : Nat} (hg : v.ownBlock = some g) : ∃ cur, Blk w g e cur := by
  obtain ⟨_, h2⟩ := h
  rcases h2 with ⟨rfl, rfl⟩ | ⟨g', cap, cur, rfl, hb, hg', _⟩
  · cases hg
  · cases hg; exact ⟨cur, hg'⟩
theorem slc_new1 {w : World} {e : TypeId} {size : Nat} {cs : List Value} (hs : cs.length = 1 * size) : Slc (w.alloc (.cells cs.toArray e)) size (.slice (some ⟨w.heap.size, 0, none⟩) 1 1) 1 cs := by
  have hb := Blk.new w e cs.toArray
  refine ⟨_, 1, rfl, hs, Nat.le_refl _, by simp [maxLen], fun _ => ⟨w.heap.size, 0, rfl, hb.lt, fun j hj => ?_⟩⟩
  rw [Nat.zero_add, hb.cell j]
  simp
theorem slc_take {w : World} {size n cap k : Nat} {A : Option Addr} {cs : List Value} (h : Slc w size (.slice A n cap) n cs) (hk : k ≤ n) : Slc w size (.slice A k cap) k (cs.take (k * size)) := by
  obtain ⟨A', cap', e, h1, h2, h3, h4⟩ := h
  injection e with e1 e2 e3
  subst e1 e3
  have hm : k * size ≤ n * size := Nat.mul_le_mul_right _ hk
  refine ⟨A, cap, rfl, by rw [List.length_take, h1]; omega, by omega, h3, fun hn => ?_⟩
  obtain ⟨b, off, rfl, hb, hc⟩ := h4 (by omega)
  refine ⟨b, off, rfl, hb, fun j hj => ?_⟩
  rw [List.length_take] at hj
  rw [hc j (by omega), List.getElem?_take, if_pos (by omega)]
/-! ## DeleteFunc of texts that are not too long, by a closure that holds nothing -/
theorem run_append_zero {P : Program} (w : World) (t e ty : TypeId) (A B : Option Addr) (size n cap c : Nat) (ht : P.underlying t = some (.slice e)) (hs : (Go.sizeOf e).run P w = .ok size w) (hnc : n ≤ cap) :
    (Builtin.append_ #[t, t] ty #[.slice A n cap, .slice B 0 c]).run P w = .ok (.slice A n cap) w := by
  cases A <;> cases B <;> simp [Builtin.append_, run_underlying ht, hs, hnc, Builtin.lenOf, Builtin.firstCells, storeCells, loadCells, loadCellsFrom]
theorem run_app {P : Program} {w : World} (t ty : TypeId) (base : Nat) (e : TypeId) (z : Value) (size bytes : Nat) (ht : P.underlying t = some (.slice e)) (hi : (P.info? e).map (fun i => (i.zero, i.size, i.bytes)) = some (some z, size, bytes))
    (hzs : z.cells.size = size) (hsz : 0 < size) {v : Value} {n : Nat} {xs : List Value} (hown : w.ownsRow base e size v n xs) {u : Value} {m : Nat} {cells : List Value} (hsl : Slc w size u m cells)
    (h1 : ∀ u ∈ cells, u.oneCell' = true) (hb : (n + m) * bytes ≤ 140737488355328) (hm : n + m ≤ maxLen) (hbase : base ≤ w.heap.size) :
    ∃ A cap w', (Builtin.append_ #[t, t] ty #[v, u]).run P w = .ok (.slice A (n + m) cap) w' ∧ w'.ownsRow base e size (.slice A (n + m) cap) (n + m) (xs ++ cells) ∧ Only v.ownBlock.toList w w' ∧
      ∀ g, (Value.slice A (n + m) cap).ownBlock = some g → v.ownBlock = some g ∨ w.heap.size ≤ g := by
  obtain ⟨i, hi1, hi2, hi3, hi4⟩ := info_parts hi
  obtain ⟨B, c, rfl, hl, hc1, hc2, hc⟩ := hsl
  by_cases h0 : m = 0
  · subst h0
    have hcn : cells = [] := List.eq_nil_of_length_eq_zero (by rw [hl]; simp)
    subst hcn
    obtain ⟨A, cap, rfl, hnc, _⟩ := own_form hown
    have hs : (Go.sizeOf e).run P w = .ok size w := by simp [Go.sizeOf, typeInfo, hi1, hi3]
    exact ⟨A, cap, w, run_append_zero w t e ty A B size n cap c ht hs hnc, by simpa using hown, Only.refl _ _, fun g hg => .inl hg⟩
  · obtain ⟨b, off, rfl, hb1, hcc⟩ := hc (by omega)
    obtain ⟨g, cap, w', hr, h2, h3, h4, _⟩ := run_append_lies (P := P) w t ty base e i z size bytes ht hi1 hi2 hi3 hi4 hzs hsz v n xs hown ⟨b, off, none⟩ m c cells hl (fun j x hx => by
      have hj : j < cells.length := (List.getElem?_eq_some_iff.1 hx).1
      rw [show ((⟨b, off, none⟩ : Addr).add j) = ⟨b, off + j, none⟩ by simp [Addr.add], hcc j hj, hx]) h1 (by omega) hm hb hbase w.heap.size rfl
    refine ⟨_, cap, w', hr, h2, (Only.refl _ _).grown h3 (fun k hk => .inl (by simp [hk])), fun x hx => ?_⟩
    have hx' : g = x := by simpa [Value.ownBlock] using hx
    subst hx'
    rcases h4 with h4 | h4
    · exact .inl h4
    · exact .inr (by omega)
theorem toList_decJ (a b : ByteArray) : (a.toList == b.toList) = decide (a = b) := by
  rw [ByteArray.toList_eq, ByteArray.toList_eq]
  by_cases h : a = b
  · rw [h]; simp
  · rw [decide_eq_false h, beq_eq_false_iff_ne]
    exact fun e => h (bts_inj e)
theorem infoSJ : (Tryz.prog.info? 9).map (fun i => (i.zero, i.size, i.bytes)) = some (some (.string ⟨#[]⟩), 1, 16) := by kernel_rfl
theorem infoU8 : (Tryz.prog.info? 5).map (fun i => (i.zero, i.size, i.bytes)) = some (some (.int .u8 0), 1, 1) := by kernel_rfl
theorem infoIJ : (Tryz.prog.info? 3).map (fun i => (i.zero, i.size, i.bytes)) = some (some (.int .i64 0), 1, 8) := by kernel_rfl
theorem infoPt : (Tryz.prog.info? 81).map (fun i => (i.zero, i.size, i.bytes)) = some (some (.agg #[.slice none 0 0, .int .i64 0, .bool false]), 3, 40) := by kernel_rfl
end Go.Proofs.YtfjkjndpndjfpaaGreatDoor
/- Logs, plain: numbers in bytes, sums, frames. No program is named. -/
set_option linter.unusedVariables false
set_option linter.unusedSimpArgs false
namespace Go.Proofs.YtfjkjndpndjfpaaGreatDoor
open Go.RowKit
def baL (l : List UInt8) : ByteArray := ⟨l.toArray⟩
theorem baL_bts (s : ByteArray) : baL s.data.toList = s := rfl
theorem bts_baL (l : List UInt8) : (baL l).data.toList = l := by simp [baL]
theorem baL_size (l : List UInt8) : (baL l).size = l.length := by simp [baL, ByteArray.size]
theorem baL_inj {a b : List UInt8} (h : baL a = baL b) : a = b := by rw [← bts_baL a, h, bts_baL]
theorem baL_append (a b : List UInt8) : baL a ++ baL b = baL (a ++ b) := by
  apply ByteArray.ext
  simp [baL]
/-- A number in n bytes, the highest first. -/
def beN : Nat → Nat → List UInt8
  | 0, _ => []
  | n + 1, v => UInt8.ofNat (v / 256 ^ n) :: beN n v
theorem beN_len (n v : Nat) : (beN n v).length = n := by
  induction n with
  | zero => rfl
  | succ n ih => simp [beN, ih]
/-- Back. -/
def ofBe (l : List UInt8) : Nat := l.foldl (fun v c => v * 256 + c.toNat) 0
theorem foldl_be (l : List UInt8) (v : Nat) : l.foldl (fun v c => v * 256 + c.toNat) v = v * 256 ^ l.length + ofBe l := by
  induction l generalizing v with
  | nil => simp [ofBe]
  | cons c l ih =>
    unfold ofBe
    rw [List.foldl_cons, ih, List.foldl_cons, ih (0 * 256 + c.toNat)]
    rw [List.length_cons, Nat.pow_succ, Nat.zero_mul, Nat.zero_add, Nat.add_mul, Nat.mul_assoc, Nat.mul_comm 256, Nat.add_assoc]
theorem ofBe_cons (c : UInt8) (l : List UInt8) : ofBe (c :: l) = c.toNat * 256 ^ l.length + ofBe l := by
  unfold ofBe
  rw [List.foldl_cons, foldl_be, Nat.zero_mul, Nat.zero_add]
  rfl
theorem ofBe_beN (n v : Nat) : ofBe (beN n v) = v % 256 ^ n := by
  induction n with
  | zero => simp [beN, ofBe, Nat.mod_one]
  | succ n ih =>
    rw [beN, ofBe_cons, beN_len, ih, UInt8.toNat_ofNat']
    have h1 : v / 256 ^ n % 2 ^ 8 = v / 256 ^ n % 256 := rfl
    rw [h1, Nat.pow_succ, Nat.mod_mul, Nat.mul_comm (v / 256 ^ n % 256), Nat.add_comm]
theorem ofBe_lt (l : List UInt8) : ofBe l < 256 ^ l.length := by
  induction l with
  | nil => simp [ofBe]
  | cons c l ih =>
    rw [ofBe_cons, List.length_cons, Nat.pow_succ, Nat.mul_comm (256 ^ l.length)]
    have h1 := c.toNat_lt
    have h2 : c.toNat * 256 ^ l.length ≤ 255 * 256 ^ l.length := Nat.mul_le_mul_right _ (by omega)
    omega
/-- The bits of a whole number. -/
def u64 (v : Int) : Nat := (v % 18446744073709551616).toNat
def i64of (n : Nat) : Int := if n < 9223372036854775808 then n else (n : Int) - 18446744073709551616
theorem i64of_u64 {v : Int} (h : -9223372036854775808 ≤ v ∧ v ≤ 9223372036854775807) : i64of (u64 v) = v := by
  unfold i64of u64
  split <;> omega
def i64B (v : Int) : List UInt8 := beN 8 (u64 v)
theorem i64B_len (v : Int) : (i64B v).length = 8 := beN_len 8 _
theorem u64_lt (v : Int) : u64 v < 18446744073709551616 := by unfold u64; omega
theorem ofBe_i64 {v : Int} (h : -9223372036854775808 ≤ v ∧ v ≤ 9223372036854775807) : i64of (ofBe (i64B v)) = v := by
  unfold i64B
  rw [ofBe_beN, Nat.mod_eq_of_lt (by have := u64_lt v; omega), i64of_u64 h]
/-! ## the sum -/
def crc1 (x : Nat) : Nat := if x % 2 = 1 then (x / 2) ^^^ 3988292384 else x / 2
def crc8 : Nat → Nat → Nat
  | 0, x => x
  | n + 1, x => crc8 n (crc1 x)
def crcB (x : Nat) (b : UInt8) : Nat := crc8 8 (x ^^^ b.toNat)
def crcGo (l : List UInt8) (x : Nat) : Nat := l.foldl crcB x
def crc (l : List UInt8) : Nat := crcGo l 4294967295 ^^^ 4294967295
theorem crc1_lt {x : Nat} (h : x < 4294967296) : crc1 x < 4294967296 := by
  unfold crc1
  split
  · exact Nat.xor_lt_two_pow (n := 32) (by omega) (by decide)
  · omega
theorem crc8_lt : ∀ (n : Nat) {x : Nat}, x < 4294967296 → crc8 n x < 4294967296
  | 0, _, h => h
  | n + 1, _, h => crc8_lt n (crc1_lt h)
theorem crcB_lt {x : Nat} (h : x < 4294967296) (b : UInt8) : crcB x b < 4294967296 :=
  crc8_lt 8 (Nat.xor_lt_two_pow (n := 32) h (by have := b.toNat_lt; omega))
theorem crcGo_lt (l : List UInt8) : ∀ {x : Nat}, x < 4294967296 → crcGo l x < 4294967296 := by
  induction l with
  | nil => exact fun h => h
  | cons b l ih => exact fun h => ih (crcB_lt h b)
theorem crcGo_app (a b : List UInt8) (x : Nat) : crcGo (a ++ b) x = crcGo b (crcGo a x) := List.foldl_append
theorem crc_lt (l : List UInt8) : crc l < 4294967296 := Nat.xor_lt_two_pow (n := 32) (crcGo_lt l (by decide)) (by decide)
/-! ## frames -/
def frameB (b : List UInt8) : List UInt8 := beN 4 b.length ++ beN 4 (crc (beN 4 b.length ++ b)) ++ b ++ beN 4 b.length
theorem frameB_len (b : List UInt8) : (frameB b).length = b.length + 12 := by
  simp [frameB, beN_len]
  omega
/-- The first frame: its body, its length, why there is none. -/
def firstF (b : List UInt8) : List UInt8 × Nat × Int :=
  if b.length < 12 then ([], 0, 5)
  else if 4000 < ofBe (b.take 4) then ([], 0, 6)
  else if b.length < ofBe (b.take 4) + 12 then ([], 0, 5)
  else if (b.take (ofBe (b.take 4) + 12)).drop (ofBe (b.take 4) + 8) ≠ b.take 4 then ([], 0, 6)
  else if (b.drop 4).take 4 ≠ beN 4 (crc (b.take 4 ++ (b.drop 8).take (ofBe (b.take 4)))) then ([], 0, 7)
  else ((b.drop 8).take (ofBe (b.take 4)), ofBe (b.take 4) + 12, 0)
theorem take_pre {a b : List UInt8} {n : Nat} (h : a.length = n) : (a ++ b).take n = a := by rw [← h, List.take_left]
theorem drop_pre {a b : List UInt8} {n : Nat} (h : a.length = n) : (a ++ b).drop n = b := by rw [← h, List.drop_left]
theorem first_frame {b : List UInt8} (h : b.length ≤ 4000) (r : List UInt8) : firstF (frameB b ++ r) = (b, b.length + 12, 0) := by
  have e4 : (frameB b ++ r).take 4 = beN 4 b.length := by
    unfold frameB
    rw [List.append_assoc, List.append_assoc, List.append_assoc]
    exact take_pre (beN_len 4 _)
  have en : ofBe (beN 4 b.length) = b.length := by rw [ofBe_beN]; exact Nat.mod_eq_of_lt (by omega)
  have hl : (frameB b ++ r).length = b.length + 12 + r.length := by rw [List.length_append, frameB_len]
  have e8 : (frameB b ++ r).drop 8 = b ++ (beN 4 b.length ++ r) := by
    unfold frameB
    rw [List.append_assoc, List.append_assoc]
    exact drop_pre (by simp [beN_len])
  have e48 : ((frameB b ++ r).drop 4).take 4 = beN 4 (crc (beN 4 b.length ++ b)) := by
    unfold frameB
    rw [List.append_assoc, List.append_assoc, List.append_assoc, drop_pre (beN_len 4 _)]
    exact take_pre (beN_len 4 _)
  have ef : (frameB b ++ r).take (b.length + 12) = frameB b := take_pre (frameB_len b)
  have eb : (frameB b).drop (b.length + 8) = beN 4 b.length := by
    unfold frameB
    exact drop_pre (by simp [beN_len]; omega)
  unfold firstF
  rw [e4, en, hl, e8, e48, ef, eb, if_neg (by omega), if_neg (by omega), if_neg (by omega), if_neg (by simp), take_pre rfl, if_neg (by simp)]
end Go.Proofs.YtfjkjndpndjfpaaGreatDoor
/- Bits of whole numbers as numbers. No program is named. -/
set_option linter.unusedVariables false
set_option linter.unusedSimpArgs false
namespace Go.Proofs.YtfjkjndpndjfpaaGreatDoor
open Go.RowKit Go
theorem toNat_ofInt32 {x : Nat} (h : x < 4294967296) : (BitVec.ofInt 32 (x : Int)).toNat = x := by
  rw [BitVec.toNat_ofInt]
  omega
theorem toNat_ofInt64 {x : Nat} (h : x < 18446744073709551616) : (BitVec.ofInt 64 (x : Int)).toNat = x := by
  rw [BitVec.toNat_ofInt]
  omega
theorem u32_xor {x y : Nat} (hx : x < 4294967296) (hy : y < 4294967296) : bits .xor .u32 (x : Int) (y : Int) = ((x ^^^ y : Nat) : Int) := by
  have hlt : x ^^^ y < 2 ^ 32 := Nat.xor_lt_two_pow (n := 32) hx hy
  show IntKind.u32.wrap ((BitVec.ofInt 32 (x : Int) ^^^ BitVec.ofInt 32 (y : Int)).toNat : Nat) = _
  rw [BitVec.toNat_xor, toNat_ofInt32 hx, toNat_ofInt32 hy, IntKind.wrap_u32]
  omega
theorem u32_and1 {x : Nat} (hx : x < 4294967296) : bits .and .u32 (x : Int) 1 = ((x % 2 : Nat) : Int) := by
  show IntKind.u32.wrap ((BitVec.ofInt 32 (x : Int) &&& BitVec.ofInt 32 1).toNat : Nat) = _
  have h1 : (BitVec.ofInt 32 1).toNat = 2 ^ 1 - 1 := by decide
  rw [BitVec.toNat_and, toNat_ofInt32 hx, h1, Nat.and_two_pow_sub_one_eq_mod, IntKind.wrap_u32]
  omega
theorem u64_or {v k : Nat} (hv : v < 72057594037927936) (hk : k < 256) : bits .or .u64 ((v : Int) * 256) (k : Int) = ((v * 256 + k : Nat) : Int) := by
  have e : ((v : Int) * 256) = ((v * 256 : Nat) : Int) := by omega
  have ho : v * 256 ||| k = v * 256 + k := by
    have := Nat.shiftLeft_add_eq_or_of_lt (i := 8) (b := k) (by omega) v
    rw [Nat.shiftLeft_eq] at this
    exact this.symm
  rw [e]
  show IntKind.u64.wrap ((BitVec.ofInt 64 ((v * 256 : Nat) : Int) ||| BitVec.ofInt 64 (k : Int)).toNat : Nat) = _
  rw [BitVec.toNat_or, toNat_ofInt64 (by omega), toNat_ofInt64 (by omega), ho, IntKind.wrap_u64]
  omega
end Go.Proofs.YtfjkjndpndjfpaaGreatDoor
/- Contracts: numbers are laid into bytes (codec.Out). -/
set_option linter.unusedVariables false
set_option linter.unusedSimpArgs false
namespace Go.Proofs.YtfjkjndpndjfpaaGreatDoor
open Go Go.RowKit Go.Sort
def bytesV (l : List UInt8) : List Value := l.map fun b => .int .u8 (b.toNat : Int)
/-- An Out in memory that is new since a: its bytes, its error. -/
structure OutAt (a w : World) (ob : Nat) (l : List UInt8) (e : Int) : Prop where
  only : Only [] a w
  ab : a.heap.size ≤ ob
  st : ∃ A cap, Blk w ob 66 #[.slice A l.length cap, .int .i64 e] ∧ w.ownsRow a.heap.size 5 1 (.slice A l.length cap) l.length (bytesV l)
theorem bytesV_app (l m : List UInt8) : bytesV (l ++ m) = bytesV l ++ bytesV m := List.map_append
theorem bytesV_one (l : List UInt8) : ∀ u ∈ bytesV l, u.oneCell' = true := by
  intro u hu
  obtain ⟨b, _, rfl⟩ := List.mem_map.1 hu
  rfl
theorem beN_get (n v : Nat) {k : Nat} (h : k < n) : (beN n v)[k]? = some (UInt8.ofNat (v / 256 ^ (n - 1 - k))) := by
  induction n generalizing k with
  | zero => omega
  | succ n ih =>
    unfold beN
    cases k with
    | zero => simp
    | succ k =>
      rw [List.getElem?_cons_succ, ih (by omega)]
      congr 4
      omega
theorem beN_take (n v : Nat) {k : Nat} (h : k < n) : (beN n v).take (k + 1) = (beN n v).take k ++ [UInt8.ofNat (v / 256 ^ (n - 1 - k))] := by
  rw [List.take_add_one, beN_get n v h]
  rfl
theorem app1b {W : World} {base : Nat} {v : Value} {l : List UInt8} (hown : W.ownsRow base 5 1 v l.length (bytesV l)) (hb : base ≤ W.heap.size) (hl : l.length ≤ 10000000) (x : UInt8) :
    ∃ A cap w', (Builtin.append_ #[64, 64] 64 #[v, .slice (some ⟨W.heap.size, 0, none⟩) 1 1]).run Tryz.prog (W.alloc (.cells #[.int .u8 (x.toNat : Int)] 5)).drew = .ok (.slice A (l.length + 1) cap) w' ∧ w'.ownsRow base 5 1 (.slice A (l ++ [x]).length cap) (l ++ [x]).length (bytesV (l ++ [x])) ∧ Only v.ownBlock.toList (W.alloc (.cells #[.int .u8 (x.toNat : Int)] 5)).drew w' := by
  have hO : Only [] W (W.alloc (.cells #[.int .u8 (x.toNat : Int)] 5)).drew := ((Only.refl [] W).alloc _).drew
  obtain ⟨A, cap, w', h1, h2, h3, _⟩ := run_app (P := Tryz.prog) (w := (W.alloc (.cells #[.int .u8 (x.toNat : Int)] 5)).drew) 64 64 base 5 (.int .u8 0) 1 1 Tryz.underlying64 infoU8 rfl (by decide) (own_only hown hO (by simp)) ((slc_new1 (w := W) (e := 5) (size := 1) (cs := bytesV [x]) rfl).only0 ((Only.refl [] _).drew)) (bytesV_one [x]) (by omega) (by unfold maxLen; omega) (Nat.le_trans hb hO.size)
  refine ⟨A, cap, w', h1, ?_, h3⟩
  rw [List.length_append, bytesV_app]
  exact h2
set_option maxRecDepth 100000 in
set_option maxHeartbeats 2000000 in
theorem high_any {a w : World} {ob : Nat} {l : List UInt8} {e : Int} (h : OutAt a w ob l e) (hl : l.length ≤ 1000000) (v n : Nat) (hv : v < 18446744073709551616) (hn : n ≤ 8) :
    Calls Tryz.prog 94 #[.pointer (some ⟨ob, 0, none⟩), .int .u64 v, .int .i64 n] w fun e' w' => e' = .returned (.pointer (some ⟨ob, 0, none⟩)) ∧ OutAt a w' ob (l ++ beN n v) e := by
  have e0 := IntWalk.i64_in ((n : Int) - 1) ⟨by omega, by omega⟩
  go_enter Tryz.func94, Tryz.ntmps94
  go_wp2
  go_loopw [7] (fun i wr => ∃ j : Nat, j ≤ n ∧ i = .int .i64 ((j : Int) - 1) ∧ OutAt a wr ob (l ++ (beN n v).take (n - j)) e) (fun i _ => (intOf i + 1).toNat)
  case atStart => exact ⟨n, Nat.le_refl _, rfl, by simpa using h⟩
  case round =>
    obtain ⟨j, hj, rfl, hA⟩ := hrel
    by_cases hj0 : 0 < j
    · have hd : decide ((j : Int) - 1 ≥ 0) = true := decide_eq_true (by omega)
      obtain ⟨A, cap, hB, hown⟩ := hA.st
      have hnx := beN_take n v (k := n - j) (by omega)
      have e1 := IntWalk.i64_in (8 * ((j : Int) - 1)) ⟨by omega, by omega⟩
      have e2 := IntWalk.i64_in ((j : Int) - 1 - 1) ⟨by omega, by omega⟩
      obtain ⟨M, hM⟩ : ∃ M, l ++ (beN n v).take (n - j) = M := ⟨_, rfl⟩
      rw [hM] at hB hown
      have hML : M.length ≤ 1000008 := by rw [← hM, List.length_append, List.length_take, beN_len]; omega
      obtain ⟨_, _, e3, hnc, hcm⟩ := own_form hown
      cases e3
      unfold maxLen at hcm
      obtain ⟨So, hSo⟩ : ∃ So, So = (Value.slice A M.length cap).ownBlock.toList := ⟨_, rfl⟩
      have hno : ob ∉ So := fun q => by
        rw [hSo] at q
        obtain ⟨cur, hcur⟩ := own_type hown (by simpa using q)
        exact (hB.other hcur (by decide)) rfl
      have k0 := Within.cell (S := So) (hB.cell 0) hno
      go_wp2_with fail
      refine wp_region_in So [0, 1, 2, 3, 4, 5, 6, 7, 8, 9] [10, 11] [12, 13, 14] (by kernel_rfl) (by kernel_rfl) (by intro c d u a w h; cases d <;> exact h) ?_
      show wpQuiet _ _ _ _ [_, _, _, _, _, _, _, _, _, _] _
      repeat (go_big_quiet_step (fail))
      refine wpQuiet_nil ?_
      clear k0
      obtain ⟨x, hx⟩ : ∃ x : Int, (v : Int) / 2 ^ (8 * (j - 1)) % 256 = x := ⟨_, rfl⟩
      have hxb : x = ((UInt8.ofNat (v / 256 ^ (n - 1 - (n - j)))).toNat : Int) := by
        have e4 : n - 1 - (n - j) = j - 1 := by omega
        have e5 : (256 : Nat) ^ (j - 1) = 2 ^ (8 * (j - 1)) := by rw [Nat.pow_mul]
        rw [← hx, e4, e5, UInt8.toNat_ofNat']
        have e6 : ((v : Int) / 2 ^ (8 * (j - 1))) = ((v / 2 ^ (8 * (j - 1)) : Nat) : Int) := by
          rw [Int.natCast_ediv, Int.natCast_pow]
          rfl
        rw [e6]
        omega
      rw [hx]
      obtain ⟨A4, c4, w4, hr4, hown4, hO4⟩ := app1b hown hA.only.size (by omega) (UInt8.ofNat (v / 256 ^ (n - 1 - (n - j))))
      rw [← hxb] at hr4 hO4
      have hO3 : Only So wr (wr.alloc (.cells #[.int .u8 x] 5)).drew := ((Only.refl So wr).alloc _).drew
      rw [← hSo] at hO4
      have hB4 := hO4.blk (hO3.blk hB hno) hno
      have hf4 := hB4.free 0
      have hc4 := hB4.cell 0
      have hset := hB4.set 0 (.slice A4 (M ++ [UInt8.ofNat (v / 256 ^ (n - 1 - (n - j)))]).length c4)
      have hge : ∀ g ∈ So, a.heap.size ≤ g := fun g hg => by
        rw [hSo] at hg
        exact (World.ownsRow.lt hown g (by simpa using hg)).1
      have hon4 : Only [] a w4 := ((hA.only.alloc (.cells #[.int .u8 x] 5)).drew).step hO4 (fun g hg => .inr (hge g hg))
      have hown5 := own_only hown4 ((Only.refl [ob] w4).setCell (p := ⟨ob, 0, none⟩) (.inl (by simp)) (.slice A4 (M ++ [UInt8.ofNat (v / 256 ^ (n - 1 - (n - j)))]).length c4)) (fun g hg q => by
        rw [List.mem_singleton] at q
        subst q
        obtain ⟨cur, hcur⟩ := own_type hown4 hg
        exact (hB4.other hcur (by decide)) rfl)
      have hML2 : (M ++ [UInt8.ofNat (v / 256 ^ (n - 1 - (n - j)))]).length = M.length + 1 := by simp
      rw [hML2] at hset hown5
      have hnew : OutAt a (w4.setCell ⟨ob, 0, none⟩ (.slice A4 (M.length + 1) c4)) ob (M ++ [UInt8.ofNat (v / 256 ^ (n - 1 - (n - j)))]) e :=
        ⟨hon4.setCell (.inr hA.ab) _, hA.ab, A4, c4, by rw [hML2]; exact hset, by rw [hML2]; exact hown5⟩
      have hnew2 : OutAt a (w4.setCell ⟨ob, 0, none⟩ (.slice A4 (M.length + 1) c4)) ob (l ++ (beN n v).take (n - (j - 1))) e := by
        have e7 : n - (j - 1) = n - j + 1 := by omega
        rw [e7, hnx, ← List.append_assoc, hM]
        exact hnew
      have HR4 := Lib.hid hr4
      have HN := Lib.hid hnew2
      have HO := Lib.hid (hO3.trans hO4)
      clear hxb hx hnew hnew2 hset hown5 hown4 hO4 hr4 hB hown hA hB4 hon4 hge hML2 hnx hM
      show wpList _ _ _ [_] _ _
      go_wp2_with fail
      refine check_of (S := So) hO3 ?_
      show wpList _ _ _ [_] _ _
      go_wp2_with (at_builtin; refine Lib.wpList_append_run _ rfl (.tmp 18) (.tmp 24) 64 64 rfl _ _ rfl rfl _ _ HR4.out ?_)
      refine check_of (S := So) HO.out ?_
      show wpList _ _ _ [_, _, _] _ _
      go_wp2
      exact ⟨⟨j - 1, by omega, by simp; omega, HN.out⟩, by simp [intOf]; omega⟩
    · have hd : decide ((j : Int) - 1 ≥ 0) = false := decide_eq_false (by omega)
      have : j = 0 := by omega
      have hfin : OutAt a wr ob (l ++ beN n v) e := by
        have h1 := hA
        rw [this, Nat.sub_zero, List.take_of_length_le (by rw [beN_len]; omega)] at h1
        exact h1
      clear hA this
      go_wp2
      go_ret
      exact ⟨rfl, hfin⟩
set_option maxRecDepth 100000 in
theorem ofail_any {a w : World} {ob : Nat} {l : List UInt8} (h : OutAt a w ob l 0) :
    Calls Tryz.prog 128 #[.pointer (some ⟨ob, 0, none⟩), .bool false, .int .i64 1] w fun e' w' => e' = .returned (.bool false) ∧ w = w' := by
  obtain ⟨A, cap, hB, _⟩ := h.st
  have c1 := hB.cell 1
  clear h hB
  go_enter Tryz.func128, Tryz.ntmps128
  go_wp2
  go_ret
  exact ⟨rfl, rfl⟩
set_option maxRecDepth 100000 in
theorem osmall4_any {a w : World} {ob : Nat} {l : List UInt8} (h : OutAt a w ob l 0) (hl : l.length ≤ 1000000) (v : Nat) (hv : v < 4294967296) :
    Calls Tryz.prog 116 #[.pointer (some ⟨ob, 0, none⟩), .int .i64 v, .int .i64 4] w fun e' w' => e' = .returned (.pointer (some ⟨ob, 0, none⟩)) ∧ OutAt a w' ob (l ++ beN 4 v) 0 := by
  have hh := high_any h hl v 4 (by omega) (by omega)
  have hh : Calls Tryz.prog 94 #[.pointer (some ⟨ob, 0, none⟩), .int .u64 v, .int .i64 4] w fun e' w' => e' = .returned (.pointer (some ⟨ob, 0, none⟩)) ∧ OutAt a w' ob (l ++ beN 4 v) 0 := hh
  have HH := Lib.hid hh
  have HF := Lib.hid (ofail_any h)
  have hsh : (v : Int) / 4294967296 = 0 := by omega
  have hd : decide ((v : Int) < 0) = false := decide_eq_false (by omega)
  clear h hh
  go_enter Tryz.func116, Tryz.ntmps116
  go_wp2_with (first
    | (go_at_call 128; refine HF.out.mono ?_; rintro e1 w1 ⟨rfl, rfl⟩)
    | (go_at_call 94; refine HH.out.mono ?_; rintro e1 w1 ⟨rfl, h1⟩))
  go_ret
  exact ⟨rfl, h1⟩
set_option maxRecDepth 100000 in
theorem ou32_any {a w : World} {ob : Nat} {l : List UInt8} (h : OutAt a w ob l 0) (hl : l.length ≤ 1000000) (v : Nat) (hv : v < 4294967296) :
    Calls Tryz.prog 95 #[.pointer (some ⟨ob, 0, none⟩), .int .i64 v] w fun e' w' => e' = .returned (.pointer (some ⟨ob, 0, none⟩)) ∧ OutAt a w' ob (l ++ beN 4 v) 0 := by
  have HH := Lib.hid (osmall4_any h hl v hv)
  clear h
  go_enter Tryz.func95, Tryz.ntmps95
  go_wp2_with (go_at_call 116; refine HH.out.mono ?_; rintro e1 w1 ⟨rfl, h1⟩)
  go_ret
  exact ⟨rfl, h1⟩
set_option maxRecDepth 100000 in
theorem ou64_any {a w : World} {ob : Nat} {l : List UInt8} (h : OutAt a w ob l 0) (hl : l.length ≤ 1000000) (v : Nat) (hv : v < 18446744073709551616) :
    Calls Tryz.prog 72 #[.pointer (some ⟨ob, 0, none⟩), .int .u64 v] w fun e' w' => e' = .returned (.pointer (some ⟨ob, 0, none⟩)) ∧ OutAt a w' ob (l ++ beN 8 v) 0 := by
  have hh : Calls Tryz.prog 94 #[.pointer (some ⟨ob, 0, none⟩), .int .u64 v, .int .i64 8] w fun e' w' => e' = .returned (.pointer (some ⟨ob, 0, none⟩)) ∧ OutAt a w' ob (l ++ beN 8 v) 0 := high_any h hl v 8 hv (by omega)
  have HH := Lib.hid hh
  obtain ⟨A, cap, hB, _⟩ := h.st
  have c1 := hB.cell 1
  clear h hh hB
  go_enter Tryz.func72, Tryz.ntmps72
  go_wp2_with (go_at_call 94; refine HH.out.mono ?_; rintro e1 w1 ⟨rfl, h1⟩)
  go_ret
  exact ⟨rfl, h1⟩
theorem u64_wrap (v : Int) : IntKind.u64.wrap v = (u64 v : Int) := by
  rw [IntKind.wrap_u64]
  unfold u64
  omega
set_option maxRecDepth 100000 in
theorem oi64_any {a w : World} {ob : Nat} {l : List UInt8} (h : OutAt a w ob l 0) (hl : l.length ≤ 1000000) (v : Int) :
    Calls Tryz.prog 41 #[.pointer (some ⟨ob, 0, none⟩), .int .i64 v] w fun e' w' => e' = .returned (.pointer (some ⟨ob, 0, none⟩)) ∧ OutAt a w' ob (l ++ i64B v) 0 := by
  have hh := ou64_any h hl (u64 v) (u64_lt v)
  rw [← u64_wrap v] at hh
  have hw : IntKind.u64.wrap v = v % 18446744073709551616 := by rw [IntKind.wrap_u64]
  rw [hw] at hh
  have HH := Lib.hid hh
  clear h hh hw
  go_enter Tryz.func41, Tryz.ntmps41
  go_wp2_with (go_at_call 72; refine HH.out.mono ?_; rintro e1 w1 ⟨rfl, h1⟩)
  go_ret
  exact ⟨rfl, h1⟩
theorem strOf_bytes (l : List UInt8) : strOfNums (l.map fun b => (b.toNat : Int)) = baL l := by
  unfold strOfNums baL
  rw [List.map_map]
  congr 1
  congr 1
  conv => rhs; rw [← List.map_id l]
  apply List.map_congr_left
  intro b _
  simp
theorem conv_bytes {w : World} {v : Value} {l : List UInt8} (h : Slc w 1 v l.length (bytesV l)) : (convert 64 9 v).run Tryz.prog w = .ok (.string (baL l)) w := by
  obtain ⟨A, cap, rfl, hl, hc1, hc2, hc⟩ := h
  have hu8 : Tryz.prog.underlying 5 = some (.int .u8) := Tryz.underlying5
  by_cases h0 : l.length = 0
  · have : l = [] := List.length_eq_zero_iff.1 h0
    subst this
    cases A with
    | none => exact run_convert_bytes_nil w 64 5 Tryz.underlying64 hu8 0 cap 9 Tryz.underlying9
    | some p =>
      obtain ⟨b, off, spot⟩ := p
      show (convert 64 9 (.slice (some ⟨b, off, spot⟩) 0 cap)).run Tryz.prog w = _
      rw [run_convert_bytes_string w 64 9 5 _ 0 cap Tryz.underlying64 hu8 Tryz.underlying9]
      simp [Conv.bytesToString, loadCells, loadCellsFrom]
      rfl
  · obtain ⟨b, off, rfl, hb, hcell⟩ := hc (by omega)
    rw [← strOf_bytes]
    refine run_convert_bytes_arg w 64 5 Tryz.underlying64 hu8 b off l.length cap _ (by simp) (fun i hi => ?_) 9 Tryz.underlying9
    rw [hcell i (by rw [hl]; omega)]
    simp [bytesV, hi]
set_option maxRecDepth 100000 in
theorem odone_any {a w : World} {ob : Nat} {l : List UInt8} (h : OutAt a w ob l 0) (hl : l.length ≤ 1000000) :
    Calls Tryz.prog 42 #[.pointer (some ⟨ob, 0, none⟩)] w fun e' w' => e' = .returned (.tuple #[.string (baL l), .int .i64 0]) ∧ w = w' := by
  obtain ⟨A, cap, hB, hown⟩ := h.st
  have c0 := hB.cell 0
  have c1 := hB.cell 1
  have HC := conv_bytes (Slc.of_own hown).1
  clear h hB hown
  go_enter Tryz.func42, Tryz.ntmps42
  go_wp2
  go_ret2
  exact ⟨rfl, rfl⟩
end Go.Proofs.YtfjkjndpndjfpaaGreatDoor
/- The simulated disk as plain data: what each method of simdisk.Disk answers and leaves, as functions on lists. No program is named. -/
namespace Go.Proofs.YtfjkjndpndjfpaaGreatDoor
open Go.RowKit

/-- A file of the disk. -/
structure File where
  b : ByteArray
  lasts : Int
  known : Bool
def File.zero : File := ⟨⟨#[]⟩, 0, false⟩
def File.val (f : File) : Value := .agg #[.string f.b, .int .i64 f.lasts, .bool f.known]
abbrev Files := List (ByteArray × File)
/-- A disk. -/
structure DS where
  on : Bool
  room : Int
  fs : Files
  armed : Bool
  left : Int
  keep : List Int

/-- A name that can't be. -/
def badName (s : ByteArray) : Bool := decide (s.size < 1) || decide (40 < s.size)
def mayAll : List ByteArray → Int
  | [] => 0
  | s :: l => if badName s then 1 else mayAll l
namespace DS
def new (room : Int) : DS := ⟨true, room, [], false, 0, []⟩
def may (d : DS) (l : List ByteArray) : Int := if d.on then mayAll l else 14
def get (d : DS) (n : ByteArray) : File := (aget d.fs n).getD File.zero
def find (d : DS) (n : ByteArray) : File × Int :=
  if d.may [n] = 0 then (if (aget d.fs n).isSome then (d.get n, 0) else (File.zero, 8)) else (File.zero, d.may [n])
def used (d : DS) : Int := ((d.fs.map fun p => p.2.b.size).sum : Nat)
def goes (d : DS) : Bool := d.armed && decide (d.left < 1)
def tick (d : DS) : DS := if d.armed then { d with left := d.left - 1 } else d
def full (d : DS) (n : ByteArray) (k : Nat) : Bool := (!(aget d.fs n).isSome && decide (200 ≤ d.fs.length)) || (decide (0 < d.room) && decide (d.room - d.used < (k : Int)))
def arm (d : DS) (n : Int) (keep : List Int) : DS := { d with armed := decide (0 ≤ n), left := n, keep := keep }
def names (d : DS) : List ByteArray := ((d.fs.map fun p => p.1.data.toList).mergeSort (fun x y => decide (x ≤ y))).map fun l => ⟨l.toArray⟩
def crashFile (f : File) (k : Int) : File :=
  let n := f.lasts + min k (f.b.size - f.lasts)
  ⟨f.b.extract 0 n.toNat, n, f.known || decide (0 < n)⟩
def crashOne (fs : Files) (s : ByteArray) (k : Int) : Files :=
  let f := crashFile ((aget fs s).getD File.zero) k
  if f.known then aput fs s f else adel (aput fs s f) s
def crashAll : Files → List ByteArray → List Int → Files
  | fs, [], _ => fs
  | fs, s :: l, ks => crashAll (crashOne fs s (max (ks.headD 0) 0)) l ks.tail
def lostAll : Files → List ByteArray → List Int → Int
  | _, [], _ => 0
  | fs, s :: l, ks => (let f := (aget fs s).getD File.zero; f.b.size - (crashFile f (max (ks.headD 0) 0)).lasts) + lostAll (crashOne fs s (max (ks.headD 0) 0)) l ks.tail
def crash (d : DS) (keep : List Int) : DS := if d.on then { d with on := false, armed := false, left := -1, keep := [], fs := crashAll d.fs d.names keep } else d
def lost (d : DS) (keep : List Int) : Int := if d.on then lostAll d.fs d.names keep else 0
/-- done: what is told, what is left. -/
def doneE (d : DS) : Int := if d.goes then 14 else 0
def done (d : DS) : DS := if d.goes then d.tick.crash d.keep else d.tick
def append (d : DS) (n data : ByteArray) : Int × DS :=
  if d.may [n] ≠ 0 then (d.may [n], d)
  else if d.full n data.size then (20, d)
  else let d1 := { d with fs := aput d.fs n { d.get n with b := (d.get n).b ++ data } }; (d1.doneE, d1.done)
def sync (d : DS) (n : ByteArray) : Int × DS :=
  if (d.find n).2 ≠ 0 then ((d.find n).2, d)
  else if d.doneE ≠ 0 then (d.doneE, d.done)
  else (0, { d.done with fs := aput d.done.fs n ⟨(d.get n).b, (d.get n).b.size, true⟩ })
def truncate (d : DS) (n : ByteArray) (k : Int) : Int × DS :=
  if (d.find n).2 ≠ 0 then ((d.find n).2, d)
  else if k < 0 ∨ (d.get n).b.size < k then (15, d)
  else if d.doneE ≠ 0 then (d.doneE, d.done)
  else (0, { d.done with fs := aput d.done.fs n ⟨(d.get n).b.extract 0 k.toNat, min (d.get n).lasts k, (d.get n).known⟩ })
def rename (d : DS) (m n : ByteArray) : Int × DS :=
  if d.may [m, n] ≠ 0 then (d.may [m, n], d)
  else if (d.find m).2 ≠ 0 then ((d.find m).2, d)
  else if d.doneE ≠ 0 then (d.doneE, d.done)
  else (0, { d.done with fs := aput (adel d.done.fs m) n (d.get m) })
def remove (d : DS) (n : ByteArray) : Int × DS :=
  if (d.find n).2 ≠ 0 then ((d.find n).2, d)
  else if d.doneE ≠ 0 then (d.doneE, d.done)
  else (0, { d.done with fs := adel d.done.fs n })
def read (d : DS) (n : ByteArray) (at_ k : Int) : ByteArray × Int :=
  if (d.find n).2 ≠ 0 then (⟨#[]⟩, (d.find n).2)
  else if at_ < 0 ∨ k < 0 ∨ (d.get n).b.size < at_ ∨ (d.get n).b.size - at_ < k then (⟨#[]⟩, 15)
  else ((d.get n).b.extract at_.toNat (at_ + k).toNat, 0)
def size (d : DS) (n : ByteArray) : Int × Int := ((d.find n).1.b.size, (d.find n).2)
def restore (d : DS) : DS := { d with on := true }
def unsynced (d : DS) (n : ByteArray) : Int := (d.get n).b.size - (d.get n).lasts
def list (d : DS) (p : ByteArray) : List ByteArray := if d.on then d.names.filter (fun s => p.data.toList.isPrefixOf s.data.toList) else []

/-- What keeps the numbers small: M bounds all bytes. -/
structure Ok (d : DS) (M : Nat) : Prop where
  left : d.armed = true → 0 ≤ d.left
  files : ∀ p ∈ d.fs, 0 ≤ p.2.lasts ∧ p.2.lasts ≤ p.2.b.size
  bytes : (d.fs.map fun p => p.2.b.size).sum ≤ M
  few : d.fs.length ≤ 200
  nodup : ANodup d.fs
  short : ∀ p ∈ d.fs, p.1.size ≤ 40
end DS
end Go.Proofs.YtfjkjndpndjfpaaGreatDoor
/- The simulated disk as plain data: what keeps its numbers small is kept by each method. No program is named. -/
namespace Go.Proofs.YtfjkjndpndjfpaaGreatDoor
open Go.RowKit

theorem mem_aput {κ ν : Type} [DecidableEq κ] {l : List (κ × ν)} {k : κ} {v : ν} {p : κ × ν} (h : p ∈ aput l k v) : p ∈ l ∨ p = (k, v) := by
  induction l with
  | nil => simp [aput] at h; exact .inr h
  | cons q l ih =>
    obtain ⟨a, b⟩ := q
    simp only [aput] at h
    split at h
    · rcases List.mem_cons.1 h with h | h
      · exact .inr h
      · exact .inl (List.mem_cons_of_mem _ h)
    · rcases List.mem_cons.1 h with h | h
      · exact .inl (h ▸ List.mem_cons_self)
      · rcases ih h with h | h
        · exact .inl (List.mem_cons_of_mem _ h)
        · exact .inr h
theorem adel_aput_none {κ ν : Type} [DecidableEq κ] {l : List (κ × ν)} {k : κ} (v : ν) (h : aget l k = none) : adel (aput l k v) k = l := by
  induction l with
  | nil => simp [aput, adel]
  | cons p l ih =>
    obtain ⟨a, b⟩ := p
    simp only [aget] at h
    split at h
    · cases h
    · rename_i hne
      simp only [aput, if_neg hne, adel, ih h]

def sizes (l : List (ByteArray × File)) : Nat := (l.map fun p => p.2.b.size).sum
theorem sizes_split (l1 l2 : List (ByteArray × File)) (p : ByteArray × File) : sizes (l1 ++ p :: l2) = p.2.b.size + sizes (l1 ++ l2) := by
  simp [sizes]; omega
theorem sizes_mem {l : List (ByteArray × File)} {p : ByteArray × File} (h : p ∈ l) : p.2.b.size ≤ sizes l := by
  obtain ⟨s, t, rfl⟩ := List.append_of_mem h
  rw [sizes_split]; omega
theorem sizes_aput (l : Files) (n : ByteArray) (f : File) : sizes (aput l n f) + ((aget l n).getD File.zero).b.size = sizes l + f.b.size := by
  induction l with
  | nil => simp [aput, aget, sizes, File.zero]; rfl
  | cons p l ih =>
    obtain ⟨a, b⟩ := p
    simp only [aput, aget]
    split
    · simp [sizes]; omega
    · have e1 : ∀ q : ByteArray × File, ∀ m : Files, sizes (q :: m) = q.2.b.size + sizes m := fun q m => by simp [sizes]
      rw [e1, e1]
      omega
theorem sizes_adel (l : Files) (n : ByteArray) : sizes (adel l n) + ((aget l n).getD File.zero).b.size = sizes l := by
  induction l with
  | nil => simp [adel, aget, sizes, File.zero]; rfl
  | cons p l ih =>
    obtain ⟨a, b⟩ := p
    have e1 : ∀ q : ByteArray × File, ∀ m : Files, sizes (q :: m) = q.2.b.size + sizes m := fun q m => by simp [sizes]
    simp only [adel, aget]
    split
    · rw [e1]; simp; omega
    · rw [e1, e1]
      omega

def FOk (M : Nat) (fs : Files) : Prop := ∀ p ∈ fs, 0 ≤ p.2.lasts ∧ p.2.lasts ≤ p.2.b.size ∧ p.2.b.size ≤ M
theorem FOk.get {M : Nat} {fs : Files} (h : FOk M fs) (n : ByteArray) : 0 ≤ ((aget fs n).getD File.zero).lasts ∧ ((aget fs n).getD File.zero).lasts ≤ ((aget fs n).getD File.zero).b.size ∧ ((aget fs n).getD File.zero).b.size ≤ M := by
  cases hg : aget fs n with
  | none => exact ⟨by simp [File.zero], by simp [File.zero], by show 0 ≤ M; omega⟩
  | some f => exact h _ (aget_mem hg)
theorem FOk.put {M : Nat} {fs : Files} (h : FOk M fs) (n : ByteArray) (f : File) (h1 : 0 ≤ f.lasts ∧ f.lasts ≤ f.b.size ∧ f.b.size ≤ M) : FOk M (aput fs n f) := by
  intro p hp
  rcases mem_aput hp with h2 | rfl
  · exact h p h2
  · exact h1
theorem FOk.del {M : Nat} {fs : Files} (h : FOk M fs) (n : ByteArray) : FOk M (adel fs n) := fun p hp => h p ((adel_sublist fs n).subset hp)

/-- What keeps a list of files small. -/
structure Fs (fs : Files) (M : Nat) : Prop where
  files : ∀ p ∈ fs, 0 ≤ p.2.lasts ∧ p.2.lasts ≤ p.2.b.size
  bytes : sizes fs ≤ M
  few : fs.length ≤ 200
  nodup : ANodup fs
  short : ∀ p ∈ fs, p.1.size ≤ 40
namespace DS
theorem Ok.fs {d : DS} {M : Nat} (h : d.Ok M) : Fs d.fs M := ⟨h.files, h.bytes, h.few, h.nodup, h.short⟩
theorem Ok.of {d : DS} {M : Nat} (h : Fs d.fs M) (hl : d.armed = true → 0 ≤ d.left) : d.Ok M := ⟨hl, h.files, h.bytes, h.few, h.nodup, h.short⟩
end DS
theorem Fs.fok {fs : Files} {M : Nat} (h : Fs fs M) : FOk M fs := fun p hp => ⟨(h.files p hp).1, (h.files p hp).2, Nat.le_trans (sizes_mem hp) h.bytes⟩
theorem Fs.mono {fs : Files} {M M' : Nat} (h : Fs fs M) (hm : M ≤ M') : Fs fs M' := ⟨h.files, Nat.le_trans h.bytes hm, h.few, h.nodup, h.short⟩
theorem Fs.put {fs : Files} {M M' : Nat} (h : Fs fs M) (n : ByteArray) (f : File) (h1 : 0 ≤ f.lasts ∧ f.lasts ≤ f.b.size) (hb : sizes fs + f.b.size ≤ M' + ((aget fs n).getD File.zero).b.size) (hf : (aget fs n).isSome = true ∨ fs.length < 200) (hn : n.size ≤ 40) : Fs (aput fs n f) M' := by
  refine ⟨?_, ?_, ?_, aput_nodup h.nodup _ _, ?_⟩
  · intro p hp
    rcases mem_aput hp with h2 | rfl
    · exact h.files p h2
    · exact h1
  · have := sizes_aput fs n f
    omega
  · rw [length_aput]
    have := h.few
    split
    · exact this
    · rcases hf with q | q
      · simp_all
      · omega
  · intro p hp
    rcases mem_aput hp with h2 | rfl
    · exact h.short p h2
    · exact hn
theorem Fs.del {fs : Files} {M : Nat} (h : Fs fs M) (n : ByteArray) : Fs (adel fs n) M := by
  refine ⟨fun p hp => h.files p ((adel_sublist fs n).subset hp), ?_, ?_, adel_nodup h.nodup _, fun p hp => h.short p ((adel_sublist fs n).subset hp)⟩
  · have := sizes_adel fs n
    have := h.bytes
    omega
  · rw [length_adel]
    have := h.few
    split <;> omega
theorem Fs.short_of {fs : Files} {M : Nat} (h : Fs fs M) {n : ByteArray} (hi : (aget fs n).isSome = true) : n.size ≤ 40 := by
  cases hg : aget fs n with
  | none => rw [hg] at hi; cases hi
  | some f => exact h.short _ (aget_mem hg)

theorem size_extract0 (b : ByteArray) {n : Int} (h0 : 0 ≤ n) (h : n ≤ b.size) : ((b.extract 0 n.toNat).size : Int) = n := by
  simp; omega
theorem Fs.crashOne {fs : Files} {M : Nat} (h : Fs fs M) (s : ByteArray) {k : Int} (hk : 0 ≤ k) : Fs (DS.crashOne fs s k) M := by
  obtain ⟨q1, q2, q3⟩ := h.fok.get s
  cases hg : aget fs s with
  | none =>
    have : DS.crashOne fs s k = fs := by
      unfold DS.crashOne
      have e : (DS.crashFile ((aget fs s).getD File.zero) k).known = false := by
        rw [hg]
        show (false || decide (0 < (0 : Int) + min k (((⟨#[]⟩ : ByteArray).size : Int) - 0))) = false
        simp
        have : (ByteArray.mk #[]).size = 0 := rfl
        omega
      simp only [e, Bool.false_eq_true, if_false]
      exact adel_aput_none _ hg
    rw [this]; exact h
  | some f =>
    rw [hg] at q1 q2 q3
    simp only [Option.getD_some] at q1 q2 q3
    have hn1 : 0 ≤ f.lasts + min k (f.b.size - f.lasts) := by omega
    have hn2 : f.lasts + min k (f.b.size - f.lasts) ≤ f.b.size := by omega
    have he := size_extract0 f.b hn1 hn2
    have hp : Fs (aput fs s (DS.crashFile f k)) M := by
      refine h.put s _ ⟨hn1, ?_⟩ ?_ (.inl (by rw [hg]; rfl)) (h.short_of (by rw [hg]; rfl))
      · show f.lasts + min k (f.b.size - f.lasts) ≤ ((f.b.extract 0 (f.lasts + min k (f.b.size - f.lasts)).toNat).size : Int)
        omega
      · rw [hg]
        have : (DS.crashFile f k).b.size = (f.b.extract 0 (f.lasts + min k (f.b.size - f.lasts)).toNat).size := rfl
        have := h.bytes
        simp only [Option.getD_some]
        omega
    unfold DS.crashOne
    rw [hg]
    simp only [Option.getD_some]
    split
    · exact hp
    · exact hp.del s
theorem Fs.crashAll {M : Nat} : ∀ (l : List ByteArray) {fs : Files} (ks : List Int), Fs fs M → Fs (DS.crashAll fs l ks) M
  | [], _, _, h => h
  | s :: l, _, ks, h => Fs.crashAll l ks.tail (h.crashOne s (by omega))
namespace DS
theorem tick_fs (d : DS) : d.tick.fs = d.fs := by unfold tick; split <;> rfl
theorem tick_on (d : DS) : d.tick.on = d.on := by unfold tick; split <;> rfl
theorem tick_keep (d : DS) : d.tick.keep = d.keep := by unfold tick; split <;> rfl
theorem tick_room (d : DS) : d.tick.room = d.room := by unfold tick; split <;> rfl
theorem crash_Fs {d : DS} {M : Nat} (h : Fs d.fs M) (keep : List Int) : Fs (d.crash keep).fs M := by
  unfold crash
  split
  · exact Fs.crashAll _ _ h
  · exact h
theorem Ok.crash {d : DS} {M : Nat} (h : d.Ok M) (keep : List Int) : (d.crash keep).Ok M := by
  refine Ok.of (crash_Fs h.fs keep) ?_
  unfold DS.crash
  split
  · intro q; cases q
  · exact h.left
theorem Ok.done {d : DS} {M : Nat} (h : d.Ok M) (ho : d.on = true) : d.done.Ok M := by
  unfold DS.done
  split
  · refine Ok.of (crash_Fs (by rw [tick_fs]; exact h.fs) _) ?_
    unfold DS.crash
    rw [tick_on, ho, if_pos rfl]
    intro q; cases q
  · rename_i hg
    refine Ok.of (by rw [tick_fs]; exact h.fs) ?_
    unfold DS.tick
    split
    · rename_i ha
      have := h.left ha
      intro _
      unfold DS.goes at hg
      simp [ha] at hg
      show 0 ≤ d.left - 1
      omega
    · exact h.left
theorem may_on {d : DS} {l : List ByteArray} (h : d.may l = 0) : d.on = true := by
  unfold may at h
  split at h
  · assumption
  · cases h
theorem mayAll_short {l : List ByteArray} (h : mayAll l = 0) : ∀ s ∈ l, 1 ≤ s.size ∧ s.size ≤ 40 := by
  induction l with
  | nil => simp
  | cons a l ih =>
    unfold mayAll at h
    split at h
    · cases h
    · rename_i hb
      intro s hs
      rcases List.mem_cons.1 hs with rfl | hs
      · simp only [badName, Bool.or_eq_true, decide_eq_true_eq] at hb
        omega
      · exact ih h s hs
theorem may_short {d : DS} {l : List ByteArray} (h : d.may l = 0) : ∀ s ∈ l, 1 ≤ s.size ∧ s.size ≤ 40 := by
  have ho := may_on h
  unfold may at h
  rw [ho, if_pos rfl] at h
  exact mayAll_short h
theorem find_is {d : DS} {n : ByteArray} (h : (d.find n).2 = 0) : d.may [n] = 0 ∧ (aget d.fs n).isSome = true ∧ d.find n = (d.get n, 0) := by
  unfold find at *
  by_cases hm : d.may [n] = 0
  · simp only [hm, if_true] at h ⊢
    by_cases hi : (aget d.fs n).isSome = true
    · simp [hi]
    · simp [hi] at h
  · simp [hm] at h
theorem Ok.appended {d : DS} {M : Nat} (h : d.Ok M) {n data : ByteArray} (hm : d.may [n] = 0) (hf : d.full n data.size = false) :
    Ok { d with fs := aput d.fs n { d.get n with b := (d.get n).b ++ data } } (M + data.size) := by
  have hg := h.fs.fok.get n
  refine Ok.of (h.fs.put n _ ⟨hg.1, ?_⟩ ?_ ?_ (may_short hm n (by simp)).2) h.left
  · show (d.get n).lasts ≤ (((d.get n).b ++ data).size : Int)
    have : ((d.get n).b ++ data).size = (d.get n).b.size + data.size := by simp
    have := hg.2.1
    unfold DS.get at *
    omega
  · have := h.bytes
    have e : ((d.get n).b ++ data).size = (d.get n).b.size + data.size := by simp
    have := h.fs.bytes
    unfold DS.get at *
    show sizes d.fs + (((aget d.fs n).getD File.zero).b ++ data).size ≤ _
    omega
  · unfold full at hf
    simp only [Bool.or_eq_false_iff, Bool.and_eq_false_iff] at hf
    rcases hf.1 with q | q
    · left; simpa using q
    · right; simpa using q
theorem Ok.synced {d : DS} {M : Nat} (h : d.Ok M) {n : ByteArray} (hi : (aget d.fs n).isSome = true) : Ok { d with fs := aput d.fs n ⟨(d.get n).b, (d.get n).b.size, true⟩ } M := by
  refine Ok.of (h.fs.put n _ ⟨?_, Int.le_refl _⟩ ?_ (.inl hi) (h.fs.short_of hi)) h.left
  · show (0 : Int) ≤ ((d.get n).b.size : Int); omega
  · have := h.fs.bytes
    unfold DS.get
    show _ ≤ _
    simp only []
    omega
theorem Ok.truncated {d : DS} {M : Nat} (h : d.Ok M) {n : ByteArray} (hi : (aget d.fs n).isSome = true) {k : Int} (h0 : 0 ≤ k) (h1 : k ≤ (d.get n).b.size) : Ok { d with fs := aput d.fs n ⟨(d.get n).b.extract 0 k.toNat, min (d.get n).lasts k, (d.get n).known⟩ } M := by
  have hg := h.fs.fok.get n
  have he := size_extract0 (d.get n).b h0 h1
  refine Ok.of (h.fs.put n _ ⟨?_, ?_⟩ ?_ (.inl hi) (h.fs.short_of hi)) h.left
  · show 0 ≤ min (d.get n).lasts k
    unfold DS.get at *
    omega
  · show min (d.get n).lasts k ≤ (((d.get n).b.extract 0 k.toNat).size : Int)
    omega
  · have := h.fs.bytes
    show sizes d.fs + ((d.get n).b.extract 0 k.toNat).size ≤ M + (d.get n).b.size
    omega
theorem Ok.removed {d : DS} {M : Nat} (h : d.Ok M) (n : ByteArray) : Ok { d with fs := adel d.fs n } M := Ok.of (h.fs.del n) h.left
theorem length_adel_is {l : Files} {n : ByteArray} (hi : (aget l n).isSome = true) : (adel l n).length + 1 ≤ l.length := by
  rw [length_adel, if_pos hi]
  cases l with
  | nil => simp [aget] at hi
  | cons => simp
theorem Ok.renamed {d : DS} {M : Nat} (h : d.Ok M) {m n : ByteArray} (hm : d.may [m, n] = 0) (hi : (aget d.fs m).isSome = true) : Ok { d with fs := aput (adel d.fs m) n (d.get m) } M := by
  have hg := h.fs.fok.get m
  have h1 := h.fs.del m
  refine Ok.of (h1.put n _ ⟨hg.1, hg.2.1⟩ ?_ (.inr ?_) (may_short hm n (by simp)).2) h.left
  · have e1 := sizes_adel d.fs m
    have e2 := h.fs.bytes
    show sizes (adel d.fs m) + (d.get m).b.size ≤ _
    unfold DS.get
    omega
  · have := length_adel_is hi
    have := h.few
    omega
end DS
end Go.Proofs.YtfjkjndpndjfpaaGreatDoor
