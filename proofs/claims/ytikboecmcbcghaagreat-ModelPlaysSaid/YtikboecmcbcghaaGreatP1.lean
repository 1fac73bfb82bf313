/- Proved here: contracts of functions and plain laws, part 1 of one proof. Conditions: each theorem names its own. -/
import Derived.WalkKit
import Derived.WalkSpells
import Derived.WalkLawsBesides
import Derived.Maps.Own
import Derived.Maps.OwnOps
import Derived.Maps.OwnSet
import Derived.Maps.RangeWalk
import Derived.Lib.Hide
import Derived.Laws.AppendOwn
import Derived.Test.YtikboecmcbcghaaGreatProg
import Derived.RegionTactic
import Derived.ChangeAlike
import Derived.StillTail
import Derived.Deep.QuietTactic
import Derived.BigQuiet
import Derived.Lib.QuietBelow
import Derived.Deep.RegionHeld3
import Derived.StillTailTactics
import Derived.ProofKit
import Derived.OpenShut
import Derived.ChangeMaps5
import Derived.SliceStrings
import Derived.Deep.Slices
import Derived.ChangeArms
import Derived.DataReads
import Derived.Deep.DeepCutAuto
import Derived.Deep.AppendLies
/- Plain laws on worlds, used by all proofs of this seat: blocks known whole, which blocks a call may change, maps with typed keys as association lists, iterators over them. No program is named. -/
set_option linter.unusedVariables false
set_option linter.unusedSimpArgs false
namespace Go.Proofs.YtikboecmcbcghaaGreat
open Go.RowKit Go.MapKept Go.ChangeMaps

/-! ## blocks -/
/-- Block g is just these cells of type t, none frozen. -/
def Blk (w : World) (g : Nat) (t : TypeId) (cs : Array Value) : Prop := w.heap[g]? = some (.cells cs t (0, 0))

section
variable {w w' : World} {g : Nat} {t : TypeId} {cs : Array Value}
theorem Blk.lt (h : Blk w g t cs) : g < w.heap.size := lt_of_block h
theorem Blk.cell (h : Blk w g t cs) (i : Nat) : w.cell? ⟨g, i, none⟩ = cs[i]? := cell_of_row w g i cs t (0, 0) h
theorem Blk.free (h : Blk w g t cs) (i : Nat) : w.frozen? ⟨g, i, none⟩ = false := frozen_of_row w g i cs t h
theorem Blk.new (w : World) (t : TypeId) (cs : Array Value) : Blk (w.alloc (.cells cs t)) w.heap.size t cs := heap_alloc_new w _
theorem Blk.set (h : Blk w g t cs) (i : Nat) (u : Value) : Blk (w.setCell ⟨g, i, none⟩ u) g t (cs.setIfInBounds i u) := heap_setCell_same w g i cs t u h
theorem Blk.of_eq (h : Blk w g t cs) (e : w'.heap[g]? = w.heap[g]?) : Blk w' g t cs := e.trans h
theorem Blk.other {g' : Nat} {t' : TypeId} {cs' : Array Value} (h : Blk w g t cs) (h' : Blk w g' t' cs') (ht : t ≠ t') : g ≠ g' := by
  intro e
  subst e
  unfold Blk at h h'
  rw [h] at h'
  simp at h'
  exact ht h'.2
theorem Blk.not_map {b : Nat} {es : Array MapEntry} {clock : Nat} (h : Blk w g t cs) (hb : w.heap[b]? = some (.map es clock)) : g ≠ b := by
  intro e
  subst e
  unfold Blk at h
  rw [h] at hb
  simp at hb
end

/-! ## what a call may have changed -/
/-- Of what was there at w only the blocks in S may have turned in w'. -/
structure Only (S : List Nat) (w w' : World) : Prop where
  os : w'.os = w.os
  tape : w'.tape = w.tape
  output : w'.output = w.output
  size : w.heap.size ≤ w'.heap.size
  block : ∀ k, k < w.heap.size → k ∉ S → w'.heap[k]? = w.heap[k]?

section
variable {S S' : List Nat} {a w w' : World}
theorem Only.refl (S : List Nat) (w : World) : Only S w w := ⟨rfl, rfl, rfl, Nat.le_refl _, fun _ _ _ => rfl⟩
theorem Only.trans (h : Only S a w) (k : Only S w w') : Only S a w' :=
  ⟨k.os.trans h.os, k.tape.trans h.tape, k.output.trans h.output, Nat.le_trans h.size k.size, fun i hi hn => (k.block i (Nat.lt_of_lt_of_le hi h.size) hn).trans (h.block i hi hn)⟩
theorem Only.mono (h : Only S a w) (hs : ∀ k, k ∈ S → k ∈ S') : Only S' a w := ⟨h.os, h.tape, h.output, h.size, fun i hi hn => h.block i hi (fun e => hn (hs i e))⟩
theorem Only.of_nil (h : Only [] a w) : Only S a w := h.mono (fun _ e => by cases e)
/-- A step behind: it may turn blocks in S, or blocks that are new since a. -/
theorem Only.step (h : Only S a w) (k : Only S' w w') (hs : ∀ i, i ∈ S' → i ∈ S ∨ a.heap.size ≤ i) : Only S a w' :=
  ⟨k.os.trans h.os, k.tape.trans h.tape, k.output.trans h.output, Nat.le_trans h.size k.size, fun i hi hn =>
    (k.block i (Nat.lt_of_lt_of_le hi h.size) (fun e => (hs i e).elim hn (fun e => absurd hi (by omega)))).trans (h.block i hi hn)⟩
theorem Only.alloc (h : Only S a w) (o : Obj) : Only S a (w.alloc o) :=
  h.trans ⟨rfl, rfl, rfl, by simp, fun k hk _ => Below.heap_alloc _ _ _ hk⟩
theorem Only.setCell (h : Only S a w) {p : Addr} (hp : p.block ∈ S ∨ a.heap.size ≤ p.block) (u : Value) : Only S a (w.setCell p u) :=
  h.step (S' := [p.block]) ⟨rfl, rfl, rfl, by simp [World.setCell], fun k _ hn => Below.heap_setCell _ _ _ _ (by simpa using hn)⟩ (fun i hi => by simp at hi; subst hi; exact hp)
theorem Only.drew (h : Only S a w) : Only S a w.drew := ⟨h.os, h.tape, h.output, h.size, h.block⟩
theorem Only.setBlock (h : Only S a w) {b : Nat} (hb : b ∈ S ∨ a.heap.size ≤ b) (o : Obj) : Only S a (setBlock w b o) :=
  h.step (S' := [b]) ⟨rfl, rfl, rfl, by simp [Go.ChangeMaps.setBlock], fun k _ hn => by
    simp only [Go.ChangeMaps.setBlock, Array.getElem?_setIfInBounds]
    rw [if_neg (by intro e; exact hn (by simp [e]))]⟩ (fun i hi => by simp at hi; subst hi; exact hb)
theorem Only.grown (h : Only S a w) {row : Option Nat} (hg : w.grownBy w' row) (hr : ∀ k, row = some k → k ∈ S ∨ a.heap.size ≤ k) : Only S a w' :=
  h.step (S' := row.toList) ⟨hg.os, hg.tape, hg.output, hg.size, fun k hk hn => hg.block k hk (fun e => hn (by rw [← e]; simp))⟩ (fun i hi => hr i (by simpa using hi))
theorem Only.below (h : Only S a w) {B : Nat} (hb : Below B w w') (hB : w.heap.size ≤ B) : Only S a w' :=
  h.trans ⟨hb.os, hb.tape, hb.output, hb.size, fun k hk _ => hb.block k (by omega)⟩
theorem Only.of_below {B : Nat} (hb : Below B w w') (hB : w.heap.size ≤ B) : Only S w w' := (Only.refl S w).below hb hB
theorem Only.toBelow (h : Only [] a w) : Below a.heap.size a w := ⟨h.os, h.tape, h.output, h.size, fun k hk => h.block k hk (by simp)⟩
theorem Only.cell (h : Only S a w) {p : Addr} (hp : p.block < a.heap.size) (hn : p.block ∉ S) : w.cell? p = a.cell? p := World.cell?_of_block (h.block p.block hp hn)
theorem Only.frozen (h : Only S a w) {p : Addr} (hp : p.block < a.heap.size) (hn : p.block ∉ S) : w.frozen? p = a.frozen? p := World.frozen?_of_block (h.block p.block hp hn)
theorem Only.blk (h : Only S a w) {g : Nat} {t : TypeId} {cs : Array Value} (hg : Blk a g t cs) (hn : g ∉ S) : Blk w g t cs := hg.of_eq (h.block g hg.lt hn)
end

/-! ## association lists -/
section
variable {κ ν : Type} [DecidableEq κ]
def aget : List (κ × ν) → κ → Option ν
  | [], _ => none
  | (a, b) :: l, k => if a = k then some b else aget l k
def aput : List (κ × ν) → κ → ν → List (κ × ν)
  | [], k, v => [(k, v)]
  | (a, b) :: l, k, v => if a = k then (k, v) :: l else (a, b) :: aput l k v
def adel : List (κ × ν) → κ → List (κ × ν)
  | [], _ => []
  | (a, b) :: l, k => if a = k then l else (a, b) :: adel l k
/-- No key stands twice. -/
def ANodup (l : List (κ × ν)) : Prop := (l.map (·.1)).Nodup

theorem aget_mem {l : List (κ × ν)} {k : κ} {v : ν} (h : aget l k = some v) : (k, v) ∈ l := by
  induction l with
  | nil => simp [aget] at h
  | cons p l ih =>
    obtain ⟨a, b⟩ := p
    simp only [aget] at h
    split at h
    · rename_i e; subst e; cases h; simp
    · exact List.mem_cons_of_mem _ (ih h)
theorem aget_of_mem {l : List (κ × ν)} (hn : ANodup l) {k : κ} {v : ν} (h : (k, v) ∈ l) : aget l k = some v := by
  induction l with
  | nil => simp at h
  | cons p l ih =>
    obtain ⟨a, b⟩ := p
    simp only [ANodup, List.map_cons, List.nodup_cons] at hn
    simp only [List.mem_cons, Prod.mk.injEq] at h
    simp only [aget]
    rcases h with ⟨rfl, rfl⟩ | h
    · simp
    · rw [if_neg, ih hn.2 h]
      intro e; subst e
      exact hn.1 (List.mem_map.2 ⟨_, h, rfl⟩)
theorem aput_keys (l : List (κ × ν)) (k : κ) (v : ν) : (aput l k v).map (·.1) = if k ∈ l.map (·.1) then l.map (·.1) else l.map (·.1) ++ [k] := by
  induction l with
  | nil => simp [aput]
  | cons p l ih =>
    obtain ⟨a, b⟩ := p
    simp only [aput]
    by_cases h : a = k
    · subst h; simp
    · have h' : ¬ k = a := fun e => h e.symm
      rw [if_neg h]
      simp only [List.map_cons, ih, List.mem_cons, h', false_or]
      split <;> simp
theorem aput_nodup {l : List (κ × ν)} (h : ANodup l) (k : κ) (v : ν) : ANodup (aput l k v) := by
  unfold ANodup at *
  rw [aput_keys]
  split
  · exact h
  · rename_i hk
    refine List.nodup_append.2 ⟨h, by simp, ?_⟩
    intro a ha b hb
    simp at hb
    subst hb
    intro e
    subst e
    exact hk ha
theorem aget_aput (l : List (κ × ν)) (k q : κ) (v : ν) : aget (aput l k v) q = if k = q then some v else aget l q := by
  induction l with
  | nil => simp [aput, aget]
  | cons p l ih =>
    obtain ⟨a, b⟩ := p
    simp only [aput]
    by_cases h : a = k
    · subst h
      simp only [if_true, aget]
      split <;> simp_all
    · rw [if_neg h]
      simp only [aget, ih]
      by_cases h2 : a = q
      · subst h2; simp; intro e; exact absurd e.symm h
      · simp [h2]
theorem length_aput (l : List (κ × ν)) (k : κ) (v : ν) : (aput l k v).length = if (aget l k).isSome then l.length else l.length + 1 := by
  induction l with
  | nil => simp [aput, aget]
  | cons p l ih =>
    obtain ⟨a, b⟩ := p
    simp only [aput, aget]
    by_cases h : a = k
    · simp [h]
    · simp only [if_neg h, List.length_cons, ih]; split <;> rfl
end

/-! ## maps -/
/-- How a key of Go lies as a value. -/
structure KeyEnc {κ : Type} (d : TypeDesc) (enc : κ → Value) : Prop where
  key : ∀ a, IsKey d (enc a)
  inj : ∀ a b, enc a = enc b → a = b

theorem keyEnc_string : KeyEnc .string Value.string := ⟨fun _ => trivial, fun _ _ h => by injection h⟩
theorem KeyEnc.same {κ : Type} [DecidableEq κ] {d : TypeDesc} {enc : κ → Value} (K : KeyEnc d enc) (a b : κ) : Instr.sameNow d (enc a) (enc b) = some (decide (a = b)) := by
  obtain ⟨r, hr, hi⟩ := sameNow_of_keys (K.key a) (K.key b)
  rw [hr]
  by_cases h : a = b
  · subst h; simp [hi]
  · have : r = false := by
      cases r with
      | false => rfl
      | true => exact absurd (K.inj _ _ (hi.1 rfl)) h
    simp [this, h]

set_option linter.unusedSectionVars false
section
variable {κ : Type} [DecidableEq κ]
/-- Block b is a map that holds just these, in this order of coming. -/
def MapIs (enc : κ → Value) (w : World) (b : Nat) (kv : List (κ × Value)) : Prop :=
  ∃ es clock, w.heap[b]? = some (.map es clock) ∧ Stamped es clock ∧ es.toList.map (fun x => (x.key, x.val)) = kv.map (fun p => (enc p.1, p.2))

variable {enc : κ → Value} {w w' : World} {b : Nat} {kv : List (κ × Value)}
theorem MapIs.of_eq (h : MapIs enc w b kv) (e : w'.heap[b]? = w.heap[b]?) : MapIs enc w' b kv := by
  obtain ⟨es, clock, h1, h2⟩ := h
  exact ⟨es, clock, e.trans h1, h2⟩
theorem MapIs.lt (h : MapIs enc w b kv) : b < w.heap.size := by
  obtain ⟨es, clock, h1, _⟩ := h
  exact lt_of_block h1
theorem MapIs.only {S : List Nat} (h : MapIs enc w b kv) (k : Only S w w') (hn : b ∉ S) : MapIs enc w' b kv := h.of_eq (k.block b h.lt hn)
theorem MapIs.alloc (h : MapIs enc w b kv) (o : Obj) : MapIs enc (w.alloc o) b kv := h.of_eq (Below.heap_alloc _ _ _ h.lt)
theorem MapIs.drew (h : MapIs enc w b kv) : MapIs enc w.drew b kv := h
theorem MapIs.ne_blk {g : Nat} {t : TypeId} {cs : Array Value} (h : MapIs enc w b kv) (hg : Blk w g t cs) : b ≠ g := by
  obtain ⟨es, clock, h1, _⟩ := h
  exact fun e => hg.not_map h1 e.symm
theorem MapIs.setCell (h : MapIs enc w b kv) {p : Addr} (hp : b ≠ p.block) (u : Value) : MapIs enc (w.setCell p u) b kv := h.of_eq (Below.heap_setCell _ _ _ _ hp)
/-- A store into a cell that is there does not turn a map. -/
theorem MapIs.new (enc : κ → Value) (w : World) : MapIs enc (w.alloc (.map #[] 0)) w.heap.size [] := ⟨#[], 0, heap_alloc_new w _, stamped_empty 0, rfl⟩

theorem findNow_enc {d : TypeDesc} (K : KeyEnc d enc) (k : κ) : ∀ (es : List MapEntry) (kv : List (κ × Value)) (i : Nat), es.map (fun x => (x.key, x.val)) = kv.map (fun p => (enc p.1, p.2)) →
    (Instr.findNow d (enc k) es i = some none ∧ aget kv k = none ∧ (∀ x ∈ es, x.key ≠ enc k) ∧ (∀ v, aput kv k v = kv ++ [(k, v)]) ∧ adel kv k = kv) ∨
    ∃ j e v, Instr.findNow d (enc k) es i = some (some (i + j, v)) ∧ es[j]? = some e ∧ e.key = enc k ∧ e.val = v ∧ kv[j]? = some (k, v) ∧ aget kv k = some v ∧ (∀ v, aput kv k v = kv.set j (k, v)) ∧ adel kv k = kv.eraseIdx j
  | [], [], _, _ => .inl ⟨rfl, rfl, by simp, fun _ => rfl, rfl⟩
  | [], _ :: _, _, h => by simp at h
  | _ :: _, [], _, h => by simp at h
  | e :: es, (a, v) :: kv, i, h => by
    simp only [List.map_cons, List.cons.injEq, Prod.mk.injEq] at h
    obtain ⟨⟨h1, h2⟩, h3⟩ := h
    have hs := K.same k a
    rw [← h1] at hs
    by_cases hk : a = k
    · subst hk
      refine .inr ⟨0, e, v, ?_, rfl, h1, h2, rfl, by simp [aget], fun _ => by simp [aput], by simp [adel]⟩
      simp [Instr.findNow, hs, h2]
    · have hk' : ¬ k = a := fun e => hk e.symm
      have hs' : Instr.sameNow d (enc k) e.key = some false := by simp [hs, hk']
      have hne : e.key ≠ enc k := by
        intro q
        have := K.same k k
        rw [q] at hs'
        rw [hs'] at this
        simp at this
      rcases findNow_enc K k es kv (i + 1) h3 with ⟨p1, p2, p3, p4, p5⟩ | ⟨j, e', v', p1, p2, p3, p4, p5, p6, p7, p8⟩
      · refine .inl ⟨by simp [Instr.findNow, hs', p1], by simp [aget, hk, p2], ?_, fun u => by simp [aput, hk, p4], by simp [adel, hk, p5]⟩
        intro x hx
        cases hx with
        | head => exact hne
        | tail _ hx => exact p3 x hx
      · refine .inr ⟨j + 1, e', v', by simp [Instr.findNow, hs', p1]; omega, by simpa using p2, p3, p4, by simpa using p5, by simp [aget, hk, p6], fun u => by simp [aput, hk, p7], by simp [adel, hk, p8]⟩

variable {P : Program} {t k e : TypeId} {d : TypeDesc}
theorem MapIs.nodup (h : MapIs enc w b kv) : ANodup kv := by
  obtain ⟨es, clock, _, ⟨_, _, h3⟩, h4⟩ := h
  have e1 : es.toList.map (·.key) = (kv.map (·.1)).map enc := by
    have := congrArg (List.map Prod.fst) h4
    simpa [List.map_map, Function.comp_def] using this
  rw [e1] at h3
  unfold ANodup
  generalize kv.map (·.1) = l at h3
  induction l with
  | nil => simp
  | cons a l ih =>
    simp only [List.map_cons, List.nodup_cons] at h3
    exact List.nodup_cons.2 ⟨fun hm => h3.1 (List.mem_map.2 ⟨a, hm, rfl⟩), ih h3.2⟩

theorem MapIs.lookup (K : KeyEnc d enc) (ht : P.underlying t = some (.map k e)) (hk : P.underlying k = some d) {z : Value} (hz : (zeroValue e).run P w = .ok z w) (h : MapIs enc w b kv) (q : κ) (ok : Bool) :
    (Instr.lookup t (.map (some b)) (enc q) ok).run P w = .ok (if ok then .tuple #[(aget kv q).getD z, .bool (aget kv q).isSome] else (aget kv q).getD z) w := by
  obtain ⟨es, clock, hb, hs, hm⟩ := h
  rcases findNow_enc K q es.toList kv 0 hm with ⟨p1, p2, _⟩ | ⟨j, e', v, p1, _, _, _, _, p6, _⟩
  · cases ok <;> simp [Instr.lookup, run_underlying ht, MapKept.run_getObj_map hb, MapKept.run_checkKey hk (K.key q), MapKept.run_findKey hk p1, hz, p2, Result.andThen]
  · cases ok <;> simp [Instr.lookup, run_underlying ht, MapKept.run_getObj_map hb, MapKept.run_checkKey hk (K.key q), MapKept.run_findKey hk p1, p6, Result.andThen]

theorem MapIs.update (K : KeyEnc d enc) (ht : P.underlying t = some (.map k e)) (hk : P.underlying k = some d) (h : MapIs enc w b kv) (q : κ) (v : Value) :
    ∃ o, (Instr.mapUpdate t (.map (some b)) (enc q) v).run P w = .ok () (setBlock w b o) ∧ MapIs enc (setBlock w b o) b (aput kv q v) := by
  obtain ⟨es, clock, hb, hs, hm⟩ := h
  rcases findNow_enc K q es.toList kv 0 hm with ⟨p1, p2, p3, p4, _⟩ | ⟨j, e', v0, p1, p2, p3, p4, p5, _, p7, _⟩
  · refine ⟨.map (es.push { key := enc q, val := v, born := clock }) (clock + 1), ?_, _, _, heap_setBlock_same hb _, stamped_push hs p3, ?_⟩
    · simp [Instr.mapUpdate, run_underlying ht, MapKept.run_getObj_map hb, MapKept.run_checkKey hk (K.key q), MapKept.run_findKey hk p1, MapKept.run_setObj_map _ hb, Result.andThen, Go.ChangeMaps.setBlock]
    · rw [p4]; simp [hm]
  · have hj : es[j]? = some e' := by simpa using p2
    have hkey : ∀ x, es[j]? = some x → ({ x with key := enc q, val := v } : MapEntry).key = x.key := fun x hx => by rw [hj] at hx; cases hx; exact p3.symm
    refine ⟨.map (es.modify j fun x => { x with key := enc q, val := v }) clock, ?_, _, _, heap_setBlock_same hb _, stamped_modify hs j _ (fun _ _ => rfl) (fun x _ hx => hkey x hx), ?_⟩
    · simp [Instr.mapUpdate, run_underlying ht, MapKept.run_getObj_map hb, MapKept.run_checkKey hk (K.key q), MapKept.run_findKey hk p1, hj, p3, MapKept.run_keyThatStays (K.key q), MapKept.run_setObj_map _ hb, Result.andThen, Go.ChangeMaps.setBlock]
    · rw [p7]
      apply List.ext_getElem?
      intro i
      have hm' := congrArg (fun l => l[i]?) hm
      simp only [List.getElem?_map] at hm'
      simp only [List.getElem?_map, Array.getElem?_toList, Array.getElem?_modify, List.getElem?_set]
      by_cases e : j = i
      · subst e
        have hl : j < kv.length := (List.getElem?_eq_some_iff.1 p5).1
        simp [hj, hl]
      · rw [if_neg e, if_neg e]
        simpa using hm'

theorem MapIs.len (ht : P.underlying t = some (.map k e)) (h : MapIs enc w b kv) (ty : TypeId) :
    (Builtin.len_ #[t] ty #[.map (some b)]).run P w = .ok (.int .i64 kv.length) w := by
  obtain ⟨es, clock, hb, _, hm⟩ := h
  have hl := congrArg List.length hm
  simp at hl
  simp [Builtin.len_, run_underlying ht, MapKept.run_getObj_map hb, Result.andThen, goInt, hl]

/-! the laws at the operation -/
variable {ops : Array Oper} {rest : List Oper} {o : Oper} {a : Act} {Q : Exit → Act → World → Prop}
theorem wpList_lookup_is (hg : o.guard = none) {m x : Operand} (t : TypeId) (hop : o.op = .lookup t m x false) (K : KeyEnc d enc) (ht : P.underlying t = some (.map k e)) (hk : P.underlying k = some d) {z : Value}
    (hz : (zeroValue e).run P w = .ok z w) (q : κ) (hm : a.eval m = .map (some b)) (hx : a.eval x = enc q) (h : MapIs enc w b kv) (v : Value) (hv : (aget kv q).getD z = v)
    (hK : wpList P ops Q rest (a.put o.dst v) w) : wpList P ops Q (o :: rest) a w := by
  refine wpList_plain hg fun K' hK' => ?_
  unfold Oper.wp
  simp only [execOp, hop, hm, hx, h.lookup K ht hk hz q false, Sem.run_bind, Sem.run_pure, Result.andThen_ok, hv]
  exact hK' _ _ hK
theorem wpList_update_is (hg : o.guard = none) {m x v : Operand} (t : TypeId) (hop : o.op = .mapUpdate t m x v) (K : KeyEnc d enc) (ht : P.underlying t = some (.map k e)) (hk : P.underlying k = some d)
    (q : κ) (val : Value) (hm : a.eval m = .map (some b)) (hx : a.eval x = enc q) (hv : a.eval v = val) (h : MapIs enc w b kv)
    (hK : ∀ w', MapIs enc w' b (aput kv q val) → Only [b] w w' → wpList P ops Q rest (a.put o.dst undef) w') : wpList P ops Q (o :: rest) a w := by
  refine wpList_plain hg fun K' hK' => ?_
  obtain ⟨o', hrun, r1⟩ := h.update K ht hk q val
  unfold Oper.wp
  simp [execOp, hop, hm, hx, hv, hrun, Result.andThen]
  exact hK' _ _ (hK _ r1 ((Only.refl _ w).setBlock (.inl (by simp)) _))
end

end Go.Proofs.YtikboecmcbcghaaGreat
/- All streams as plain data: what each method of model.State answers and leaves, as functions on lists. No program is named. -/
set_option linter.unusedVariables false
set_option linter.unusedSimpArgs false
namespace Go.Proofs.YtikboecmcbcghaaGreat
open Go.RowKit

structure EventR where
  id : Int
  type : ByteArray
  data : ByteArray
  value : Nat
structure MetaR where
  maxCount : Int
  maxAge : Int
  before : Int
deriving DecidableEq
structure Cmd where
  kind : Int
  time : Int
  stream : ByteArray
  expected : Int
  events : List EventR
  mt : MetaR
structure StoredR where
  ev : EventR
  stream : ByteArray
  version : Int
  position : Int
  time : Int
structure StreamR where
  places : List Int
  mt : MetaR
  floor : Int
  deleted : Bool
structure MS where
  all : List StoredR
  m : List (ByteArray × StreamR)
  done : Int
  now : Int
structure Ans where
  err : Int
  version : Int
  position : Int
  again : Bool
deriving DecidableEq
def MetaR.zero : MetaR := ⟨0, 0, 0⟩
def StreamR.zero : StreamR := ⟨[], MetaR.zero, 0, false⟩
def Ans.ok : Ans := ⟨0, 0, 0, false⟩
def EventR.cells (e : EventR) : List Value := [.int .i64 e.id, .string e.type, .string e.data, .float .f64 e.value]
def StoredR.cells (s : StoredR) : List Value := s.ev.cells ++ [.string s.stream, .int .i64 s.version, .int .i64 s.position, .int .i64 s.time]
def MetaR.cells (m : MetaR) : List Value := [.int .i64 m.maxCount, .int .i64 m.maxAge, .int .i64 m.before]
def StreamR.val (x : StreamR) (pv : Value) : Value := .agg #[pv, .int .i64 x.mt.maxCount, .int .i64 x.mt.maxAge, .int .i64 x.mt.before, .int .i64 x.floor, .bool x.deleted]
def Cmd.val (c : Cmd) (ev : Value) : Value := .agg #[.int .i64 c.kind, .int .i64 c.time, .string c.stream, .int .i64 c.expected, ev, .int .i64 c.mt.maxCount, .int .i64 c.mt.maxAge, .int .i64 c.mt.before]
def Ans.val (a : Ans) : Value := .agg #[.int .i64 a.err, .int .i64 a.version, .int .i64 a.position, .bool a.again]
def EventR.val (e : EventR) : Value := .agg #[.int .i64 e.id, .string e.type, .string e.data, .float .f64 e.value]
def MetaR.val (m : MetaR) : Value := .agg #[.int .i64 m.maxCount, .int .i64 m.maxAge, .int .i64 m.before]

/-! ## which commands may be -/
def okByte (b : UInt8) : Bool := !(decide ((b.toNat : Int) < 33) || decide (126 < (b.toNat : Int)) || decide ((b.toNat : Int) = 64))
def nameOk (s : ByteArray) : Bool := decide (1 ≤ s.size) && decide (s.size ≤ 60) && s.data.toList.all okByte
def within (n : Int) : Bool := decide (0 ≤ n) && decide (n ≤ 1099511627776)
def expects (n : Int) : Bool := within n || decide (n = -1) || decide (n = -2) || decide (n = -4)
def MetaR.ok (m : MetaR) : Bool := within m.maxCount && within m.maxAge && within m.before
def EventR.ok (e : EventR) : Bool := decide (1 ≤ e.id) && nameOk e.type && decide (e.data.size ≤ 200)
def eventsE (l : List EventR) : Int := if l.length = 0 then 1 else if 8 < l.length then 2 else if l.all EventR.ok then 0 else 1
def Cmd.spare (c : Cmd) : Bool :=
  (decide (c.kind ≠ 1 ∧ c.kind ≠ 2 ∧ c.kind ≠ 3) && decide (c.stream.toList ≠ [])) || (decide (c.kind ≠ 1 ∧ c.kind ≠ 3) && decide (c.expected ≠ 0)) ||
    (decide (c.kind ≠ 1) && decide (0 < c.events.length)) || (decide (c.kind ≠ 2) && decide (c.mt ≠ MetaR.zero))
def Cmd.check (c : Cmd) : Int :=
  if c.kind < 1 ∨ 5 < c.kind ∨ within c.time = false then 1
  else if c.kind ≤ 3 ∧ nameOk c.stream = false then 1
  else if c.kind = 1 ∧ eventsE c.events ≠ 0 then eventsE c.events
  else if (c.kind = 1 ∨ c.kind = 3) ∧ expects c.expected = false then 1
  else if c.kind = 2 ∧ c.mt.ok = false then 1
  else if c.spare then 1 else 0

/-! ## what is seen -/
def young (age now : Int) : List Int → Int
  | [] => 0
  | t :: l => if now - age < t then 0 else 1 + young age now l
def floorE (m : MetaR) (floor now : Int) (times : List Int) : Int :=
  let o1 := max (max floor 0) m.before
  let o2 := if 0 < m.maxCount then max o1 (times.length - m.maxCount) else o1
  let o3 := if 0 < m.maxAge then max o2 (young m.maxAge now times) else o2
  min o3 times.length
def timeAt (all : List StoredR) (p : Int) : Int := ((all[p.toNat]?).map (·.time)).getD 0
def idAt (all : List StoredR) (p : Int) : Int := ((all[p.toNat]?).map (·.ev.id)).getD 0
def times (all : List StoredR) (x : StreamR) : List Int := x.places.map (timeAt all)
namespace MS
def new : MS := ⟨[], [], 0, 0⟩
def find (s : MS) (n : ByteArray) : StreamR := (aget s.m n).getD StreamR.zero
def floorOf (s : MS) (x : StreamR) : Int := floorE x.mt x.floor s.now (times s.all x)
def put (s : MS) (n : ByteArray) (x : StreamR) : MS := { s with m := aput s.m n x }
def keep (s : MS) (n : ByteArray) (x : StreamR) : MS := s.put n { x with floor := s.floorOf x }
end MS
def expected (want count : Int) : Bool := if want = -2 then true else if want = -1 then decide (count = 0) else if want = -4 then decide (0 < count) else decide (want = count - 1)
def wrong (x : StreamR) : Ans := ⟨22, x.places.length - 1, 0, false⟩
def firstOf (all : List StoredR) (id : Int) : List Int → Int → Int
  | [], _ => -1
  | p :: l, k => if idAt all p = id then k else firstOf all id l (k + 1)
def MS.first (s : MS) (x : StreamR) (id : Int) : Int := firstOf s.all id x.places 0
def fitsAgain (c : Cmd) (v : Int) : Bool := decide (c.expected = -2) || decide (c.expected = -4) || (decide (c.expected = v - 1) && decide (0 < v)) || (decide (c.expected = -1) && decide (v = 0))
def sameIds (all : List StoredR) : List EventR → List Int → Bool
  | [], _ => true
  | _ :: _, [] => false
  | e :: l, p :: ps => decide (idAt all p = e.id) && sameIds all l ps
def MS.again (s : MS) (c : Cmd) (x : StreamR) (v : Int) : Ans :=
  if fitsAgain c v = false ∨ x.places.length - v < c.events.length then wrong x
  else if sameIds s.all c.events (x.places.drop v.toNat) then ⟨0, v, (x.places[(v + c.events.length - 1).toNat]?).getD 0, true⟩ else wrong x
def isNaN (b : Nat) : Bool := FloatKind.f64.format.order b b != some Ordering.eq
def canon (b : Nat) : Nat := if isNaN b then 9221120237041090560 else b
def EventR.canon (e : EventR) : EventR := { e with value := Proofs.YtikboecmcbcghaaGreat.canon e.value }
/-- The events as they are stored: behind all, in the stream. -/
def storedOf (stream : ByteArray) (now : Int) : List EventR → Int → Int → List StoredR
  | [], _, _ => []
  | e :: l, v, at_ => ⟨e.canon, stream, v, at_, now⟩ :: storedOf stream now l (v + 1) (at_ + 1)
def rangeFrom : Nat → Int → List Int
  | 0, _ => []
  | n + 1, a => a :: rangeFrom n (a + 1)
def MS.append (s : MS) (c : Cmd) (x : StreamR) : Ans × StreamR × MS :=
  (⟨0, x.places.length, s.all.length + c.events.length - 1, false⟩, { x with places := x.places ++ rangeFrom c.events.length s.all.length },
    { s with all := s.all ++ storedOf c.stream s.now c.events x.places.length s.all.length })
def MS.act (s : MS) (c : Cmd) (x : StreamR) : Ans × StreamR × MS :=
  let here : Ans := ⟨0, x.places.length, s.all.length, false⟩
  if c.kind = 2 then (here, { x with mt := c.mt }, s)
  else if c.kind = 3 then (if expected c.expected x.places.length then (here, { x with deleted := true }, s) else (wrong x, x, s))
  else
    let v := s.first x ((c.events.head?).map (·.id) |>.getD 0)
    if 0 ≤ v then (s.again c x v, x, s)
    else if expected c.expected x.places.length then s.append c x else (wrong x, x, s)
def MS.tick (s : MS) (t : Int) : MS := { s with now := max s.now t, done := s.done + 1 }
def MS.do (s : MS) (c : Cmd) : Ans × MS :=
  if c.check ≠ 0 then (⟨c.check, 0, 0, false⟩, s)
  else
    let s1 := s.tick c.time
    if c.kind = 4 ∨ c.kind = 5 then (⟨0, 0, s.all.length, false⟩, s1)
    else
      let x := s1.find c.stream
      if x.deleted then (⟨23, 0, 0, false⟩, s1)
      else
        let r := s1.act c { x with floor := s1.floorOf x }
        (r.1, r.2.2.keep c.stream r.2.1)
end Go.Proofs.YtikboecmcbcghaaGreat
/- Slices that are read, in whatever world; slices in memory that stays. No program is named. -/
set_option linter.unusedVariables false
set_option linter.unusedSimpArgs false
namespace Go.Proofs.YtikboecmcbcghaaGreat
open Go.RowKit
/-! ## slices that are only read -/
/-- v is a slice of n elements, size cells each, that holds the cells cs. -/
def Slc (w : World) (size : Nat) (v : Value) (n : Nat) (cs : List Value) : Prop :=
  ∃ A cap, v = .slice A n cap ∧ cs.length = n * size ∧ n ≤ cap ∧ cap ≤ maxLen ∧ (0 < n → ∃ b off, A = some ⟨b, off, none⟩ ∧ b < w.heap.size ∧ ∀ j, j < cs.length → w.cell? ⟨b, off + j, none⟩ = cs[j]?)
section
variable {w w' : World} {size n : Nat} {v : Value} {cs : List Value}
theorem Slc.keep (h : Slc w size v n cs) (hs : w.heap.size ≤ w'.heap.size) (hk : ∀ g, v.ownBlock = some g → g < w.heap.size → w'.heap[g]? = w.heap[g]?) : Slc w' size v n cs := by
  obtain ⟨A, cap, rfl, h1, h2, h3, h4⟩ := h
  refine ⟨A, cap, rfl, h1, h2, h3, fun hn => ?_⟩
  obtain ⟨b, off, rfl, hb, hc⟩ := h4 hn
  exact ⟨b, off, rfl, by omega, fun j hj => (World.cell?_of_block (hk b rfl hb)).trans (hc j hj)⟩
theorem Slc.only {S : List Nat} (h : Slc w size v n cs) (k : Only S w w') (hn : ∀ g, v.ownBlock = some g → g ∉ S) : Slc w' size v n cs :=
  h.keep k.size fun g hg hl => k.block g hl (hn g hg)
theorem Slc.nil (w : World) (size : Nat) : Slc w size (.slice none 0 0) 0 [] := ⟨none, 0, rfl, by simp, Nat.le_refl _, by simp [maxLen], fun h => absurd h (by omega)⟩
theorem Slc.of_own {base : Nat} {e : TypeId} (h : w.ownsRow base e size v n cs) : Slc w size v n cs ∧ ∀ g, v.ownBlock = some g → base ≤ g ∧ g < w.heap.size := by
  refine ⟨?_, h.lt⟩
  obtain ⟨h1, h2⟩ := h
  rcases h2 with ⟨rfl, rfl⟩ | ⟨g, cap, cur, rfl, hb, hg, hn, hc, hs, ht⟩
  · exact ⟨none, 0, rfl, h1, Nat.le_refl _, by simp [maxLen], fun h => absurd h (by omega)⟩
  · refine ⟨some ⟨g, 0, none⟩, cap, rfl, h1, hn, hc, fun _ => ⟨g, 0, rfl, lt_of_block hg, fun j hj => ?_⟩⟩
    rw [cell_of_row w g _ cur e (0, 0) hg, ← ht]
    have hj2 : j < n * size := by omega
    simp [hj2]
end

theorem Slc.cell {w : World} {size n : Nat} {v : Value} {cs : List Value} (h : Slc w size v n cs) : ∃ A cap, v = .slice A n cap ∧ n ≤ cap ∧ cap ≤ maxLen ∧ cs.length = n * size ∧ (n = 0 ∨ ∃ b off, A = some ⟨b, off, none⟩ ∧ b < w.heap.size ∧ ∀ j, j < cs.length → w.cell? ⟨b, off + j, none⟩ = cs[j]?) := by
  obtain ⟨A, cap, hv, h1, h2, h3, h4⟩ := h
  refine ⟨A, cap, hv, h2, h3, h1, ?_⟩
  rcases Nat.eq_zero_or_pos n with h0 | h0
  · exact .inl h0
  · exact .inr (h4 h0)

def ints (l : List Int) : List Value := l.map (Value.int .i64)
def strs (l : List ByteArray) : List Value := l.map Value.string
theorem flat_len {E : Type} (cells : E → List Value) (k : Nat) : ∀ (os : List E), (∀ o ∈ os, (cells o).length = k) → (os.flatMap cells).length = os.length * k
  | [], _ => by simp
  | o :: os, h => by
    rw [List.flatMap_cons, List.length_append, flat_len cells k os (fun x hx => h x (by simp [hx])), h o (by simp), List.length_cons, Nat.add_mul]
    omega
theorem flat_get {E : Type} (cells : E → List Value) (k : Nat) : ∀ (os : List E), (∀ o ∈ os, (cells o).length = k) → ∀ (i r : Nat) (hi : i < os.length), r < k → (os.flatMap cells)[i * k + r]? = (cells os[i])[r]?
  | [], _, _, _, hi, _ => absurd hi (Nat.not_lt_zero _)
  | o :: os, h, 0, r, _, hr => by
    rw [List.flatMap_cons, Nat.zero_mul, Nat.zero_add, List.getElem?_append_left (by rw [h o (by simp)]; exact hr)]
    rfl
  | o :: os, h, i + 1, r, hi, hr => by
    rw [List.flatMap_cons, List.getElem?_append_right (by rw [h o (by simp), Nat.add_mul]; omega), h o (by simp)]
    have : (i + 1) * k + r - k = i * k + r := by rw [Nat.add_mul]; omega
    rw [this, flat_get cells k os (fun x hx => h x (by simp [hx])) i r (by simpa using hi) hr]
    rfl
theorem own_only {S : List Nat} {w w' : World} {base size n : Nat} {e : TypeId} {v : Value} {xs : List Value} (h : w.ownsRow base e size v n xs) (k : Only S w w') (hn : ∀ g, v.ownBlock = some g → g ∉ S) : w'.ownsRow base e size v n xs := by
  obtain ⟨h1, h2⟩ := h
  rcases h2 with ⟨rfl, rfl⟩ | ⟨g, cap, cur, rfl, hb, hg, q⟩
  · exact ⟨h1, .inl ⟨rfl, rfl⟩⟩
  · exact ⟨h1, .inr ⟨g, cap, cur, rfl, hb, (k.block g (lt_of_block hg) (hn g rfl)).trans hg, q⟩⟩

/-- An opened slice of elements of k cells. -/
theorem Slc.openE {E : Type} {w : World} {v : Value} {k : Nat} {os : List E} (cells : E → List Value) (hk : ∀ o, (cells o).length = k) (h : Slc w k v os.length (os.flatMap cells)) :
    ∃ A cap, v = .slice A os.length cap ∧ os.length ≤ cap ∧ cap ≤ maxLen ∧ ∀ j (hj : j < os.length), ∃ b off, A = some ⟨b, off, none⟩ ∧ b < w.heap.size ∧ ∀ r, r < k → w.cell? ⟨b, off + j * k + r, none⟩ = (cells os[j])[r]? := by
  obtain ⟨A, cap, hv, h2, h3, h4, h5⟩ := h.cell
  refine ⟨A, cap, hv, h2, h3, fun j hj => ?_⟩
  rcases h5 with h5 | ⟨b, off, h5, h6, h7⟩
  · omega
  · refine ⟨b, off, h5, h6, fun r hr => ?_⟩
    have hlt : j * k + r < os.length * k := by
      have : (j + 1) * k ≤ os.length * k := Nat.mul_le_mul_right k hj
      rw [Nat.add_mul] at this
      omega
    rw [Nat.add_assoc, h7 _ (by rw [h4]; exact hlt)]
    exact flat_get cells k os (fun o _ => hk o) j r hj hr
theorem Slc.openI {w : World} {v : Value} {zs : List Int} (h : Slc w 1 v zs.length (ints zs)) :
    ∃ A cap, v = .slice A zs.length cap ∧ zs.length ≤ cap ∧ cap ≤ maxLen ∧ ∀ j (hj : j < zs.length), ∃ b off, A = some ⟨b, off, none⟩ ∧ b < w.heap.size ∧ w.cell? ⟨b, off + j, none⟩ = some (.int .i64 zs[j]) := by
  obtain ⟨A, cap, hv, h2, h3, h4, h5⟩ := h.cell
  refine ⟨A, cap, hv, h2, h3, fun j hj => ?_⟩
  rcases h5 with h5 | ⟨b, off, h5, h6, h7⟩
  · omega
  · refine ⟨b, off, h5, h6, ?_⟩
    rw [h7 j (by simpa [ints] using hj)]
    simp [ints, hj]
theorem Slc.openS {w : World} {v : Value} {ss : List ByteArray} (h : Slc w 1 v ss.length (strs ss)) :
    ∃ A cap, v = .slice A ss.length cap ∧ ss.length ≤ cap ∧ cap ≤ maxLen ∧ ∀ j (hj : j < ss.length), ∃ b off, A = some ⟨b, off, none⟩ ∧ b < w.heap.size ∧ w.cell? ⟨b, off + j, none⟩ = some (.string ss[j]) := by
  obtain ⟨A, cap, hv, h2, h3, h4, h5⟩ := h.cell
  refine ⟨A, cap, hv, h2, h3, fun j hj => ?_⟩
  rcases h5 with h5 | ⟨b, off, h5, h6, h7⟩
  · omega
  · refine ⟨b, off, h5, h6, ?_⟩
    rw [h7 j (by simpa [strs] using hj)]
    simp [strs, hj]
theorem Slc.only0 {w w' : World} {size n : Nat} {v : Value} {cs : List Value} (h : Slc w size v n cs) (k : Only [] w w') : Slc w' size v n cs := h.only k (by simp)

/-! ## slices in memory that stays: M are the blocks that may turn -/
def Rd (M : List Nat) (w : World) (size : Nat) (v : Value) (n : Nat) (cs : List Value) : Prop := Slc w size v n cs ∧ ∀ g, v.ownBlock = some g → (g ∉ M ∧ g < w.heap.size) ∨ n = 0
section
variable {M M' S : List Nat} {w w' : World} {size n : Nat} {v : Value} {cs : List Value}
theorem Slc.empty {w' : World} (h : Slc w size v 0 cs) : Slc w' size v 0 cs := by
  obtain ⟨A, cap, hv, h1, h2, h3, h4⟩ := h
  exact ⟨A, cap, hv, h1, h2, h3, fun q => absurd q (Nat.lt_irrefl _)⟩
theorem Rd.only (h : Rd M w size v n cs) (k : Only S w w') (hS : ∀ g ∈ S, g ∈ M) : Rd M w' size v n cs := by
  obtain ⟨h1, h2⟩ := h
  rcases Nat.eq_zero_or_pos n with h0 | h0
  · subst h0
    exact ⟨h1.empty, fun g hg => .inr rfl⟩
  · refine ⟨h1.only k fun g hg q => ?_, fun g hg => ?_⟩
    · rcases h2 g hg with q2 | q2
      · exact q2.1 (hS g q)
      · omega
    · rcases h2 g hg with q2 | q2
      · exact .inl ⟨q2.1, Nat.lt_of_lt_of_le q2.2 k.size⟩
      · omega
theorem Rd.only0 (h : Rd M w size v n cs) (k : Only [] w w') : Rd M w' size v n cs := h.only k (by simp)
theorem Rd.ext (h : Rd M w size v n cs) (hm : ∀ g ∈ M', g ∈ M ∨ w.heap.size ≤ g) : Rd M' w size v n cs :=
  ⟨h.1, fun g hg => (h.2 g hg).imp (fun q => ⟨fun q2 => (hm g q2).elim q.1 (fun q3 => by omega), q.2⟩) id⟩
theorem Rd.nil (M : List Nat) (w : World) (size : Nat) : Rd M w size (.slice none 0 0) 0 [] := ⟨Slc.nil w size, fun g hg => by cases hg⟩
end
end Go.Proofs.YtikboecmcbcghaaGreat
/- A state in memory. -/
set_option linter.unusedVariables false
set_option linter.unusedSimpArgs false
namespace Go.Proofs.YtikboecmcbcghaaGreat
open Go.RowKit
/-- What keeps a state's numbers small: N bounds the commands. -/
structure MS.Ok (s : MS) (N : Nat) : Prop where
  now : 0 ≤ s.now ∧ s.now ≤ 1099511627776
  done : 0 ≤ s.done ∧ s.done ≤ N
  all : s.all.length ≤ 8 * N
  st : ∀ n x, (n, x) ∈ s.m → x.mt.ok = true ∧ 0 ≤ x.floor ∧ x.floor ≤ x.places.length ∧ x.places.length ≤ s.all.length ∧ ∀ p ∈ x.places, 0 ≤ p ∧ p < s.all.length
/-- The state s lies in block sb, its map in mb, its events in av; M are all blocks that may turn. -/
structure StAt (w : World) (M : List Nat) (sb mb : Nat) (av : Value) (pf : ByteArray → Value) (s : MS) : Prop where
  blk : Blk w sb 77 #[av, .map (some mb), .int .i64 s.done, .int .i64 s.now]
  own : w.ownsRow 0 66 8 av s.all.length (s.all.flatMap StoredR.cells)
  map : MapIs Value.string w mb (s.m.map fun p => (p.1, p.2.val (pf p.1)))
  pl : ∀ n x, (n, x) ∈ s.m → Rd M w 1 (pf n) x.places.length (ints x.places)
  inM : sb ∈ M ∧ mb ∈ M ∧ ∀ g, av.ownBlock = some g → g ∈ M
  mlt : ∀ g ∈ M, g < w.heap.size
/-- The blocks that a call on the state may turn. -/
def hM (sb mb : Nat) (av : Value) : List Nat := sb :: mb :: av.ownBlock.toList
def pvOf (s : MS) (pf : ByteArray → Value) (n : ByteArray) : Value := if (aget s.m n).isSome then pf n else .slice none 0 0
section
variable {w w' : World} {M M' S : List Nat} {sb mb : Nat} {av : Value} {pf : ByteArray → Value} {s : MS}
theorem StAt.only (h : StAt w M sb mb av pf s) (k : Only S w w') (hS : ∀ g ∈ S, g ∈ M) (hd : ∀ g ∈ hM sb mb av, g ∉ S) : StAt w' M sb mb av pf s :=
  ⟨k.blk h.blk (hd sb (by simp [hM])), own_only h.own k (fun g hg => hd g (by simp [hM, hg])), h.map.only k (hd mb (by simp [hM])), fun n x hx => (h.pl n x hx).only k hS, h.inM, fun g hg => Nat.lt_of_lt_of_le (h.mlt g hg) k.size⟩
theorem StAt.only0 (h : StAt w M sb mb av pf s) (k : Only [] w w') : StAt w' M sb mb av pf s := h.only k (by simp) (by simp)
theorem StAt.ext (h : StAt w M sb mb av pf s) (hm : ∀ g ∈ M', g ∈ M) (hi : ∀ g ∈ M, g ∈ M') : StAt w M' sb mb av pf s :=
  ⟨h.blk, h.own, h.map, fun n x hx => (h.pl n x hx).ext (fun g hg => .inl (hm g hg)), ⟨hi _ h.inM.1, hi _ h.inM.2.1, fun g hg => hi _ (h.inM.2.2 g hg)⟩, fun g hg => h.mlt g (hm g hg)⟩
theorem StAt.ne (h : StAt w M sb mb av pf s) : mb ≠ sb := h.map.ne_blk h.blk
theorem StAt.own_lt (h : StAt w M sb mb av pf s) : ∀ g, av.ownBlock = some g → g < w.heap.size := fun g hg => (h.own.lt g hg).2
theorem StAt.lt (h : StAt w M sb mb av pf s) : ∀ g ∈ hM sb mb av, g < w.heap.size := by
  intro g hg
  simp [hM] at hg
  rcases hg with rfl | rfl | hg
  · exact h.blk.lt
  · exact h.map.lt
  · exact h.own_lt g hg
theorem StAt.hMM (h : StAt w M sb mb av pf s) : ∀ g ∈ hM sb mb av, g ∈ M := by
  intro g hg
  simp [hM] at hg
  rcases hg with rfl | rfl | hg
  · exact h.inM.1
  · exact h.inM.2.1
  · exact h.inM.2.2 g hg
theorem StAt.ownne (h : StAt w M sb mb av pf s) : ∀ g, av.ownBlock = some g → g ≠ sb ∧ g ≠ mb := by
  intro g hg
  obtain ⟨_, h2⟩ := h.own
  rcases h2 with ⟨rfl, _⟩ | ⟨g', cap, cur, rfl, hb, hg', q⟩
  · cases hg
  · cases hg
    have hB : Blk w g' 66 cur := hg'
    exact ⟨hB.other h.blk (by decide), fun e => h.map.ne_blk hB e.symm⟩
theorem StAt.nodup (h : StAt w M sb mb av pf s) : ANodup s.m := by
  have := h.map.nodup
  unfold ANodup at this ⊢
  rw [List.map_map] at this
  exact this
theorem aget_mapk {μ ν : Type} (f : ByteArray → ν → μ) (l : List (ByteArray × ν)) (k : ByteArray) : aget (l.map fun p => (p.1, f p.1 p.2)) k = (aget l k).map (f k) := by
  induction l with
  | nil => simp [aget]
  | cons p l ih =>
    obtain ⟨a, b⟩ := p
    simp only [aget, List.map_cons]
    split
    · rename_i h; subst h; rfl
    · exact ih
theorem aput_mapk {μ ν : Type} (f g : ByteArray → ν → μ) (l : List (ByteArray × ν)) (hn : ANodup l) (k : ByteArray) (v : ν) (u : μ) (hu : u = g k v) (hfg : ∀ a, a ≠ k → f a = g a) : aput (l.map fun p => (p.1, f p.1 p.2)) k u = (aput l k v).map fun p => (p.1, g p.1 p.2) := by
  subst hu
  induction l with
  | nil => simp [aput]
  | cons p l ih =>
    obtain ⟨a, b⟩ := p
    simp only [ANodup, List.map_cons, List.nodup_cons] at hn
    simp only [aput, List.map_cons]
    by_cases h : a = k
    · subst h
      rw [if_pos rfl, if_pos rfl]
      simp only [List.map_cons, List.cons.injEq, true_and]
      apply List.map_congr_left
      intro q hq
      rw [hfg q.1 (fun e => hn.1 (List.mem_map.2 ⟨q, hq, e⟩))]
    · rw [if_neg h, if_neg h, ih hn.2, List.map_cons, hfg a h]
theorem StAt.rd (h : StAt w M sb mb av pf s) (n : ByteArray) : Rd M w 1 (pvOf s pf n) (s.find n).places.length (ints (s.find n).places) := by
  unfold pvOf MS.find
  cases hx : aget s.m n with
  | none => exact Rd.nil _ _ _
  | some x => exact h.pl n x (aget_mem hx)
theorem StAt.look (h : StAt w M sb mb av pf s) (n : ByteArray) : (aget (s.m.map fun p => (p.1, p.2.val (pf p.1))) n).getD (StreamR.zero.val (.slice none 0 0)) = (s.find n).val (pvOf s pf n) := by
  rw [aget_mapk (fun k x => StreamR.val x (pf k))]
  unfold pvOf MS.find
  cases aget s.m n <;> rfl
theorem MS.Ok.find {N : Nat} (h : s.Ok N) (n : ByteArray) : (s.find n).mt.ok = true ∧ 0 ≤ (s.find n).floor ∧ (s.find n).floor ≤ (s.find n).places.length ∧ (s.find n).places.length ≤ s.all.length ∧ ∀ p ∈ (s.find n).places, 0 ≤ p ∧ p < s.all.length := by
  unfold MS.find
  cases hx : aget s.m n with
  | none =>
    refine ⟨by decide, Int.le_refl _, ?_, Nat.zero_le _, fun p hp => ?_⟩
    · simp [StreamR.zero]
    · simp [StreamR.zero] at hp
  | some x => exact h.st n x (aget_mem hx)
/-- An event's cell. -/
theorem StAt.cell (h : StAt w M sb mb av pf s) : ∃ A cap, av = .slice A s.all.length cap ∧ s.all.length ≤ cap ∧ cap ≤ maxLen ∧ ∀ j (hj : j < s.all.length), ∃ b, A = some ⟨b, 0, none⟩ ∧ b < w.heap.size ∧ ∀ r, r < 8 → w.cell? ⟨b, j * 8 + r, none⟩ = (s.all[j].cells)[r]? := by
  obtain ⟨h1, h2⟩ := h.own
  rcases h2 with ⟨q1, q2⟩ | ⟨g, cap, cur, q1, hb, hg, hn, hc, hs, ht⟩
  · have h0 : s.all.length = 0 := q2
    refine ⟨none, 0, by rw [h0]; exact q1, by omega, by unfold maxLen; omega, fun j hj => by omega⟩
  · refine ⟨_, cap, q1, hn, hc, fun j hj => ⟨g, rfl, lt_of_block hg, fun r hr => ?_⟩⟩
    have hj8 : j * 8 + r < s.all.length * 8 := by omega
    rw [cell_of_row w g _ cur 66 (0, 0) hg]
    have e1 := flat_get StoredR.cells 8 s.all (fun o _ => rfl) j r hj hr
    rw [← ht] at e1
    rw [← e1]
    simp [hj8]
end
end Go.Proofs.YtikboecmcbcghaaGreat
/- Contracts: which names, events and commands may be. -/
set_option linter.unusedVariables false
set_option linter.unusedSimpArgs false
namespace Go.Proofs.YtikboecmcbcghaaGreat
open Go.RowKit
theorem ret_b {a b : Bool} (h : a = b) : Ending.returned (.bool a) = .returned (.bool b) := by rw [h]
theorem ret_i {a b : Int} (h : a = b) : Ending.returned (.int .i64 a) = .returned (.int .i64 b) := by rw [h]
theorem within_any (n : Int) (w : World) : Calls Tryz.prog 103 #[.int .i64 n] w fun e w' => e = .returned (.bool (within n)) ∧ w = w' := by
  by_cases h1 : 0 ≤ n
  · by_cases h2 : n ≤ 1099511627776
    · go_enter Tryz.func103, Tryz.ntmps103
      go_wp2
      go_ret
      exact ⟨ret_b (by simp [within]; omega), rfl⟩
    · go_enter Tryz.func103, Tryz.ntmps103
      go_wp2
      go_ret
      exact ⟨ret_b (by simp [within]; omega), rfl⟩
  · go_enter Tryz.func103, Tryz.ntmps103
    go_wp2
    go_ret
    exact ⟨ret_b (by simp [within]; omega), rfl⟩
theorem expects_any (n : Int) (w : World) : Calls Tryz.prog 105 #[.int .i64 n] w fun e w' => e = .returned (.bool (expects n)) ∧ w = w' := by
  cases h : within n
  · by_cases h1 : n = -1
    · subst h1
      go_enter Tryz.func105, Tryz.ntmps105
      go_wp2_with (go_at_call 103; refine (within_any _ _).mono ?_; rintro e w' ⟨rfl, rfl⟩)
      go_ret
      exact ⟨ret_b (by simp [expects]), rfl⟩
    · by_cases h2 : n = -2
      · subst h2
        go_enter Tryz.func105, Tryz.ntmps105
        go_wp2_with (go_at_call 103; refine (within_any _ _).mono ?_; rintro e w' ⟨rfl, rfl⟩)
        go_ret
        exact ⟨ret_b (by simp [expects]), rfl⟩
      · by_cases h4 : n = -4
        · subst h4
          go_enter Tryz.func105, Tryz.ntmps105
          go_wp2_with (go_at_call 103; refine (within_any _ _).mono ?_; rintro e w' ⟨rfl, rfl⟩)
          go_ret
          exact ⟨ret_b (by simp [expects]), rfl⟩
        · have b1 : (n == -1) = false := by simpa using h1
          have b2 : (n == -2) = false := by simpa using h2
          have b4 : (n == -4) = false := by simpa using h4
          go_enter Tryz.func105, Tryz.ntmps105
          go_wp2_with (go_at_call 103; refine (within_any _ _).mono ?_; rintro e w' ⟨rfl, rfl⟩)
          go_ret
          exact ⟨ret_b (by simp [expects, h, h1, h2, h4]), rfl⟩
  · go_enter Tryz.func105, Tryz.ntmps105
    go_wp2_with (go_at_call 103; refine (within_any _ _).mono ?_; rintro e w' ⟨rfl, rfl⟩)
    go_ret
    exact ⟨ret_b (by simp [expects, h]), rfl⟩
theorem validMeta_any (m : MetaR) (w : World) : Calls Tryz.prog 106 #[m.val] w fun e w' => e = .returned (.bool m.ok) ∧ Only [] w w' := by
  unfold MetaR.val
  cases h1 : within m.maxCount
  · go_enter Tryz.func106, Tryz.ntmps106
    go_wp2_with (go_at_call 103; refine (within_any _ _).mono ?_; rintro e w' ⟨rfl, rfl⟩)
    go_ret
    exact ⟨ret_b (by simp [MetaR.ok, h1]), (Only.refl [] w).alloc _⟩
  · cases h2 : within m.maxAge
    · go_enter Tryz.func106, Tryz.ntmps106
      go_wp2_with (go_at_call 103; refine (within_any _ _).mono ?_; rintro e w' ⟨rfl, rfl⟩)
      go_ret
      exact ⟨ret_b (by simp [MetaR.ok, h1, h2]), (Only.refl [] w).alloc _⟩
    · cases h3 : within m.before
      · go_enter Tryz.func106, Tryz.ntmps106
        go_wp2_with (go_at_call 103; refine (within_any _ _).mono ?_; rintro e w' ⟨rfl, rfl⟩)
        go_ret
        exact ⟨ret_b (by simp [MetaR.ok, h1, h2, h3]), (Only.refl [] w).alloc _⟩
      · go_enter Tryz.func106, Tryz.ntmps106
        go_wp2_with (go_at_call 103; refine (within_any _ _).mono ?_; rintro e w' ⟨rfl, rfl⟩)
        go_ret
        exact ⟨ret_b (by simp [MetaR.ok, h1, h2, h3]), (Only.refl [] w).alloc _⟩
theorem all_take {s : ByteArray} {f : UInt8 → Bool} (k : Nat) (h : k < s.size) : (s.data.toList.take (k + 1)).all f = ((s.data.toList.take k).all f && f s[k]) := by
  rw [List.take_succ_eq_append_getElem (by simpa using h), List.all_append]
  simp
  rfl
theorem all_false {l : List UInt8} {f : UInt8 → Bool} {k : Nat} (h : k < l.length) (hf : f l[k] = false) : l.all f = false := by
  rw [Bool.eq_false_iff]
  intro q
  rw [List.all_eq_true] at q
  have := q l[k] (List.getElem_mem h)
  rw [hf] at this
  cases this
set_option maxHeartbeats 800000 in
theorem stream_any (s : ByteArray) (w : World) (hs : s.size ≤ maxLen) : Calls Tryz.prog 61 #[.string s] w fun e w' => e = .returned (.bool (nameOk s)) ∧ w = w' := by
  unfold maxLen at hs
  by_cases h1 : s.size < 1
  · go_enter Tryz.func61, Tryz.ntmps61
    go_wp2
    go_ret
    exact ⟨ret_b (by simp [nameOk]; omega), rfl⟩
  · by_cases h2 : 60 < s.size
    · go_enter Tryz.func61, Tryz.ntmps61
      go_wp2
      go_ret
      exact ⟨ret_b (by simp [nameOk]; omega), rfl⟩
    · have hn : Hid (nameOk s = s.data.toList.all okByte) := by
        unfold Hid nameOk
        rw [decide_eq_true (by omega : 1 ≤ s.size), decide_eq_true (by omega : s.size ≤ 60)]
        simp
      go_enter Tryz.func61, Tryz.ntmps61
      go_wp2
      go_loop [14] (fun i => ∃ k : Nat, k ≤ s.size ∧ i = .int .i64 k ∧ Hid ((s.data.toList.take k).all okByte = true)) (fun i => s.size - (intOf i).toNat)
      case atStart => exact ⟨0, Nat.zero_le _, rfl, by simp [Hid]⟩
      case round =>
        obtain ⟨k, hk, rfl, hT⟩ := hrel
        by_cases hlt : k < s.size
        · have hb256 : (s[k].toNat : Int) < 256 := by have := s[k].toNat_lt; omega
          have hnext : Hid (okByte s[k] = true → (s.data.toList.take (k + 1)).all okByte = true) := by
            intro q
            rw [all_take k hlt, hT.out, q]
            rfl
          have hend : Hid (okByte s[k] = false → nameOk s = false) := by
            intro q
            rw [hn.out]
            exact all_false (k := k) (by simpa using hlt) q
          by_cases c1 : (s[k].toNat : Int) < 33
          · have hq : Hid (nameOk s = false) := hend.out (by simp only [okByte, decide_eq_true c1]; simp)
            clear hend hnext
            go_wp2
            go_ret
            exact ⟨ret_b (by rw [hq.out]), rfl⟩
          · by_cases c2 : 126 < (s[k].toNat : Int)
            · have hq : Hid (nameOk s = false) := hend.out (by simp only [okByte, decide_eq_true c2]; simp)
              clear hend hnext
              go_wp2
              go_ret
              exact ⟨ret_b (by rw [hq.out]), rfl⟩
            · by_cases c3 : (s[k].toNat : Int) = 64
              · have e3 : ((s[k].toNat : Int) == 64) = true := by simpa using c3
                have hq : Hid (nameOk s = false) := hend.out (by simp only [okByte, c3]; simp)
                clear hend hnext c3
                go_wp2
                go_ret
                exact ⟨ret_b (by rw [hq.out]), rfl⟩
              · have e3 : ((s[k].toNat : Int) == 64) = false := by simpa using c3
                have hq := Lib.hid (hnext.out (by simp only [okByte, decide_eq_false c1, decide_eq_false c2, decide_eq_false c3]; rfl))
                clear hend hnext c3
                go_wp2
                go_round
                case rel => exact ⟨k + 1, hlt, by go_num, hq⟩
                case measure => simp [intOf]; omega
        · have hfin : Hid (nameOk s = true) := by
            have := hT.out
            rw [List.take_of_length_le (by simp; omega)] at this
            unfold Hid
            rw [hn.out, this]
          go_wp2
          go_ret
          exact ⟨ret_b (by rw [hfin.out]), rfl⟩
end Go.Proofs.YtikboecmcbcghaaGreat
/- Contracts: Type, Valid, events, spare, Check. -/
set_option linter.unusedVariables false
set_option linter.unusedSimpArgs false
namespace Go.Proofs.YtikboecmcbcghaaGreat
open Go.RowKit
theorem stF (W : World) (a : Addr) (b : Nat) (m : Mode) : Sem.run Tryz.prog (store a (.float .f64 b) m) W = stored Tryz.prog W a (.float .f64 b) m := run_store Tryz.prog W a _ m rfl
theorem type_any (s : ByteArray) (w : World) (hs : s.size ≤ maxLen) : Calls Tryz.prog 156 #[.string s] w fun e w' => e = .returned (.bool (nameOk s)) ∧ w = w' := by
  go_enter Tryz.func156, Tryz.ntmps156
  go_wp2_with (go_at_call 61; refine (stream_any s _ hs).mono ?_; rintro e w' ⟨rfl, rfl⟩)
  go_ret
  exact ⟨rfl, rfl⟩
theorem valid_any (e : EventR) (w : World) (hs : e.type.size ≤ maxLen ∧ e.data.size ≤ maxLen) : Calls Tryz.prog 143 #[e.val] w fun e1 w' => e1 = .returned (.bool e.ok) ∧ Only [] w w' := by
  have hd := hs.2
  unfold maxLen at hd
  unfold EventR.val
  by_cases h1 : 1 ≤ e.id
  · cases h2 : nameOk e.type
    · go_enter Tryz.func143, Tryz.ntmps143
      go_wp2_with (go_at_call 156; refine (type_any e.type _ hs.1).mono ?_; rintro e w' ⟨rfl, rfl⟩)
      go_ret
      exact ⟨ret_b (by simp [EventR.ok, h2] <;> omega), (Only.refl [] w).alloc _⟩
    · by_cases h3 : e.data.size ≤ 200
      · go_enter Tryz.func143, Tryz.ntmps143
        go_wp2_with (go_at_call 156; refine (type_any e.type _ hs.1).mono ?_; rintro e w' ⟨rfl, rfl⟩)
        go_ret
        exact ⟨ret_b (by simp [EventR.ok, h1, h2, h3] <;> omega), (Only.refl [] w).alloc _⟩
      · go_enter Tryz.func143, Tryz.ntmps143
        go_wp2_with (go_at_call 156; refine (type_any e.type _ hs.1).mono ?_; rintro e w' ⟨rfl, rfl⟩)
        go_ret
        exact ⟨ret_b (by simp [EventR.ok, h3] <;> omega), (Only.refl [] w).alloc _⟩
  · go_enter Tryz.func143, Tryz.ntmps143
    go_wp2_with (go_at_call 156; refine (type_any e.type _ hs.1).mono ?_; rintro e w' ⟨rfl, rfl⟩)
    go_ret
    exact ⟨ret_b (by simp [EventR.ok, h1] <;> omega), (Only.refl [] w).alloc _⟩
def EvsOk (l : List EventR) : Prop := ∀ e ∈ l, e.type.size ≤ maxLen ∧ e.data.size ≤ maxLen
theorem all_takeE {l : List EventR} {f : EventR → Bool} (k : Nat) (h : k < l.length) : (l.take (k + 1)).all f = ((l.take k).all f && f l[k]) := by
  rw [List.take_succ_eq_append_getElem h, List.all_append]
  simp
theorem all_falseE {l : List EventR} {f : EventR → Bool} {k : Nat} (h : k < l.length) (hf : f l[k] = false) : l.all f = false := by
  rw [Bool.eq_false_iff]
  intro q
  rw [List.all_eq_true] at q
  have := q l[k] (List.getElem_mem h)
  rw [hf] at this
  cases this
set_option maxHeartbeats 1000000 in
theorem events_any {w : World} {v : Value} {l : List EventR} (h : Slc w 4 v l.length (l.flatMap EventR.cells)) (hl : EvsOk l) :
    Calls Tryz.prog 104 #[v] w fun e w' => e = .returned (.int .i64 (eventsE l)) ∧ Only [] w w' := by
  obtain ⟨A, cap, rfl, hnc, hcm, hel⟩ := h.openE EventR.cells (fun _ => rfl)
  unfold maxLen at hcm
  by_cases h0 : l.length = 0
  · have hb : ((l.length : Int) == 0) = true := by simp [h0]
    have hb' : (l.length == 0) = true := by simp [h0]
    have hr : Hid (eventsE l = 1) := by unfold Hid eventsE; rw [if_pos h0]
    clear h0
    go_enter Tryz.func104, Tryz.ntmps104
    go_wp2
    go_ret
    exact ⟨ret_i (by rw [hr.out]), Only.refl _ _⟩
  · have hb : ((l.length : Int) == 0) = false := by rw [beq_eq_false_iff_ne]; omega
    have hb' : (l.length == 0) = false := by rw [beq_eq_false_iff_ne]; omega
    by_cases h8 : 8 < l.length
    · have hr : Hid (eventsE l = 2) := by unfold Hid eventsE; rw [if_neg h0, if_pos h8]
      go_enter Tryz.func104, Tryz.ntmps104
      go_wp2
      go_ret
      exact ⟨ret_i (by rw [hr.out]), Only.refl _ _⟩
    · have hr : Hid (eventsE l = if l.all EventR.ok then 0 else 1) := by unfold Hid eventsE; rw [if_neg h0, if_neg h8]
      go_enter Tryz.func104, Tryz.ntmps104
      go_wp2
      go_loopw [15] (fun i wr => ∃ k : Nat, k ≤ l.length ∧ i = .int .i64 k ∧ Hid ((l.take k).all EventR.ok = true) ∧ Only [] w wr) (fun i _ => l.length - (intOf i).toNat)
      case atStart => exact ⟨0, Nat.zero_le _, rfl, by simp [Hid], Only.refl _ _⟩
      case round =>
        obtain ⟨k, hk, rfl, hT, hO⟩ := hrel
        by_cases hlt : k < l.length
        · obtain ⟨b, off, rfl, hbl, hc⟩ := hel k hlt
          have hz := hl _ (List.getElem_mem hlt)
          have hnext : Hid (l[k].ok = true → (l.take (k + 1)).all EventR.ok = true) := by
            intro q
            rw [all_takeE k hlt, hT.out, q]
            rfl
          have hend : Hid (l[k].ok = false → eventsE l = 1) := by
            intro q
            rw [hr.out, all_falseE hlt q]
            rfl
          obtain ⟨x, hx⟩ : ∃ x, x = l[k] := ⟨_, rfl⟩
          rw [← hx] at hc hz hnext hend
          have c0 : wr.cell? ⟨b, off + k * 4, none⟩ = some (.int .i64 x.id) := (hO.cell hbl (by simp)).trans (hc 0 (by omega))
          have c1 : wr.cell? ⟨b, off + k * 4 + 1, none⟩ = some (.string x.type) := (hO.cell hbl (by simp)).trans (hc 1 (by omega))
          have c2 : wr.cell? ⟨b, off + k * 4 + 2, none⟩ = some (.string x.data) := (hO.cell hbl (by simp)).trans (hc 2 (by omega))
          have c3 : wr.cell? ⟨b, off + k * 4 + 3, none⟩ = some (.float .f64 x.value) := (hO.cell hbl (by simp)).trans (hc 3 (by omega))
          clear hc hel hx
          have hsf := stF
          cases hok : x.ok
          · have HE := Lib.hid (hend.out hok)
            clear hnext hend
            go_wp2_with (go_at_call 143; refine (valid_any x _ hz).mono ?_; rintro e w1 ⟨rfl, ho1⟩; rw [hok])
            go_ret
            exact ⟨ret_i (by rw [HE.out]), (hO.alloc _).trans ho1⟩
          · have HN := Lib.hid (hnext.out hok)
            clear hnext hend
            go_wp2_with (go_at_call 143; refine (valid_any x _ hz).mono ?_; rintro e w1 ⟨rfl, ho1⟩; rw [hok])
            exact ⟨⟨k + 1, hlt, by simp, HN, (hO.alloc _).trans ho1⟩, by simp [intOf]; omega⟩
        · have hfin : Hid (eventsE l = 0) := by
            have := hT.out
            rw [List.take_of_length_le (by omega)] at this
            unfold Hid
            rw [hr.out, this]
            rfl
          go_wp2
          go_ret
          exact ⟨ret_i (by rw [hfin.out]), hO⟩
end Go.Proofs.YtikboecmcbcghaaGreat
/- Contracts: spare, Check. -/
set_option linter.unusedVariables false
set_option linter.unusedSimpArgs false
namespace Go.Proofs.YtikboecmcbcghaaGreat
open Go.RowKit
theorem mt_zero {a b d : Int} : (⟨a, b, d⟩ : MetaR) = MetaR.zero ↔ a = 0 ∧ b = 0 ∧ d = 0 := by simp [MetaR.zero]
set_option maxHeartbeats 1000000 in
theorem spare_any (c : Cmd) (A : Option Addr) (cap : Nat) (w : World) (hl : c.events.length ≤ 9223372036854775807) (hk : 1 ≤ c.kind ∧ c.kind ≤ 5) :
    Calls Tryz.prog 107 #[c.val (.slice A c.events.length cap)] w fun e w' => e = .returned (.bool c.spare) ∧ Only [] w w' := by
  obtain ⟨kind, time, stream, ex, l, a, b, d⟩ := c
  simp only [Cmd.val] at hl hk ⊢
  have hk' : kind = 1 ∨ kind = 2 ∨ kind = 3 ∨ kind = 4 ∨ kind = 5 := by omega
  rcases hk' with rfl | rfl | rfl | rfl | rfl
  all_goals
    go_enter Tryz.func107, Tryz.ntmps107
    go_wp2
    all_goals
      go_ret
      refine ⟨?_, (Only.refl [] w).alloc _⟩
      first
        | (refine ret_b ?_; simp_all [Cmd.spare, mt_zero]; done)
        | (simp_all [Cmd.spare, mt_zero]; done)
structure CmdOk (c : Cmd) : Prop where
  stream : c.stream.size ≤ maxLen
  evs : EvsOk c.events
set_option maxHeartbeats 2000000 in
theorem check_any (c : Cmd) (v : Value) (w : World) (hs : Slc w 4 v c.events.length (c.events.flatMap EventR.cells)) (ho : CmdOk c) :
    Calls Tryz.prog 38 #[c.val v] w fun e w' => e = .returned (.int .i64 c.check) ∧ Only [] w w' := by
  obtain ⟨A, cap, rfl, hnc, hcm, hel⟩ := hs.openE EventR.cells (fun _ => rfl)
  clear hel
  obtain ⟨ho1, ho2⟩ := ho
  obtain ⟨kind, time, stream, ex, l, a, b, d⟩ := c
  have hl : l.length ≤ 9223372036854775807 := by unfold maxLen at hcm; exact Nat.le_trans hnc (by omega)
  have hl1 : Only [] w (w.alloc (.cells #[.int .i64 kind, .int .i64 time, .string stream, .int .i64 ex, .slice A l.length cap, .int .i64 a, .int .i64 b, .int .i64 d] 47)) := (Only.refl [] w).alloc _
  simp only [Cmd.val] at hs ho1 ho2 ⊢
  clear hcm hnc
  by_cases hk : 1 ≤ kind ∧ kind ≤ 5
  · have hk' : kind = 1 ∨ kind = 2 ∨ kind = 3 ∨ kind = 4 ∨ kind = 5 := by omega
    rcases hk' with rfl | rfl | rfl | rfl | rfl
    all_goals
      have HV := Lib.hid (events_any (hs.only0 hl1) ho2)
      have HP := fun w => Lib.hid (spare_any ⟨_, time, stream, ex, l, a, b, d⟩ A cap w hl hk)
      have HL := Lib.hid hl1
      clear hk hl1 hs ho2
      go_enter Tryz.func38, Tryz.ntmps38
      go_wp2_with (first
        | (go_at_call 103; refine (within_any _ _).mono ?_; rintro e w' ⟨rfl, rfl⟩)
        | (go_at_call 61; refine (stream_any _ _ ho1).mono ?_; rintro e w' ⟨rfl, rfl⟩)
        | (go_at_call 104; refine HV.out.mono ?_; rintro e w1 ⟨rfl, hw1⟩; have hq1 := fun i => (hw1.blk (Blk.new w 47 _) (by simp)).cell i)
        | (go_at_call 105; refine (expects_any _ _).mono ?_; rintro e w' ⟨rfl, rfl⟩)
        | (go_at_call 106; refine (validMeta_any ⟨a, b, d⟩ _).mono ?_; rintro e w2 ⟨rfl, hw2⟩; have hq2 := fun i => (hw2.blk (Blk.new w 47 _) (by simp)).cell i)
        | (go_at_call 107; refine (HP _).out.mono ?_; rintro e w3 ⟨rfl, hw3⟩))
      all_goals
        go_ret
        refine ⟨?_, by first | exact HL.out | exact HL.out.trans hw1 | exact HL.out.trans hw2 | exact HL.out.trans hw3 | exact (HL.out.trans hw1).trans hw3 | exact (HL.out.trans hw2).trans hw3⟩
        try clear hq1
        try clear hq2
        try clear hw3
        try clear hw2
        try clear hw1
        clear HV HP HL
        first
          | (refine ret_i ?_; simp_all [Cmd.check]; done)
          | (simp_all [Cmd.check]; done)
  · have HL := Lib.hid hl1
    clear hl1 hs ho2
    go_enter Tryz.func38, Tryz.ntmps38
    have hck : (Cmd.mk kind time stream ex l ⟨a, b, d⟩).check = 1 := by unfold Cmd.check; rw [if_pos (by simp only []; omega)]
    rw [hck]
    clear hck
    go_wp2
    all_goals
      go_ret
      exact ⟨rfl, HL.out⟩
end Go.Proofs.YtikboecmcbcghaaGreat
/- Contracts: young, Floor, expected, Canon. -/
set_option linter.unusedVariables false
set_option linter.unusedSimpArgs false
namespace Go.Proofs.YtikboecmcbcghaaGreat
open Go.RowKit
theorem young_drop (age now : Int) (ts : List Int) (k : Nat) (h : k < ts.length) : young age now (ts.drop k) = if now - age < ts[k] then 0 else 1 + young age now (ts.drop (k + 1)) := by
  rw [List.drop_eq_getElem_cons h]
  rfl
theorem young_bd (age now : Int) : ∀ ts : List Int, 0 ≤ young age now ts ∧ young age now ts ≤ ts.length
  | [] => ⟨Int.le_refl _, Int.le_refl _⟩
  | t :: l => by
    have := young_bd age now l
    unfold young
    split
    · simp; omega
    · simp; omega
theorem young_any {w : World} {v : Value} {ts : List Int} {age now : Int} (h : Slc w 1 v ts.length (ints ts)) (hn : 0 ≤ now ∧ now ≤ 2199023255552) (ha : 0 ≤ age ∧ age ≤ 2199023255552) :
    Calls Tryz.prog 144 #[.int .i64 age, .int .i64 now, v] w fun e w' => e = .returned (.int .i64 (young age now ts)) ∧ w = w' := by
  obtain ⟨A, cap, rfl, hnc, hcm, hel⟩ := h.openI
  obtain ⟨hn1, hn2⟩ := hn
  obtain ⟨ha1, ha2⟩ := ha
  have hl : ts.length ≤ 9223372036854775807 := by unfold maxLen at hcm; exact Nat.le_trans hnc (by omega)
  clear hcm hnc h
  go_enter Tryz.func144, Tryz.ntmps144
  go_wp2
  go_loop [11] (fun i => ∃ k : Nat, k ≤ ts.length ∧ i = .int .i64 k ∧ Hid (young age now ts = k + young age now (ts.drop k))) (fun i => ts.length - (intOf i).toNat)
  case atStart => exact ⟨0, Nat.zero_le _, rfl, by simp [Hid]⟩
  case round =>
    obtain ⟨k, hk, rfl, hT⟩ := hrel
    by_cases hlt : k < ts.length
    · obtain ⟨b, off, rfl, hb, hc⟩ := hel k hlt
      have hd := young_drop age now ts k hlt
      obtain ⟨t, ht⟩ : ∃ t, t = ts[k] := ⟨_, rfl⟩
      rw [← ht] at hd hc
      by_cases hy : now - age < t
      · have HD : Hid (young age now ts = k) := by unfold Hid; rw [hT.out, hd, if_pos hy]; simp
        clear hd ht hel
        go_wp2
        go_ret
        exact ⟨ret_i (by rw [HD.out]), rfl⟩
      · have HD : Hid (young age now ts = ((k + 1 : Nat) : Int) + young age now (ts.drop (k + 1))) := by unfold Hid; rw [hT.out, hd, if_neg hy]; omega
        clear hd ht hel
        go_wp2
        go_round
        case rel => exact ⟨k + 1, hlt, by go_num, HD⟩
        case measure => simp [intOf]; omega
    · have HD : Hid (young age now ts = ts.length) := by
        have hkl : k = ts.length := by omega
        unfold Hid
        rw [hT.out, hkl, List.drop_length]
        simp [young]
      go_wp2
      go_ret
      exact ⟨ret_i (by rw [HD.out]), rfl⟩
set_option maxHeartbeats 1000000 in
theorem floor_any {w : World} {v : Value} {ts : List Int} {m : MetaR} {floor now : Int} (h : Slc w 1 v ts.length (ints ts)) (hn : 0 ≤ now ∧ now ≤ 2199023255552) (hm : m.ok = true) (hf : 0 ≤ floor ∧ floor ≤ 2199023255552) (hl : ts.length ≤ 1000000000) :
    Calls Tryz.prog 108 #[m.val, .int .i64 floor, .int .i64 now, v] w fun e w' => e = .returned (.int .i64 (floorE m floor now ts)) ∧ Only [] w w' := by
  obtain ⟨A, cap, rfl, hnc, hcm, _⟩ := h.openI
  obtain ⟨a, b, d⟩ := m
  simp [MetaR.ok, within] at hm
  obtain ⟨⟨⟨ha1, ha2⟩, hb1, hb2⟩, hd1, hd2⟩ := hm
  obtain ⟨hf1, hf2⟩ := hf
  have HY := Lib.hid (young_any (w := w.alloc (.cells #[.int .i64 a, .int .i64 b, .int .i64 d] 45)) (age := b) (h.only0 ((Only.refl [] w).alloc _)) hn ⟨hb1, by omega⟩)
  have hyb := young_bd b now ts
  obtain ⟨y, hy⟩ : ∃ y, y = young b now ts := ⟨_, rfl⟩
  rw [← hy] at HY hyb
  obtain ⟨hy1, hy2⟩ := hyb
  have HR : Hid (floorE ⟨a, b, d⟩ floor now ts = min (if 0 < b then max (if 0 < a then max (max (max floor 0) d) (ts.length - a) else max (max floor 0) d) y else (if 0 < a then max (max (max floor 0) d) (ts.length - a) else max (max floor 0) d)) ts.length) := by
    unfold Hid floorE
    rw [hy]
  clear hcm hnc h hn hy
  unfold MetaR.val
  by_cases h1 : 0 < a
  · by_cases h2 : 0 < b
    · rw [if_pos h1, if_pos h2] at HR
      go_enter Tryz.func108, Tryz.ntmps108
      go_wp2_with (go_at_call 144; refine HY.out.mono ?_; rintro e w' ⟨rfl, rfl⟩)
      all_goals
        go_ret
        refine ⟨ret_i ?_, (Only.refl [] w).alloc _⟩
        rw [HR.out]
        omega
    · rw [if_pos h1, if_neg h2] at HR
      go_enter Tryz.func108, Tryz.ntmps108
      go_wp2_with (go_at_call 144; refine HY.out.mono ?_; rintro e w' ⟨rfl, rfl⟩)
      all_goals
        go_ret
        refine ⟨ret_i ?_, (Only.refl [] w).alloc _⟩
        rw [HR.out]
        omega
  · by_cases h2 : 0 < b
    · rw [if_neg h1, if_pos h2] at HR
      go_enter Tryz.func108, Tryz.ntmps108
      go_wp2_with (go_at_call 144; refine HY.out.mono ?_; rintro e w' ⟨rfl, rfl⟩)
      all_goals
        go_ret
        refine ⟨ret_i ?_, (Only.refl [] w).alloc _⟩
        rw [HR.out]
        omega
    · rw [if_neg h1, if_neg h2] at HR
      go_enter Tryz.func108, Tryz.ntmps108
      go_wp2_with (go_at_call 144; refine HY.out.mono ?_; rintro e w' ⟨rfl, rfl⟩)
      all_goals
        go_ret
        refine ⟨ret_i ?_, (Only.refl [] w).alloc _⟩
        rw [HR.out]
        omega
theorem expected_any (want count : Int) (w : World) (hc : 0 ≤ count ∧ count ≤ 2199023255552) : Calls Tryz.prog 110 #[.int .i64 want, .int .i64 count] w fun e w' => e = .returned (.bool (expected want count)) ∧ w = w' := by
  obtain ⟨hc1, hc2⟩ := hc
  by_cases h1 : want = -2
  · subst h1
    go_enter Tryz.func110, Tryz.ntmps110
    go_wp2
    go_ret
    exact ⟨ret_b (by simp [expected]), rfl⟩
  · have b1 : (want == -2) = false := by simpa using h1
    by_cases h2 : want = -1
    · subst h2
      go_enter Tryz.func110, Tryz.ntmps110
      go_wp2
      go_ret
      exact ⟨ret_b (by first | (simp [expected]; done) | (simp [expected]; rfl)), rfl⟩
    · have b2 : (want == -1) = false := by simpa using h2
      by_cases h4 : want = -4
      · subst h4
        go_enter Tryz.func110, Tryz.ntmps110
        go_wp2
        go_ret
        exact ⟨ret_b (by simp [expected]), rfl⟩
      · have b4 : (want == -4) = false := by simpa using h4
        have hr : Hid (expected want count = decide (want = count - 1)) := by unfold Hid expected; rw [if_neg h1, if_neg h2, if_neg h4]
        clear h1 h2 h4
        by_cases h5 : want = count - 1
        · have b5 : (want == count - 1) = true := by simpa using h5
          have hr' : Hid (expected want count = true) := by unfold Hid; rw [hr.out]; simpa using h5
          clear h5
          go_enter Tryz.func110, Tryz.ntmps110
          go_wp2
          go_ret
          exact ⟨ret_b (by rw [hr'.out]), rfl⟩
        · have b5 : (want == count - 1) = false := by simpa using h5
          have hr' : Hid (expected want count = false) := by unfold Hid; rw [hr.out]; simpa using h5
          clear h5
          go_enter Tryz.func110, Tryz.ntmps110
          go_wp2
          go_ret
          exact ⟨ret_b (by rw [hr'.out]), rfl⟩
theorem from_run (n : Int) (w : World) : (callFunc 149 #[.int .u64 n]).run Tryz.prog w = .ok (.value (.float .f64 n.toNat)) w := by kernel_rfl
theorem to_run (b : Nat) (w : World) : (callFunc 150 #[.float .f64 b]).run Tryz.prog w = .ok (.value (.int .u64 b)) w := by kernel_rfl
set_option maxRecDepth 100000 in
theorem canon_any (b : Nat) (w : World) : Calls Tryz.prog 148 #[.float .f64 b] w fun e w' => e = .returned (.float .f64 (canon b)) ∧ w = w' := by
  have hf := fun W => from_run 9221120237041090560 W
  cases hb : isNaN b
  · have hr : Hid (canon b = b) := by unfold Hid canon; rw [hb]; rfl
    unfold isNaN at hb
    go_enter Tryz.func148, Tryz.ntmps148
    go_wp2
    go_ret
    exact ⟨by rw [hr.out]; rfl, rfl⟩
  · have hr : Hid (canon b = 9221120237041090560) := by unfold Hid canon; rw [hb]; rfl
    unfold isNaN at hb
    go_enter Tryz.func148, Tryz.ntmps148
    go_wp2
    go_ret
    exact ⟨by rw [hr.out]; rfl, rfl⟩
end Go.Proofs.YtikboecmcbcghaaGreat
/- A region that draws its order: all operations but the last few read, reckon or call quietly within a class of worlds; the last few stand in one forced order. One walk in the order of the text serves every order. No program is named. -/
set_option linter.unusedVariables false
set_option linter.unusedSimpArgs false
namespace Go.Proofs.YtikboecmcbcghaaGreat
open Go Go.RowKit Go.Sort
section
variable {P : Program} {ops : Array Oper} {md : Region.Mode} {C : World → Prop}

/-- The first n operations stand still in the drawn world; the others one behind the other. -/
theorem wp_region_stail {id : Nat} {Q : Exit → Act → World → Prop} {a : Act} {w : World} {l : List Oper} (n : Nat) (hm : P.follows .mixedOrders = true) (hB : Region.lexTailB .any l.toArray n = true)
    (h : wpStill P l.toArray w.drew (fun a' => wpList P l.toArray Q (l.drop n) a' w.drew) (l.take n) a) : (Code.region id l.toArray true).wp P Q a w :=
  wp_region_still_tail n hm hB h
theorem Only.regrown (S : List Nat) (w : World) (d : Nat) (os : Array Obj) : Only S w (grow (redrawn w d) os) := Only.of_below (below_regrown w d os) (Nat.le_refl _)
end
end Go.Proofs.YtikboecmcbcghaaGreat
/- A region that draws its order, walked in one order of one's own: first operations that only read (H), each the same in every world of a class C; then some that may come early but stay within C (T1); then the rest (T2), each behind all of H. No program is named. -/
set_option linter.unusedVariables false
set_option linter.unusedSimpArgs false
namespace Go.Proofs.YtikboecmcbcghaaGreat
open Go Go.RowKit Go.Sort
section
variable {P : Program} {ops : Array Oper} {md : Region.Mode} {C : World → Prop} {Q : Exit → Act → World → Prop}

/-- An operation that ends in a value: it enters no function. -/
def plainB (o : Oper) : Bool :=
  match o.op with
  | .move _ | .assign _ | .pick .. | .load .. | .binOp .. | .unOp .. | .fieldAddr .. | .field .. | .indexAddr .. | .index .. | .lookup .. | .extract .. | .build .. | .slice .. | .convert .. => true
  | .nilCheck _ => true
  | .call { callee := .builtin .len, .. } => true
  | .call { callee := .builtin .min, .. } => true
  | .call { callee := .builtin .max, .. } => true
  | _ => false
theorem run_value {s : Sem Value} {w w' : World} {n : Next} (h : (do pure (Next.value (← s)) : Sem Next).run P w = .ok n w') : ∃ v, n = .value v := by
  simp only [Sem.run_bind] at h
  generalize s.run P w = r at h
  cases r with
  | ok a w1 => simp [Result.andThen] at h; exact ⟨a, h.1.symm⟩
  | halt x w1 => simp [Result.andThen] at h
/-- It stands still in every world of the class. -/
def YieldsS (P : Program) (ops : Array Oper) (C : World → Prop) (o : Oper) (v : Value) (a : Act) : Prop :=
  (Region.wanted o (yielded ops a.tmps) = true ∧ ∀ w, C w → (execOp a.eval o).run P w = .ok (.value v) w) ∨
  (Region.wanted o (yielded ops a.tmps) = false ∧ v = undef)
theorem YieldsS.of_same {o : Oper} {v : Value} {a a' : Act} (hy : YieldsS P ops C o v a) (he : execOp a'.eval o = execOp a.eval o)
    (hw : Region.wanted o (yielded ops a'.tmps) = Region.wanted o (yielded ops a.tmps)) : YieldsS P ops C o v a' := by
  unfold YieldsS at *
  rw [he, hw]
  exact hy
theorem YieldsS.put {oi oj : Oper} {v u : Value} {a : Act} (hap : oi.apart ops oj = true) (hsi : ∀ cs b, oi.op ≠ .select cs b) (hy : YieldsS P ops C oi v a) : YieldsS P ops C oi v (a.put oj.dst u) :=
  hy.of_same (execOp_put oi hsi a oj.dst u (Oper.apart_spec hap).2.2) (wanted_put oi a oj.dst u (Oper.apart_spec hap).2.2)
theorem YieldsS.unput {oi oj : Oper} {v u : Value} {a : Act} (hap : oi.apart ops oj = true) (hsj : ∀ cs b, oj.op ≠ .select cs b) (hy : YieldsS P ops C oj u (a.put oi.dst v)) : YieldsS P ops C oj u a :=
  hy.of_same (execOp_put oj hsj a oi.dst v (Oper.apart_spec hap).1).symm (wanted_put oj a oi.dst v (Oper.apart_spec hap).1).symm
theorem YieldsS.wpOp {i : Nat} {o : Oper} {v : Value} {a : Act} {w : World} (hi : ops[i]? = some o) (hC : C w) (hy : YieldsS P ops C o v a) {K : Act → World → Prop} (h : K (a.put o.dst v) w) : wpOp P ops Q i K a w := by
  unfold Go.wpOp
  simp only [hi]
  rcases hy with ⟨hw, hv⟩ | ⟨hw, rfl⟩
  · simp only [hw, if_true, Oper.wp, hv w hC, Oper.upon]; exact .inl h
  · simp only [hw, Bool.false_eq_true, if_false]; exact h
theorem wpOp_putS {j : Nat} {oi oj : Oper} {v : Value} (hj : ops[j]? = some oj) (hap : oi.apart ops oj = true)
    (hsi : ∀ cs b, oi.op ≠ .select cs b) (hsj : ∀ cs b, oj.op ≠ .select cs b)
    (hQ : ∀ c a w, Q (.panic c) (a.put oi.dst v) w → Q (.panic c) a w) {K : Act → World → Prop} {a : Act} {w : World}
    (hy : YieldsS P ops C oi v a) (h : wpOp P ops Q j K (a.put oi.dst v) w) :
    wpOp P ops Q j (fun a' w' => YieldsS P ops C oi v a' ∧ K (a'.put oi.dst v) w') a w := by
  obtain ⟨h1, h2, h3⟩ := Oper.apart_spec hap
  have keep : ∀ (b : Act), YieldsS P ops C oi v b → ∀ u, YieldsS P ops C oi v (b.put oj.dst u) := fun b hb u => hb.put hap hsi
  have keepD : ∀ d, YieldsS P ops C oi v { a with defers := d :: a.defers } := fun d => hy.of_same rfl rfl
  unfold Go.wpOp at h ⊢
  simp only [hj] at h ⊢
  rw [wanted_put oj a oi.dst v h1] at h
  by_cases hw : Region.wanted oj (yielded ops a.tmps) = true
  · rw [if_pos hw] at h ⊢
    rcases h with h | ⟨hasks, hlets⟩
    · left
      unfold Oper.wp at h ⊢
      rw [execOp_put oj hsj a oi.dst v h1] at h
      generalize (execOp a.eval oj).run P w = r at h ⊢
      cases r with
      | ok n w' =>
        cases n <;> simp only [Oper.upon] at h ⊢
        case value u => exact ⟨keep a hy u, (Act.put_comm a v u h2) ▸ h⟩
        case skip => exact ⟨keep a hy _, (Act.put_comm a v undef h2) ▸ h⟩
        case defer d =>
          refine ⟨keep _ (keepD d) _, ?_⟩
          rw [← Act.put_comm _ v undef h2, ← Act.put_defers]
          exact h
        case enter f args =>
          refine Calls.mono h fun e w'' he => ?_
          cases e with
          | returned u => exact ⟨keep a hy u, (Act.put_comm a v u h2) ▸ he⟩
          | panicked c => exact hQ _ _ _ he
          | outgrown => exact he
        case row row args => exact Rows.mono h fun u w'' he => ⟨keep a hy u, (Act.put_comm a v u h2) ▸ he⟩
      | halt x w' =>
        cases x <;> simp only [Oper.upon] at h ⊢
        case panic u => exact hQ _ _ _ h
    · right
      refine ⟨?_, hlets⟩
      unfold Oper.asks at *
      rw [execOp_put oj hsj a oi.dst v h1] at hasks
      exact hasks
  · rw [if_neg hw] at h ⊢
    exact ⟨keep a hy _, (Act.put_comm a v undef h2) ▸ h⟩
theorem run_valueF {α : Type} {s : Sem α} {f : α → Value} {w w' : World} {n : Next} (h : (s >>= fun x => pure (Next.value (f x)) : Sem Next).run P w = .ok n w') : ∃ v, n = .value v := by
  simp only [Sem.run_bind] at h
  generalize s.run P w = r at h
  cases r with
  | ok a w1 => simp [Result.andThen] at h; exact ⟨_, h.1.symm⟩
  | halt x w1 => simp [Result.andThen] at h
theorem run_bindV {α : Type} {s : Sem α} {g : α → Sem Next} {w w' : World} {n : Next} (hg : ∀ a n w w', (g a).run P w = .ok n w' → ∃ v, n = .value v) (h : (s >>= g).run P w = .ok n w') : ∃ v, n = .value v := by
  simp only [Sem.run_bind] at h
  generalize s.run P w = r at h
  cases r with
  | ok a w1 => exact hg a n w1 w' (by simpa [Result.andThen] using h)
  | halt x w1 => simp [Result.andThen] at h
theorem run_builtin {ρ : Operand → Value} {c : Call} {ty : TypeId} {b : Builtin} {s : Array TypeId → TypeId → Array Value → Sem Value} {w w' : World} {n : Next} (hc : c.callee = .builtin b)
    (hb : ∀ a t cs x, builtin b a t cs x = (do pure (Next.value (← s a t x)) : Sem Next)) (h : (do let d ← resolve ρ c ty; invoke d.target d.args : Sem Next).run P w = .ok n w') : ∃ v, n = .value v := by
  simp only [resolve, hc, Sem.run_bind, Sem.run_pure, Result.andThen_ok, invoke, hb] at h
  generalize (s c.argTypes ty (c.args.map ρ)).run P w = r at h
  cases r with
  | ok a w1 => simp [Result.andThen] at h; exact ⟨a, h.1.symm⟩
  | halt x w1 => simp [Result.andThen] at h
theorem plain_value {o : Oper} {ρ : Operand → Value} {w w' : World} {n : Next} (h : plainB o = true) (hr : (execOp ρ o).run P w = .ok n w') : ∃ v, n = .value v := by
  obtain ⟨dst, op, type, pos, after, guard⟩ := o
  cases op <;> simp only [plainB] at h <;> try cases h
  case move x => simp only [execOp, Sem.run_pure] at hr; cases hr; exact ⟨_, rfl⟩
  case assign x => simp only [execOp, Sem.run_pure] at hr; cases hr; exact ⟨_, rfl⟩
  case pick c a b => exact run_valueF hr
  case nilCheck x =>
    simp only [execOp] at hr
    split at hr
    all_goals first
      | (simp [runtimePanic, Sem.run_bind, Result.andThen, goPanic, Sem.run] at hr; done)
      | (simp only [Sem.run_pure] at hr; cases hr; exact ⟨_, rfl⟩)
      | (split at hr <;> first
          | (simp [runtimePanic, Sem.run_bind, Result.andThen, goPanic, Sem.run] at hr; done)
          | (simp only [Sem.run_pure] at hr; cases hr; exact ⟨_, rfl⟩)
          | (refine run_bindV (fun a n w w' h => ?_) hr
             refine run_bindV (fun a n w w' h => ?_) h
             split at h
             · simp [unsupported, Sem.run, Sem.run_bind, Result.andThen] at h
             · simp [Sem.run_bind, Result.andThen] at h
               exact ⟨_, h.1.symm⟩))
  case call c =>
    obtain ⟨callee, args, ats⟩ := c
    cases callee with
    | value f => simp at h
    | invoke r m => simp at h
    | builtin b =>
      cases b <;> simp at h
      case len => exact run_builtin (b := .len) (s := fun a t x => Builtin.len_ a t x) rfl (fun _ _ _ _ => rfl) hr
      case max => exact run_builtin (b := .max) (s := fun a t x => Builtin.max_ a t x) rfl (fun _ _ _ _ => rfl) hr
      case min => exact run_builtin (b := .min) (s := fun a t x => Builtin.min_ a t x) rfl (fun _ _ _ _ => rfl) hr
  all_goals exact run_value hr

/-! ## the plan -/
def sinkL (md : Region.Mode) (ops : Array Oper) : List Nat → Nat → Bool
  | [], _ => true
  | h :: H, t => ((H ++ [t]).any fun j => Region.waitsFor md ops j h) && sinkL md ops H t
def chainL (md : Region.Mode) (ops : Array Oper) : Nat → List Nat → Bool
  | _, [] => true
  | t, u :: us => Region.waitsFor md ops u t && chainL md ops u us
def behindB (md : Region.Mode) (ops : Array Oper) (H : List Nat) : List Nat → Bool
  | [] => true
  | t :: ts => sinkL md ops H t && chainL md ops t ts
/-- One behind the other, each the only one that may come. -/
def seqL (md : Region.Mode) (ops : Array Oper) : List Nat → Array Bool → Bool
  | [], listed => (Region.ready md ops listed).isEmpty
  | t :: ts, listed => decide (Region.ready md ops listed = [t]) && seqL md ops ts (listed.setIfInBounds t true)
def headL (md : Region.Mode) (ops : Array Oper) (T : List Nat) : List Nat → Array Bool → Bool
  | [], listed => seqL md ops T listed
  | h :: H, listed => (Region.ready md ops listed).contains h && Region.free md ops listed h && headL md ops T H (listed.setIfInBounds h true)
def plainAt (ops : Array Oper) (i : Nat) : Bool := match ops[i]? with | some o => plainB o | none => false
def planB (md : Region.Mode) (ops : Array Oper) (H T1 T2 : List Nat) : Bool :=
  (Region.noSelect ops && H.all (plainAt ops)) && (((List.range ops.size).all (fun i => H.contains i || (T1.contains i || T2.contains i)) && ((T1 ++ T2).all (fun i => !H.contains i) && T2.all (fun i => !T1.contains i))) &&
    (decide (H.length + (T1 ++ T2).length = ops.size) && (behindB md ops H T2 && headL md ops (T1 ++ T2) H (Array.replicate ops.size false))))
def Closed (md : Region.Mode) (ops : Array Oper) (listed : Array Bool) : Prop :=
  ∀ j oj, ops[j]? = some oj → listed.getD j false = true → ∀ e ∈ oj.after, Region.binds md e = true → listed.getD e.on false = true
theorem Closed.set {listed : Array Bool} {i : Nat} (inv : Closed md ops listed) (hi : i ∈ Region.ready md ops listed) : Closed md ops (listed.setIfInBounds i true) := by
  obtain ⟨_, oi, hoi, hall⟩ := mem_ready.1 hi
  intro j oj hj hl e he hb
  by_cases hij : i = j
  · subst hij
    have : oj = oi := Option.some.inj (hj.symm.trans hoi)
    subst this
    exact getD_set_true (hall e he hb)
  · rw [getD_set_ne false hij] at hl
    exact getD_set_true (inv j oj hj hl e he hb)
/-- What a listed or a ready operation waits for is listed. -/
theorem waits_listed {listed : Array Bool} (inv : Closed md ops listed) {j i : Nat} (hj : listed.getD j false = true ∨ j ∈ Region.ready md ops listed) (hw : Region.waitsFor md ops j i = true) : listed.getD i false = true := by
  obtain ⟨oj, hoj, e, he, hb, hon⟩ := Region.waitsFor_spec hw
  rcases hj with hj | hj
  · rw [← hon]; exact inv j oj hoj hj e he hb
  · obtain ⟨_, o', ho', hall⟩ := mem_ready.1 hj
    have : o' = oj := Option.some.inj (ho'.symm.trans hoj)
    subst this
    rw [← hon]; exact hall e he hb
theorem sink_spec {listed : Array Bool} (inv : Closed md ops listed) {t : Nat} (ht : listed.getD t false = true ∨ t ∈ Region.ready md ops listed) : ∀ (H : List Nat), sinkL md ops H t = true → ∀ h ∈ H, listed.getD h false = true
  | [], _, _, hh => by cases hh
  | h :: H, hs, x, hx => by
    simp only [sinkL, Bool.and_eq_true] at hs
    have ih := sink_spec inv ht H hs.2
    rcases List.mem_cons.1 hx with rfl | hx
    · obtain ⟨j, hj, hw⟩ := List.any_eq_true.1 hs.1
      rcases List.mem_append.1 hj with hj | hj
      · exact waits_listed inv (.inl (ih j hj)) hw
      · have : j = t := by simpa using hj
        subst this
        exact waits_listed inv ht hw
    · exact ih x hx
theorem chain_spec {listed : Array Bool} (inv : Closed md ops listed) : ∀ (ts : List Nat) (t : Nat), chainL md ops t ts = true → ∀ u ∈ ts, (listed.getD u false = true ∨ u ∈ Region.ready md ops listed) → listed.getD t false = true
  | [], _, _, _, hu, _ => by cases hu
  | v :: ts, t, hc, u, hu, hr => by
    simp only [chainL, Bool.and_eq_true] at hc
    rcases List.mem_cons.1 hu with rfl | hu
    · exact waits_listed inv hr hc.1
    · exact waits_listed inv (.inl (chain_spec inv ts v hc.2 u hu hr)) hc.1
theorem behind_spec {listed : Array Bool} (inv : Closed md ops listed) {H T2 : List Nat} (hb : behindB md ops H T2 = true) {t : Nat} (ht : t ∈ T2) (hr : t ∈ Region.ready md ops listed) : ∀ h ∈ H, listed.getD h false = true := by
  cases T2 with
  | nil => cases ht
  | cons u us =>
    simp only [behindB, Bool.and_eq_true] at hb
    rcases List.mem_cons.1 ht with rfl | ht
    · exact sink_spec inv (.inr hr) H hb.1
    · exact sink_spec inv (.inl (chain_spec inv us u hb.2 t ht (.inr hr))) H hb.1

/-- Whatever order is picked: the reading ones stand still in C, the early ones stay in C. -/
def AnyP (P : Program) (md : Region.Mode) (ops : Array Oper) (C : World → Prop) (Q : Exit → Act → World → Prop) (H T1 : List Nat) : Nat → Array Bool → Act → World → Prop
  | 0, listed, a, w => Region.ready md ops listed = [] ∧ Q .normal a w
  | f + 1, listed, a, w => Region.ready md ops listed ≠ [] ∧ ∀ i ∈ Region.ready md ops listed,
      (i ∈ H ∧ ∃ o v, ops[i]? = some o ∧ YieldsS P ops C o v a ∧ AnyP P md ops C Q H T1 f (listed.setIfInBounds i true) (a.put o.dst v) w) ∨
      (i ∉ H ∧ wpOp P ops Q i (fun a' w' => (i ∈ T1 → C w') ∧ AnyP P md ops C Q H T1 f (listed.setIfInBounds i true) a' w') a w)

theorem anyP_any {H T1 T2 : List Nat} (hb : behindB md ops H T2 = true) (hcov : ∀ i, i < ops.size → i ∈ H ∨ i ∈ T1 ∨ i ∈ T2) : ∀ (f : Nat) (listed : Array Bool) (a : Act) (w : World), Closed md ops listed → (C w ∨ ∀ h ∈ H, listed.getD h false = true) →
    AnyP P md ops C Q H T1 f listed a w → wpAny P md ops Q f listed a w
  | 0, _, _, _, _, _, h => h
  | f + 1, listed, a, w, inv, hC, h => by
    refine ⟨fun h0 => absurd h0 h.1, fun i hi => ?_⟩
    rcases h.2 i hi with ⟨hiH, o, v, ho, hy, hK⟩ | ⟨hiH, hop⟩
    · have hCw : C w := by
        rcases hC with q | q
        · exact q
        · have := q i hiH
          rw [getD_both (mem_ready.1 hi).1] at this
          cases this
      exact hy.wpOp ho hCw (anyP_any hb hcov f _ _ _ (inv.set hi) (.inl hCw) hK)
    · refine wpOp_mono (fun a' w' hk => anyP_any hb hcov f _ a' w' (inv.set hi) ?_ hk.2) hop
      obtain ⟨_, oi, hoi, _⟩ := mem_ready.1 hi
      have hlt : i < ops.size := (Array.getElem?_eq_some_iff.1 hoi).1
      rcases hcov i hlt with q | q | q
      · exact absurd q hiH
      · exact .inl (hk.1 q)
      · exact .inr fun x hx => getD_set_true (behind_spec inv hb q hi x hx)
theorem plan_first {H T1 : List Nat} {i : Nat} {oi : Oper} {v : Value} (hi : ops[i]? = some oi) (hsel : ∀ (j : Nat) (o : Oper) cs b, ops[j]? = some o → o.op ≠ .select cs b) (hiH : i ∈ H)
    (hQ : ∀ c d u a w, Q (.panic c) (Act.put a d u) w → Q (.panic c) a w) :
    ∀ (f : Nat) (listed : Array Bool) (a : Act) (w : World),
      (∀ j oj, ops[j]? = some oj → j ≠ i → listed.getD j true = false → (∀ e ∈ oj.after, Region.binds md e = true → e.on ≠ i) → oi.apart ops oj = true) →
      i ∈ Region.ready md ops listed → YieldsS P ops C oi v a →
      AnyP P md ops C Q H T1 f (listed.setIfInBounds i true) (a.put oi.dst v) w → AnyP P md ops C Q H T1 (f + 1) listed a w := by
  intro f
  induction f with
  | zero =>
    intro listed a w _ hr hy K
    refine ⟨fun h => (by rw [h] at hr; cases hr), fun j hj => ?_⟩
    by_cases hji : j = i
    · subst hji; exact .inl ⟨hiH, oi, v, hi, hy, K⟩
    · have := ready_mono hj hji
      rw [K.1] at this
      cases this
  | succ f ih =>
    intro listed a w hfree hr hy K
    have hun := (mem_ready.1 hr).1
    refine ⟨fun h => (by rw [h] at hr; cases hr), fun j hj => ?_⟩
    by_cases hji : j = i
    · subst hji; exact .inl ⟨hiH, oi, v, hi, hy, K⟩
    · obtain ⟨hjun, oj, hoj, hall⟩ := mem_ready.1 hj
      have hnot : ∀ e ∈ oj.after, Region.binds md e = true → e.on ≠ i := fun e he hb heq => by
        have h1 := hall e he hb
        rw [heq, getD_both hun] at h1
        cases h1
      have hap := hfree j oj hoj hji hjun hnot
      have hfree' : ∀ k ok, ops[k]? = some ok → k ≠ i → (listed.setIfInBounds j true).getD k true = false →
          (∀ e ∈ ok.after, Region.binds md e = true → e.on ≠ i) → oi.apart ops ok = true := fun k ok hk hki hun' hno => by
        refine hfree k ok hk hki ?_ hno
        by_cases hjk : j = k
        · subst hjk; exact hjun
        · rw [getD_set_ne true hjk] at hun'; exact hun'
      rcases K.2 j (ready_mono hj hji) with ⟨hjH, o', u, ho', hyj, hK⟩ | ⟨hjH, hop⟩
      · have : o' = oj := Option.some.inj (ho'.symm.trans hoj)
        subst this
        refine .inl ⟨hjH, o', u, ho', hyj.unput hap (fun cs b => hsel j o' cs b hoj), ?_⟩
        refine ih _ _ _ hfree' (ready_mono hr (Ne.symm hji)) (hy.put hap (fun cs b => hsel i oi cs b hi)) ?_
        rw [Array.setIfInBounds_comm _ _ hji, ← Act.put_comm a v u (Oper.apart_spec hap).2.1]
        exact hK
      · have h2 := wpOp_putS hoj hap (fun cs b => hsel i oi cs b hi) (fun cs b => hsel j oj cs b hoj) (fun c a w => hQ c _ _ a w) hy hop
        refine .inr ⟨hjH, wpOp_mono (fun a' w' h3 => ⟨h3.2.1, ih _ _ _ hfree' (ready_mono hr (Ne.symm hji)) h3.1 ?_⟩) h2⟩
        rw [Array.setIfInBounds_comm _ _ hji]
        exact h3.2.2
def opsAt (l : List Oper) (H : List Nat) : List Oper := H.filterMap fun i => l[i]?
/-- What stands behind an early operation: the class, and what follows. -/
def CheckQ (C : World → Prop) (Q : Exit → Act → World → Prop) (K : Act → World → Prop) : Exit → Act → World → Prop
  | .normal, a, w => C w ∧ K a w
  | e, a, w => Q e a w
theorem Oper.wp_q {o : Oper} {a : Act} {w : World} {K : Act → World → Prop} {Q' : Exit → Act → World → Prop} (hp : ∀ c a w, Q' (.panic c) a w → Q (.panic c) a w) (ho : LetsOut Q' → LetsOut Q) (h : o.wp P a w K Q') : o.wp P a w K Q := by
  unfold Oper.wp at *
  generalize (execOp a.eval o).run P w = r at *
  cases r with
  | ok n w' =>
    cases n <;> simp only [Oper.upon] at h ⊢ <;> first
      | exact h
      | exact Calls.mono h (fun e w'' he => by cases e <;> first | exact he | exact hp _ _ _ he | exact ho he)
  | halt x w' => cases x <;> simp only [Oper.upon] at h ⊢ <;> first | exact hp _ _ _ h | exact h
theorem wpOp_check {i : Nat} {o : Oper} {a : Act} {w : World} {K : Act → World → Prop} (hi : ops[i]? = some o) (h : wpList P ops (CheckQ C Q K) [o] a w) : wpOp P ops Q i (fun a' w' => C w' ∧ K a' w') a w := by
  unfold wpOp
  simp only [hi]
  unfold wpList at h
  by_cases hw : Region.wanted o (yielded ops a.tmps) = true
  · rw [if_pos hw] at h ⊢
    rcases h with h | h
    · exact .inl (Oper.wp_mono (fun _ _ q => q) (Oper.wp_q (fun _ _ _ q => q) (fun ⟨x, y, q⟩ => ⟨x, y, q⟩) h))
    · exact .inr ⟨h.1, by obtain ⟨x, y, q⟩ := h.2; exact ⟨x, y, q⟩⟩
  · rw [if_neg hw] at h ⊢
    exact h
def wpT1 (P : Program) (ops : Array Oper) (C : World → Prop) (Q : Exit → Act → World → Prop) : List Oper → (Act → World → Prop) → Act → World → Prop
  | [], K => K
  | o :: r, K => wpList P ops (CheckQ C Q (wpT1 P ops C Q r K)) [o]
end
section
variable {P : Program} {md : Region.Mode} {C : World → Prop} {Q : Exit → Act → World → Prop} {l : List Oper}
theorem opsAt_cons {i : Nat} {H : List Nat} {o : Oper} (h : l[i]? = some o) : opsAt l (i :: H) = o :: opsAt l H := by unfold opsAt; rw [List.filterMap_cons, h]
theorem ready_get {i : Nat} {listed : Array Bool} (h : Region.ready md l.toArray listed = [i]) : ∃ o, l[i]? = some o := by
  have : i ∈ Region.ready md l.toArray listed := by rw [h]; simp
  obtain ⟨_, o, ho, _⟩ := mem_ready.1 this
  exact ⟨o, by simpa using ho⟩
theorem plan_T2 {H T1 : List Nat} : ∀ (T2 : List Nat) (listed : Array Bool) (a : Act) (w : World), (∀ t ∈ T2, t ∉ H ∧ t ∉ T1) → seqL md l.toArray T2 listed = true → wpList P l.toArray Q (opsAt l T2) a w → AnyP P md l.toArray C Q H T1 T2.length listed a w
  | [], _, _, _, _, hs, h => ⟨by simpa [seqL] using hs, h⟩
  | t :: ts, listed, a, w, hd, hs, h => by
    simp only [seqL, Bool.and_eq_true, decide_eq_true_eq] at hs
    obtain ⟨o, ho⟩ := ready_get hs.1
    rw [opsAt_cons ho] at h
    refine ⟨by rw [hs.1]; simp, fun i hi => ?_⟩
    rw [hs.1] at hi
    have : i = t := by simpa using hi
    subst this
    refine .inr ⟨(hd i (by simp)).1, ?_⟩
    have hw : wpOp P l.toArray Q i (wpList P l.toArray Q (opsAt l ts)) a w := by
      unfold wpOp
      simp only [show l.toArray[i]? = some o by simpa using ho]
      exact h
    exact wpOp_mono (fun a' w' h' => ⟨fun q => absurd q (hd i (by simp)).2, plan_T2 ts _ a' w' (fun t ht => hd t (by simp [ht])) hs.2 h'⟩) hw
theorem plan_T1 {H T1 T2 : List Nat} (h2 : ∀ t ∈ T2, t ∉ H ∧ t ∉ T1) : ∀ (T : List Nat) (listed : Array Bool) (a : Act) (w : World), (∀ t ∈ T, t ∉ H) → seqL md l.toArray (T ++ T2) listed = true →
    wpT1 P l.toArray C Q (opsAt l T) (fun a w => wpList P l.toArray Q (opsAt l T2) a w) a w → AnyP P md l.toArray C Q H T1 (T ++ T2).length listed a w
  | [], listed, a, w, _, hs, h => plan_T2 T2 listed a w h2 hs h
  | t :: ts, listed, a, w, hd, hs, h => by
    simp only [List.cons_append, seqL, Bool.and_eq_true, decide_eq_true_eq] at hs
    obtain ⟨o, ho⟩ := ready_get hs.1
    rw [opsAt_cons ho] at h
    refine ⟨by rw [hs.1]; simp, fun i hi => ?_⟩
    rw [hs.1] at hi
    have : i = t := by simpa using hi
    subst this
    refine .inr ⟨hd i (by simp), ?_⟩
    have hw := wpOp_check (i := i) (by simpa using ho) h
    exact wpOp_mono (fun a' w' h' => ⟨fun _ => h'.1, plan_T1 h2 ts _ a' w' (fun t ht => hd t (by simp [ht])) hs.2 h'.2⟩) hw
theorem plan_H {H T1 T : List Nat} {L : Act → Prop} {w : World} (hsel : Region.noSelect l.toArray = true) (hQ : ∀ c d u a w, Q (.panic c) (Act.put a d u) w → Q (.panic c) a w) (hCw : C w)
    (hL : ∀ listed a, seqL md l.toArray T listed = true → L a → AnyP P md l.toArray C Q H T1 T.length listed a w) :
    ∀ (H' : List Nat) (listed : Array Bool) (a : Act), (∀ h ∈ H', h ∈ H ∧ plainAt l.toArray h = true) → headL md l.toArray T H' listed = true → wpQuiet P l.toArray C L (opsAt l H') a →
      AnyP P md l.toArray C Q H T1 (H'.length + T.length) listed a w
  | [], listed, a, _, hs, h => by rw [List.length_nil, Nat.zero_add]; exact hL listed a hs h
  | i :: is, listed, a, hd, hs, h => by
    simp only [headL, Bool.and_eq_true] at hs
    obtain ⟨⟨hr, hf⟩, hs'⟩ := hs
    have hr' : i ∈ Region.ready md l.toArray listed := by simpa using hr
    obtain ⟨_, o, ho, _⟩ := mem_ready.1 hr'
    have ho' : l[i]? = some o := by simpa using ho
    rw [opsAt_cons ho'] at h
    have hst : qOp P l.toArray C i (wpQuiet P l.toArray C L (opsAt l is)) a := by unfold qOp; simp only [ho]; exact h
    obtain ⟨v, hy, hK⟩ := yieldsIn_of_qOp ho hst
    have hpl : plainB o = true := by
      have := (hd i (by simp)).2
      unfold plainAt at this
      rw [ho] at this
      exact this
    have hyS : YieldsS P l.toArray C o v a := by
      rcases hy with ⟨q1, q2⟩ | q
      · refine .inl ⟨q1, fun W hW => ?_⟩
        have q3 := q2 W hW
        unfold Oper.quietAt at q3
        generalize hrr : (execOp a.eval o).run P W = r at q3 ⊢
        cases r with
        | ok n W' =>
          obtain ⟨u, rfl⟩ := plain_value hpl hrr
          simp only [Oper.quietUpon] at q3
          obtain ⟨e1, e2⟩ := q3
          rw [e1, e2]
        | halt x W' => simp only [Oper.quietUpon] at q3
      · exact .inr q
    rw [List.length_cons, show is.length + 1 + T.length = (is.length + T.length) + 1 by omega]
    exact plan_first ho (Region.noSelect_spec hsel) (hd i (by simp)).1 hQ _ listed a w (Region.free_spec ho hf) hr' hyS
      (plan_H hsel hQ hCw hL is _ _ (fun h hh => hd h (by simp [hh])) hs' hK)
/-- The region by a plan. -/
theorem wp_region_plan {id : Nat} {a : Act} {w : World} (H T1 T2 : List Nat) (hm : P.follows .mixedOrders = true) (hB : planB .any l.toArray H T1 T2 = true) (hQ : ∀ c d u a w, Q (.panic c) (Act.put a d u) w → Q (.panic c) a w) (hC : C w.drew)
    (h : wpQuiet P l.toArray C (fun a' => wpT1 P l.toArray C Q (opsAt l T1) (fun a w => wpList P l.toArray Q (opsAt l T2) a w) a' w.drew) (opsAt l H) a) : (Code.region id l.toArray true).wp P Q a w := by
  simp only [planB, Bool.and_eq_true, decide_eq_true_eq, List.all_eq_true, Bool.or_eq_true, List.contains_iff_mem, Bool.not_eq_true'] at hB
  obtain ⟨⟨hsel, hpl⟩, ⟨hcov, hd1, hd2⟩, hlen, hbe, hhd⟩ := hB
  refine wp_region_any hm ?_
  have inv0 : Closed .any l.toArray (Array.replicate l.toArray.size false) := fun j oj _ hl => by rw [getD_replicate_false] at hl; cases hl
  have hd1' : ∀ t ∈ T1 ++ T2, t ∉ H := fun t ht q => by
    have := hd1 t ht
    rw [List.contains_eq_mem, decide_eq_true q] at this
    cases this
  have hd2' : ∀ t ∈ T2, t ∉ T1 := fun t ht q => by
    have := hd2 t ht
    rw [List.contains_eq_mem, decide_eq_true q] at this
    cases this
  have h2 : ∀ t ∈ T2, t ∉ H ∧ t ∉ T1 := fun t ht => ⟨hd1' t (by simp [ht]), hd2' t ht⟩
  have := plan_H (md := .any) (H := H) (T1 := T1) (T := T1 ++ T2) hsel hQ hC (fun listed a hs hl => plan_T1 h2 T1 listed a w.drew (fun t ht => hd1' t (by simp [ht])) hs hl) H _ a (fun h hh => ⟨hh, hpl h hh⟩) hhd h
  rw [hlen] at this
  exact anyP_any hbe (fun i hi => hcov i (List.mem_range.2 hi)) _ _ _ _ inv0 (.inl hC) this
/-- A world in which of what was there at w only the blocks in S may have turned. -/
structure Within (S : List Nat) (w : World) where
  W : World
  h : Only S w W
instance (S : List Nat) (w : World) : Nonempty (Within S w) := ⟨⟨w, Only.refl S w⟩⟩
theorem wp_region_in {id : Nat} {a : Act} {w : World} (S H T1 T2 : List Nat) (hm : P.follows .mixedOrders = true) (hB : planB .any l.toArray H T1 T2 = true) (hQ : ∀ c d u a w, Q (.panic c) (Act.put a d u) w → Q (.panic c) a w)
    (h : wpQuiet P l.toArray (fun W => ∃ p : Within S w, W = p.W) (fun a' => wpT1 P l.toArray (fun W => ∃ p : Within S w, W = p.W) Q (opsAt l T1) (fun a w => wpList P l.toArray Q (opsAt l T2) a w) a' w.drew) (opsAt l H) a) : (Code.region id l.toArray true).wp P Q a w :=
  wp_region_plan H T1 T2 hm hB hQ ⟨⟨_, (Only.refl S w).drew⟩, rfl⟩ h
theorem Within.cell {S : List Nat} {w : World} {x : Addr} {v : Value} (hc : w.cell? x = some v) (hn : x.block ∉ S) (p : Within S w) : p.W.cell? x = some v := (p.h.cell (block_lt_of_cell hc) hn).trans hc
theorem check_of {S : List Nat} {w w' : World} {K : Act → World → Prop} {a : Act} (hO : Only S w w') (h : K a w') : CheckQ (fun W => ∃ p : Within S w, W = p.W) Q K .normal a w' := ⟨⟨⟨w', hO⟩, rfl⟩, h⟩
end
end Go.Proofs.YtikboecmcbcghaaGreat
/- A region that draws its order, by a plan of five parts: reads, early ones, reads again, early ones, the rest. No program is named. -/
set_option linter.unusedVariables false
set_option linter.unusedSimpArgs false
namespace Go.Proofs.YtikboecmcbcghaaGreat
open Go Go.RowKit Go.Sort
section
variable {P : Program} {md : Region.Mode} {C : World → Prop} {Q : Exit → Act → World → Prop} {l : List Oper}
def seqTo (md : Region.Mode) (ops : Array Oper) (S : Array Bool → Bool) : List Nat → Array Bool → Bool
  | [], listed => S listed
  | t :: ts, listed => decide (Region.ready md ops listed = [t]) && seqTo md ops S ts (listed.setIfInBounds t true)
def headTo (md : Region.Mode) (ops : Array Oper) (S : Array Bool → Bool) : List Nat → Array Bool → Bool
  | [], listed => S listed
  | h :: H, listed => (Region.ready md ops listed).contains h && Region.free md ops listed h && headTo md ops S H (listed.setIfInBounds h true)
theorem plan_A {H T1 : List Nat} {n : Nat} {S : Array Bool → Bool} {L : Act → World → Prop} (hL : ∀ listed a w, S listed = true → L a w → AnyP P md l.toArray C Q H T1 n listed a w) :
    ∀ (T : List Nat) (listed : Array Bool) (a : Act) (w : World), (∀ t ∈ T, t ∉ H) → seqTo md l.toArray S T listed = true → wpT1 P l.toArray C Q (opsAt l T) L a w → AnyP P md l.toArray C Q H T1 (T.length + n) listed a w
  | [], listed, a, w, _, hs, h => by rw [List.length_nil, Nat.zero_add]; exact hL listed a w hs h
  | t :: ts, listed, a, w, hd, hs, h => by
    simp only [seqTo, Bool.and_eq_true, decide_eq_true_eq] at hs
    obtain ⟨o, ho⟩ := ready_get hs.1
    rw [opsAt_cons ho] at h
    rw [List.length_cons, show ts.length + 1 + n = (ts.length + n) + 1 by omega]
    refine ⟨by rw [hs.1]; simp, fun i hi => ?_⟩
    rw [hs.1] at hi
    have : i = t := by simpa using hi
    subst this
    refine .inr ⟨hd i (by simp), ?_⟩
    have hw := wpOp_check (i := i) (by simpa using ho) h
    exact wpOp_mono (fun a' w' h' => ⟨fun _ => h'.1, plan_A hL ts _ a' w' (fun t ht => hd t (by simp [ht])) hs.2 h'.2⟩) hw
theorem plan_Hn {H T1 : List Nat} {n : Nat} {S : Array Bool → Bool} {L : Act → Prop} {w : World} (hsel : Region.noSelect l.toArray = true) (hQ : ∀ c d u a w, Q (.panic c) (Act.put a d u) w → Q (.panic c) a w)
    (hL : ∀ listed a, S listed = true → L a → AnyP P md l.toArray C Q H T1 n listed a w) :
    ∀ (H' : List Nat) (listed : Array Bool) (a : Act), (∀ h ∈ H', h ∈ H ∧ plainAt l.toArray h = true) → headTo md l.toArray S H' listed = true → wpQuiet P l.toArray C L (opsAt l H') a →
      AnyP P md l.toArray C Q H T1 (H'.length + n) listed a w
  | [], listed, a, _, hs, h => by rw [List.length_nil, Nat.zero_add]; exact hL listed a hs h
  | i :: is, listed, a, hd, hs, h => by
    simp only [headTo, Bool.and_eq_true] at hs
    obtain ⟨⟨hr, hf⟩, hs'⟩ := hs
    have hr' : i ∈ Region.ready md l.toArray listed := by simpa using hr
    obtain ⟨_, o, ho, _⟩ := mem_ready.1 hr'
    have ho' : l[i]? = some o := by simpa using ho
    rw [opsAt_cons ho'] at h
    have hst : qOp P l.toArray C i (wpQuiet P l.toArray C L (opsAt l is)) a := by unfold qOp; simp only [ho]; exact h
    obtain ⟨v, hy, hK⟩ := yieldsIn_of_qOp ho hst
    have hpl : plainB o = true := by
      have := (hd i (by simp)).2
      unfold plainAt at this
      rw [ho] at this
      exact this
    have hyS : YieldsS P l.toArray C o v a := by
      rcases hy with ⟨q1, q2⟩ | q
      · refine .inl ⟨q1, fun W hW => ?_⟩
        have q3 := q2 W hW
        unfold Oper.quietAt at q3
        generalize hrr : (execOp a.eval o).run P W = r at q3 ⊢
        cases r with
        | ok n W' =>
          obtain ⟨u, rfl⟩ := plain_value hpl hrr
          simp only [Oper.quietUpon] at q3
          obtain ⟨e1, e2⟩ := q3
          rw [e1, e2]
        | halt x W' => simp only [Oper.quietUpon] at q3
      · exact .inr q
    rw [List.length_cons, show is.length + 1 + n = (is.length + n) + 1 by omega]
    exact plan_first ho (Region.noSelect_spec hsel) (hd i (by simp)).1 hQ _ listed a w (Region.free_spec ho hf) hr' hyS
      (plan_Hn hsel hQ hL is _ _ (fun h hh => hd h (by simp [hh])) hs' hK)
theorem anyP_anyZ {ops : Array Oper} {H T1 T2 Z : List Nat} (hb : behindB md ops Z T2 = true) (hz : ∀ h ∈ H, h ∈ Z) (hcov : ∀ i, i < ops.size → i ∈ H ∨ i ∈ T1 ∨ i ∈ T2) : ∀ (f : Nat) (listed : Array Bool) (a : Act) (w : World), Closed md ops listed → (C w ∨ ∀ h ∈ H, listed.getD h false = true) →
    AnyP P md ops C Q H T1 f listed a w → wpAny P md ops Q f listed a w
  | 0, _, _, _, _, _, h => h
  | f + 1, listed, a, w, inv, hC, h => by
    refine ⟨fun h0 => absurd h0 h.1, fun i hi => ?_⟩
    rcases h.2 i hi with ⟨hiH, o, v, ho, hy, hK⟩ | ⟨hiH, hop⟩
    · have hCw : C w := by
        rcases hC with q | q
        · exact q
        · have := q i hiH
          rw [getD_both (mem_ready.1 hi).1] at this
          cases this
      exact hy.wpOp ho hCw (anyP_anyZ hb hz hcov f _ _ _ (inv.set hi) (.inl hCw) hK)
    · refine wpOp_mono (fun a' w' hk => anyP_anyZ hb hz hcov f _ a' w' (inv.set hi) ?_ hk.2) hop
      obtain ⟨_, oi, hoi, _⟩ := mem_ready.1 hi
      have hlt : i < ops.size := (Array.getElem?_eq_some_iff.1 hoi).1
      rcases hcov i hlt with q | q | q
      · exact absurd q hiH
      · exact .inl (hk.1 q)
      · exact .inr fun x hx => getD_set_true (behind_spec inv hb q hi x (hz x hx))
def planB2 (md : Region.Mode) (ops : Array Oper) (H A G B T2 : List Nat) : Bool :=
  (Region.noSelect ops && (H ++ G).all (plainAt ops)) && (((List.range ops.size).all (fun i => (H ++ G).contains i || ((A ++ B).contains i || T2.contains i)) && ((A ++ (B ++ T2)).all (fun i => !(H ++ G).contains i) && T2.all (fun i => !(A ++ B).contains i))) &&
    (decide (H.length + (A.length + (G.length + (B.length + T2.length))) = ops.size) && (behindB md ops (H ++ (A ++ (G ++ B))) T2 && headTo md ops (seqTo md ops (headTo md ops (seqTo md ops (seqL md ops T2) B) G) A) H (Array.replicate ops.size false))))
/-- The region by a plan of five parts. -/
theorem wp_region_plan2 {id : Nat} {a : Act} {w : World} (H A G B T2 : List Nat) (hm : P.follows .mixedOrders = true) (hB : planB2 .any l.toArray H A G B T2 = true) (hQ : ∀ c d u a w, Q (.panic c) (Act.put a d u) w → Q (.panic c) a w) (hC : C w.drew)
    (h : wpQuiet P l.toArray C (fun a' => wpT1 P l.toArray C Q (opsAt l A) (fun a w => wpQuiet P l.toArray C (fun a' => wpT1 P l.toArray C Q (opsAt l B) (fun a w => wpList P l.toArray Q (opsAt l T2) a w) a' w) (opsAt l G) a) a' w.drew) (opsAt l H) a) : (Code.region id l.toArray true).wp P Q a w := by
  simp only [planB2, Bool.and_eq_true, decide_eq_true_eq, List.all_eq_true, Bool.or_eq_true, List.contains_iff_mem, Bool.not_eq_true'] at hB
  obtain ⟨⟨hsel, hpl⟩, ⟨hcov, hd1, hd2⟩, hlen, hbe, hhd⟩ := hB
  refine wp_region_any hm ?_
  have inv0 : Closed .any l.toArray (Array.replicate l.toArray.size false) := fun j oj _ hl => by rw [getD_replicate_false] at hl; cases hl
  have hd1' : ∀ t ∈ A ++ (B ++ T2), t ∉ H ++ G := fun t ht q => by
    have := hd1 t ht
    rw [List.contains_eq_mem, decide_eq_true q] at this
    cases this
  have hd2' : ∀ t ∈ T2, t ∉ A ++ B := fun t ht q => by
    have := hd2 t ht
    rw [List.contains_eq_mem, decide_eq_true q] at this
    cases this
  have h2 : ∀ t ∈ T2, t ∉ H ++ G ∧ t ∉ A ++ B := fun t ht => ⟨hd1' t (by simp [ht]), hd2' t ht⟩
  have := plan_Hn (C := C) (md := .any) (H := H ++ G) (T1 := A ++ B) (S := seqTo .any l.toArray (headTo .any l.toArray (seqTo .any l.toArray (seqL .any l.toArray T2) B) G) A) hsel hQ
    (fun listed a hs hl => plan_A (S := headTo .any l.toArray (seqTo .any l.toArray (seqL .any l.toArray T2) B) G)
      (fun listed a w hs hl => plan_Hn (S := seqTo .any l.toArray (seqL .any l.toArray T2) B) hsel hQ
        (fun listed a hs hl => plan_A (S := seqL .any l.toArray T2) (fun listed a w hs hl => plan_T2 T2 listed a w h2 hs hl) B listed a w (fun t ht => hd1' t (by simp [ht])) hs hl)
        G listed a (fun h hh => ⟨by simp [hh], hpl h (by simp [hh])⟩) hs hl)
      A listed a w.drew (fun t ht => hd1' t (by simp [ht])) hs hl) H _ a (fun h hh => ⟨by simp [hh], hpl h (by simp [hh])⟩) hhd h
  rw [hlen] at this
  exact anyP_anyZ hbe (fun x hx => by simp at hx ⊢; rcases hx with q | q <;> simp [q]) (fun i hi => by
    rcases hcov i (List.mem_range.2 hi) with q | q | q
    · exact .inl q
    · exact .inr (.inl q)
    · exact .inr (.inr q)) _ _ _ _ inv0 (.inl hC) this
/-- Behind the last early operation, where nothing is left. -/
theorem check_last {S : List Nat} {w w' : World} {K : Act → World → Prop} {a : Act} (hO : Only S w w') (hK : ∀ a w, Q .normal a w → K a w) (h : Q .normal a w') : CheckQ (fun W => ∃ p : Within S w, W = p.W) Q K .normal a w' := ⟨⟨⟨w', hO⟩, rfl⟩, hK _ _ h⟩
theorem wp_region_in2 {id : Nat} {a : Act} {w : World} (S H A G B T2 : List Nat) (hm : P.follows .mixedOrders = true) (hB : planB2 .any l.toArray H A G B T2 = true) (hQ : ∀ c d u a w, Q (.panic c) (Act.put a d u) w → Q (.panic c) a w)
    (h : wpQuiet P l.toArray (fun W => ∃ p : Within S w, W = p.W) (fun a' => wpT1 P l.toArray (fun W => ∃ p : Within S w, W = p.W) Q (opsAt l A) (fun a W => wpQuiet P l.toArray (fun W => ∃ p : Within S w, W = p.W) (fun a' => wpT1 P l.toArray (fun W => ∃ p : Within S w, W = p.W) Q (opsAt l B) (fun a w => wpList P l.toArray Q (opsAt l T2) a w) a' W) (opsAt l G) a) a' w.drew) (opsAt l H) a) : (Code.region id l.toArray true).wp P Q a w :=
  wp_region_plan2 H A G B T2 hm hB hQ ⟨⟨_, (Only.refl S w).drew⟩, rfl⟩ h
end
end Go.Proofs.YtikboecmcbcghaaGreat
/- Contracts: find, times, floorOf, put, keep. -/
set_option linter.unusedVariables false
set_option linter.unusedSimpArgs false
namespace Go.Proofs.YtikboecmcbcghaaGreat
open Go.RowKit
theorem zeroS (w : World) : (zeroValue 82).run Tryz.prog w = .ok (StreamR.zero.val (.slice none 0 0)) w := by kernel_rfl
theorem find_any {w : World} {M : List Nat} {sb mb : Nat} {av : Value} {pf : ByteArray → Value} {s : MS} (h : StAt w M sb mb av pf s) (n : ByteArray) :
    Calls Tryz.prog 39 #[.pointer (some ⟨sb, 0, none⟩), .string n] w fun e w' => e = .returned ((s.find n).val (pvOf s pf n)) ∧ Only [] w w' := by
  obtain ⟨A, cap, hpv, _⟩ := (h.rd n).1.openI
  have c1 : ∀ o, (w.alloc o).cell? ⟨sb, 1, none⟩ = some (.map (some mb)) := fun o => (World.cell?_alloc_lt w o _ h.blk.lt).trans (h.blk.cell 1)
  have hl := h.look n
  obtain ⟨x, hx⟩ : ∃ x, x = s.find n := ⟨_, rfl⟩
  rw [hpv] at hl ⊢
  rw [← hx] at hl ⊢
  clear hpv hx
  obtain ⟨places, ⟨a, b, d⟩, fl, del⟩ := x
  have HL := Lib.hid hl
  clear hl
  unfold StreamR.val
  go_enter Tryz.func39, Tryz.ntmps39
  go_wp2_with (at_lookup; refine wpList_lookup_is rfl 75 rfl keyEnc_string Tryz.underlying75 Tryz.underlying9 (zeroS _) n rfl rfl (h.map.alloc _) (.agg #[.slice A places.length cap, .int .i64 a, .int .i64 b, .int .i64 d, .int .i64 fl, .bool del]) HL.out ?_)
  exact bodyPost_ret (v := .agg #[.slice A places.length cap, .int .i64 a, .int .i64 b, .int .i64 d, .int .i64 fl, .bool del]) (by simp [results, Tryz.results39, go_sem]) rfl ⟨rfl, (Only.refl [] w).alloc _⟩
theorem infoI : (Tryz.prog.info? 3).map (fun i => (i.zero, i.size, i.bytes)) = some (some (.int .i64 0), 1, 8) := by kernel_rfl
theorem news_one {w : World} {u : Value} {e : TypeId} : ∀ j x, [u][j]? = some x → (w.alloc (.cells #[u] e)).cell? ((⟨w.heap.size, 0, none⟩ : Addr).add j) = some x := by
  intro j x hx
  match j with
  | 0 => exact (cell_of_row _ _ 0 _ _ _ (heap_alloc_new w (.cells #[u] e))).trans hx
  | j + 1 => simp at hx
theorem timeAt_nat {all : List StoredR} {q : Nat} (h : q < all.length) : timeAt all (q : Int) = all[q].time := by simp [timeAt, h]
theorem times_len (all : List StoredR) (x : StreamR) : (times all x).length = x.places.length := by simp [times]
theorem ints_take {ts : List Int} {k : Nat} {t : Int} (h : ts[k]? = some t) : ints (ts.take (k + 1)) = ints (ts.take k) ++ [.int .i64 t] := by
  obtain ⟨h1, h2⟩ := List.getElem?_eq_some_iff.1 h
  rw [List.take_succ_eq_append_getElem h1, h2]
  unfold ints
  rw [List.map_append]
  rfl
set_option maxHeartbeats 1000000 in
theorem times_any {w : World} {M : List Nat} {sb mb : Nat} {av pv : Value} {pf : ByteArray → Value} {s : MS} {x : StreamR} (h : StAt w M sb mb av pf s) (hp : Slc w 1 pv x.places.length (ints x.places))
    (hx : ∀ p ∈ x.places, 0 ≤ p ∧ p < s.all.length) (hl : x.places.length ≤ 1000000000) :
    Calls Tryz.prog 109 #[.pointer (some ⟨sb, 0, none⟩), x.val pv] w fun e w' => ∃ v, e = .returned v ∧ Slc w' 1 v (times s.all x).length (ints (times s.all x)) ∧ Only [] w w' := by
  obtain ⟨A, cap, rfl, hnc, hcm, hel⟩ := hp.openI
  obtain ⟨A2, cap2, rfl, hnc2, hcm2, hel2⟩ := h.cell
  obtain ⟨i0, hi, hz0, hz1, hz2⟩ := info_parts infoI
  have htl := times_len s.all x
  have htk : ∀ k (hk : k < x.places.length) (q : Nat), x.places[k] = (q : Int) → (hq : q < s.all.length) → (times s.all x)[k]? = some s.all[q].time := by
    intro k hk q he hq
    simp only [times, List.getElem?_map, List.getElem?_eq_getElem hk, he, Option.map_some]
    rw [timeAt_nat hq]
  obtain ⟨ts, hts⟩ : ∃ ts, ts = times s.all x := ⟨_, rfl⟩
  rw [← hts] at htk htl ⊢
  clear hts
  obtain ⟨places, ⟨a, b, d⟩, fl, del⟩ := x
  simp only [] at hx hl hel hnc htl htk
  unfold maxLen at hcm hcm2
  have hbb := h.blk.lt
  have c0 : w.cell? ⟨sb, 0, none⟩ = some (.slice A2 s.all.length cap2) := h.blk.cell 0
  have C0 := Lib.hid c0
  clear c0
  unfold StreamR.val
  go_enter Tryz.func109, Tryz.ntmps109
  go_wp2
  go_loopw [5, 11] (fun u i wr => ∃ k : Nat, k ≤ places.length ∧ i = .int .i64 k ∧ wr.ownsRow w.heap.size 3 1 u k (ints (ts.take k)) ∧ Only [] w wr) (fun _ i _ => places.length - (intOf i).toNat)
  case atStart => exact ⟨0, Nat.zero_le _, rfl, World.ownsRow_nil _ _ _ _, (Only.refl [] w).alloc _⟩
  case round =>
    obtain ⟨k, hk, rfl, hown, hO⟩ := hrel
    by_cases hlt : k < places.length
    · obtain ⟨b1, off1, rfl, hb1, hc1⟩ := hel k hlt
      obtain ⟨hp0, hp1⟩ := hx _ (List.getElem_mem hlt)
      obtain ⟨q, hq⟩ := Int.eq_ofNat_of_zero_le hp0
      have hqa : q < s.all.length := by omega
      obtain ⟨b2, rfl, hb2, hc2⟩ := hel2 q hqa
      have ht := ints_take (htk k hlt q hq hqa)
      rw [hq, ← hO.cell hb1 (by simp)] at hc1
      have hc7 := hc2 7 (by omega)
      rw [← hO.cell hb2 (by simp)] at hc7
      have c7 : wr.cell? ⟨b2, q * 8 + 7, none⟩ = some (.int .i64 s.all[q].time) := hc7
      have c0 : wr.cell? ⟨sb, 0, none⟩ = some (.slice (some ⟨b2, 0, none⟩) s.all.length cap2) := (hO.cell hbb (by simp)).trans C0.out
      have hqi : (q : Int) < s.all.length := by omega
      obtain ⟨z, hz⟩ : ∃ z, z = s.all[q].time := ⟨_, rfl⟩
      rw [← hz] at c7 ht
      have HT := Lib.hid ht
      clear hel hel2 hc2 hc7 hz ht hq hx htk
      have htl' := Lib.hid htl
      clear htl
      go_wp2_with (at_builtin; refine wpList_append_own _ rfl (.tmp 15) (.tmp 24) 80 rfl w.heap.size 3 i0 (.int .i64 0) 1 8 Tryz.underlying80 hi hz0 hz1 hz2 rfl (by decide) _ _ _ rfl (World.ownsRow.alloc hown _) ⟨wr.heap.size, 0, none⟩ 1 1 [.int .i64 z] rfl rfl news_one ?c2 ?c3 ?c4 ?c5 ?_)
      case c2 => simp [Value.oneCell']
      case c3 => unfold maxLen; omega
      case c4 => omega
      case c5 => have := hO.size; simp; omega
      intro v' w4 hown' hgrow _
      rw [← HT.out] at hown'
      have ho4 : Only [] w w4 := (hO.alloc _).grown hgrow (fun k hk => .inr (hown.lt k hk).1)
      clear hgrow
      go_wp2
      exact ⟨⟨k + 1, hlt, by simp, hown', ho4⟩, by simp [intOf]; omega⟩
    · have hkl : k = ts.length := by omega
      rw [hkl, List.take_length] at hown
      have htl' := Lib.hid htl
      clear hkl htl htk
      go_wp2
      go_ret
      exact ⟨_, rfl, (Slc.of_own hown).1, hO⟩
end Go.Proofs.YtikboecmcbcghaaGreat
/- Regions that draw their order: plans of many parts, and invariants over all orders; what a call keeps. No program is named. -/
set_option linter.unusedVariables false
set_option linter.unusedSimpArgs false
namespace Go.Proofs.YtikboecmcbcghaaGreat
open Go Go.RowKit Go.Sort
/-! ## what a call keeps: the blocks below a, and those of R -/
structure Keeps (a : World) (R : List Nat) (w w' : World) : Prop where
  ex : ∃ S, Only S w w' ∧ ∀ g ∈ S, a.heap.size ≤ g ∧ g ∉ R
section
variable {a w w' w'' : World} {R R' : List Nat}
theorem Keeps.of0 (h : Only [] w w') : Keeps a R w w' := ⟨[], h, by simp⟩
theorem Keeps.refl (a : World) (R : List Nat) (w : World) : Keeps a R w w := .of0 (Only.refl _ _)
theorem Keeps.trans (h : Keeps a R w w') (k : Keeps a R w' w'') : Keeps a R w w'' := by
  obtain ⟨S, h1, h2⟩ := h
  obtain ⟨T, k1, k2⟩ := k
  refine ⟨S ++ T, (h1.mono (fun g hg => List.mem_append_left _ hg)).trans (k1.mono (fun g hg => List.mem_append_right _ hg)), fun g hg => ?_⟩
  rcases List.mem_append.1 hg with q | q
  · exact h2 g q
  · exact k2 g q
theorem Keeps.then0 (h : Keeps a R w w') (k : Only [] w' w'') : Keeps a R w w'' := h.trans (.of0 k)
theorem Keeps.alloc (h : Keeps a R w w') (o : Obj) : Keeps a R w (w'.alloc o) := h.then0 ((Only.refl _ _).alloc o)
theorem Keeps.drew (h : Keeps a R w w') : Keeps a R w w'.drew := h.then0 (Only.refl _ _).drew
theorem Keeps.setCell (h : Keeps a R w w') {p : Addr} (hp : a.heap.size ≤ p.block ∧ p.block ∉ R) (u : Value) : Keeps a R w (w'.setCell p u) :=
  h.trans ⟨[p.block], (Only.refl _ _).setCell (.inl (by simp)) u, by simpa using hp⟩
theorem Keeps.less (h : Keeps a R w w') (hr : ∀ g ∈ R', g ∈ R) : Keeps a R' w w' := by
  obtain ⟨S, h1, h2⟩ := h
  exact ⟨S, h1, fun g hg => ⟨(h2 g hg).1, fun q => (h2 g hg).2 (hr g q)⟩⟩
theorem Keeps.size (h : Keeps a R w w') : w.heap.size ≤ w'.heap.size := by
  obtain ⟨S, h1, _⟩ := h
  exact h1.size
theorem Keeps.block (h : Keeps a R w w') {g : Nat} (hl : g < w.heap.size) (hg : g < a.heap.size ∨ g ∈ R) : w'.heap[g]? = w.heap[g]? := by
  obtain ⟨S, h1, h2⟩ := h
  refine h1.block g hl fun q => ?_
  have := h2 g q
  rcases hg with hg | hg
  · omega
  · exact this.2 hg
theorem Keeps.blk (h : Keeps a R w w') {g : Nat} {t : TypeId} {cs : Array Value} (hb : Blk w g t cs) (hg : g < a.heap.size ∨ g ∈ R) : Blk w' g t cs := hb.of_eq (h.block hb.lt hg)
theorem Keeps.cell (h : Keeps a R w w') {p : Addr} (hl : p.block < w.heap.size) (hg : p.block < a.heap.size ∨ p.block ∈ R) : w'.cell? p = w.cell? p := World.cell?_of_block (h.block hl hg)
theorem Keeps.slc (h : Keeps a R w w') {size n : Nat} {v : Value} {cs : List Value} (hs : Slc w size v n cs) (hg : ∀ g, v.ownBlock = some g → g < a.heap.size ∨ g ∈ R) : Slc w' size v n cs :=
  hs.keep h.size fun g h1 h2 => h.block h2 (hg g h1)
theorem Keeps.own (h : Keeps a R w w') {base size n : Nat} {e : TypeId} {v : Value} {xs : List Value} (hs : w.ownsRow base e size v n xs) (hg : ∀ g, v.ownBlock = some g → g < a.heap.size ∨ g ∈ R) : w'.ownsRow base e size v n xs := by
  obtain ⟨h1, h2⟩ := hs
  rcases h2 with ⟨rfl, rfl⟩ | ⟨g, cap, cur, rfl, hb, hg', q⟩
  · exact ⟨h1, .inl ⟨rfl, rfl⟩⟩
  · exact ⟨h1, .inr ⟨g, cap, cur, rfl, hb, (h.block (lt_of_block hg') (hg g rfl)).trans hg', q⟩⟩
theorem Keeps.only (h : Keeps a R w w') (ha : Only [] a w) : Only [] a w' := by
  obtain ⟨S, h1, h2⟩ := h
  exact ha.step h1 (fun g hg => .inr (h2 g hg).1)
/-- A world that a call may leave. -/
structure Kept (a : World) (R : List Nat) (w : World) where
  W : World
  h : Keeps a R w W
instance (a : World) (R : List Nat) (w : World) : Nonempty (Kept a R w) := ⟨⟨w, Keeps.refl a R w⟩⟩
theorem Kept.cell {x : Addr} {v : Value} (hc : w.cell? x = some v) (hn : x.block < a.heap.size ∨ x.block ∈ R) (p : Kept a R w) : p.W.cell? x = some v := (p.h.cell (block_lt_of_cell hc) hn).trans hc
end
/-! ## plans of many parts -/
section
variable {P : Program} {md : Region.Mode} {C : World → Prop} {Q : Exit → Act → World → Prop} {l : List Oper}
def stagesTo (md : Region.Mode) (ops : Array Oper) (S : Array Bool → Bool) : List (List Nat × List Nat) → Array Bool → Bool
  | [], listed => S listed
  | (H, A) :: r, listed => headTo md ops (seqTo md ops (stagesTo md ops S r) A) H listed
def wpStages (P : Program) (l : List Oper) (C : World → Prop) (Q : Exit → Act → World → Prop) (K : Act → World → Prop) : List (List Nat × List Nat) → Act → World → Prop
  | [] => K
  | (H, A) :: r => fun a w => wpQuiet P l.toArray C (fun a' => wpT1 P l.toArray C Q (opsAt l A) (wpStages P l C Q K r) a' w) (opsAt l H) a
def stLen : List (List Nat × List Nat) → Nat → Nat
  | [], n => n
  | (H, A) :: r, n => H.length + (A.length + stLen r n)
theorem plan_stages {H T1 : List Nat} {n : Nat} {S : Array Bool → Bool} {K : Act → World → Prop} (hsel : Region.noSelect l.toArray = true) (hQ : ∀ c d u a w, Q (.panic c) (Act.put a d u) w → Q (.panic c) a w)
    (hK : ∀ listed a w, S listed = true → K a w → AnyP P md l.toArray C Q H T1 n listed a w) :
    ∀ (st : List (List Nat × List Nat)) (listed : Array Bool) (a : Act) (w : World), (∀ p ∈ st, (∀ h ∈ p.1, h ∈ H ∧ plainAt l.toArray h = true) ∧ ∀ t ∈ p.2, t ∉ H) → stagesTo md l.toArray S st listed = true → wpStages P l C Q K st a w →
      AnyP P md l.toArray C Q H T1 (stLen st n) listed a w
  | [], listed, a, w, _, hs, h => hK listed a w hs h
  | (H1, A) :: r, listed, a, w, hd, hs, h =>
    plan_Hn (S := seqTo md l.toArray (stagesTo md l.toArray S r) A) hsel hQ
      (fun listed a hs h => plan_A (S := stagesTo md l.toArray S r) (fun listed a w hs h => plan_stages hsel hQ hK r listed a w (fun p hp => hd p (by simp [hp])) hs h) A listed a w (hd (H1, A) (by simp)).2 hs h)
      H1 listed a (hd (H1, A) (by simp)).1 hs h
def stOrder : List (List Nat × List Nat) → List Nat
  | [] => []
  | (H, A) :: r => H ++ (A ++ stOrder r)
def planS (md : Region.Mode) (ops : Array Oper) (st : List (List Nat × List Nat)) (T2 : List Nat) : Bool :=
  (Region.noSelect ops && ((st.flatMap (·.1)).all (plainAt ops) && (st.flatMap (·.2)).all (fun i => !(st.flatMap (·.1)).contains i))) &&
    (((List.range ops.size).all (fun i => (st.flatMap (·.1)).contains i || ((st.flatMap (·.2)).contains i || T2.contains i)) && T2.all (fun i => !(st.flatMap (·.1)).contains i && !(st.flatMap (·.2)).contains i)) &&
      ((st.flatMap (·.1)).all (fun i => (stOrder st).contains i) && (decide (stLen st T2.length = ops.size) && (behindB md ops (stOrder st) T2 && stagesTo md ops (seqL md ops T2) st (Array.replicate ops.size false)))))
theorem wp_region_stages {id : Nat} {a : Act} {w : World} (st : List (List Nat × List Nat)) (T2 : List Nat) (hm : P.follows .mixedOrders = true) (hB : planS .any l.toArray st T2 = true) (hQ : ∀ c d u a w, Q (.panic c) (Act.put a d u) w → Q (.panic c) a w) (hC : C w.drew)
    (h : wpStages P l C Q (fun a w => wpList P l.toArray Q (opsAt l T2) a w) st a w.drew) : (Code.region id l.toArray true).wp P Q a w := by
  simp only [planS, Bool.and_eq_true, decide_eq_true_eq, List.all_eq_true, Bool.or_eq_true, List.contains_iff_mem, Bool.not_eq_true'] at hB
  obtain ⟨⟨hsel, hpl, hd1⟩, ⟨hcov, hd2⟩, hz, hlen, hbe, hst⟩ := hB
  refine wp_region_any hm ?_
  have inv0 : Closed .any l.toArray (Array.replicate l.toArray.size false) := fun j oj _ hl => by rw [getD_replicate_false] at hl; cases hl
  have no : ∀ {L : List Nat} {t : Nat}, L.contains t = false → t ∉ L := fun {L t} h q => by rw [List.contains_eq_mem, decide_eq_true q] at h; cases h
  have := plan_stages (C := C) (md := .any) (H := st.flatMap (·.1)) (T1 := st.flatMap (·.2)) (S := seqL .any l.toArray T2) hsel hQ
    (fun listed a w hs h => plan_T2 T2 listed a w (fun t ht => ⟨no (hd2 t ht).1, no (hd2 t ht).2⟩) hs h) st _ a w.drew
    (fun p hp => ⟨fun x hx => ⟨List.mem_flatMap.2 ⟨p, hp, hx⟩, hpl x (List.mem_flatMap.2 ⟨p, hp, hx⟩)⟩, fun t ht => no (hd1 t (List.mem_flatMap.2 ⟨p, hp, ht⟩))⟩) hst h
  rw [hlen] at this
  exact anyP_anyZ hbe (fun x hx => hz x hx) (fun i hi => by
    rcases hcov i (List.mem_range.2 hi) with q | q | q
    · exact .inl q
    · exact .inr (.inl q)
    · exact .inr (.inr q)) _ _ _ _ inv0 (.inl hC) this
/-! ## an invariant over all orders -/
def reachB (md : Region.Mode) (ops : Array Oper) (T : List Nat) : Nat → Array Bool → Bool
  | 0, listed => (Region.ready md ops listed).isEmpty && T.all fun t => listed.getD t false
  | f + 1, listed => !(Region.ready md ops listed).isEmpty && (Region.ready md ops listed).all fun i => reachB md ops T f (listed.setIfInBounds i true)
def listedOf (n : Nat) (H : List Nat) : Array Bool := H.foldl (fun a i => a.setIfInBounds i true) (Array.replicate n false)
def planI (md : Region.Mode) (ops : Array Oper) (H T : List Nat) : Bool :=
  (Region.noSelect ops && H.all (plainAt ops)) && (((List.range ops.size).all (fun i => H.contains i || T.contains i) && T.all (fun i => !H.contains i)) &&
    (decide (H.length + T.length = ops.size) && headTo md ops (fun listed => decide (listed = listedOf ops.size H) && reachB md ops T T.length listed) H (Array.replicate ops.size false)))
theorem flag_set {listed : Array Bool} {i : Nat} (h : listed.getD i true = false) (j : Nat) : (listed.setIfInBounds i true).getD j false = (decide (i = j) || listed.getD j false) := by
  have hi : i < listed.size := by
    rcases Nat.lt_or_ge i listed.size with q | q
    · exact q
    · simp [Array.getElem?_eq_none q] at h
  by_cases e : i = j
  · subst e
    simp [hi]
  · simp [e, Array.getElem?_setIfInBounds_ne e]
theorem plan_inv {H T : List Nat} {Inv : Array Bool → Act → World → Prop} (hcov : ∀ i, i < l.length → i ∈ H ∨ i ∈ T) (hd : ∀ t ∈ T, t ∉ H)
    (hstep : ∀ i ∈ T, ∀ listed a w, i ∈ Region.ready md l.toArray listed → Inv listed a w → wpList P l.toArray (CheckQ C Q (Inv (listed.setIfInBounds i true))) (opsAt l [i]) a w)
    (hend : ∀ listed a w, Inv listed a w → (∀ t ∈ T, listed.getD t false = true) → Q .normal a w) :
    ∀ (n : Nat) (listed : Array Bool) (a : Act) (w : World), (∀ h ∈ H, listed.getD h false = true) → reachB md l.toArray T n listed = true → Inv listed a w → AnyP P md l.toArray C Q H T n listed a w
  | 0, listed, a, w, _, hr, h => by
    simp only [reachB, Bool.and_eq_true, List.all_eq_true] at hr
    exact ⟨by simpa using hr.1, hend listed a w h hr.2⟩
  | n + 1, listed, a, w, hH, hr, h => by
    simp only [reachB, Bool.and_eq_true, List.all_eq_true, Bool.not_eq_true'] at hr
    refine ⟨fun q => by rw [q] at hr; simp at hr, fun i hi => ?_⟩
    obtain ⟨hun, o, ho, _⟩ := mem_ready.1 hi
    have ho' : l[i]? = some o := by simpa using ho
    have hiH : i ∉ H := fun q => by
      have := hH i q
      rw [getD_both hun] at this
      cases this
    have hlt : i < l.length := (List.getElem?_eq_some_iff.1 ho').1
    have hiT : i ∈ T := (hcov i hlt).resolve_left hiH
    refine .inr ⟨hiH, ?_⟩
    have hs := hstep i hiT listed a w hi h
    rw [opsAt_cons ho'] at hs
    have hw := wpOp_check (i := i) ho hs
    exact wpOp_mono (fun a' w' h' => ⟨fun _ => h'.1, plan_inv hcov hd hstep hend n _ a' w' (fun x hx => getD_set_true (hH x hx)) (hr.2 i hi) h'.2⟩) hw
theorem listedOf_true {H : List Nat} (hpl : ∀ x ∈ H, plainAt l.toArray x = true) : ∀ h ∈ H, (listedOf l.toArray.size H).getD h false = true := by
  have step : ∀ (L : List Nat) (A : Array Bool) (h : Nat), A.size = l.toArray.size → (h ∈ L ∧ h < l.toArray.size ∨ A.getD h false = true) → (L.foldl (fun a i => a.setIfInBounds i true) A).getD h false = true := by
    intro L
    induction L with
    | nil => intro A h _ q; rcases q with ⟨q, _⟩ | q; cases q; exact q
    | cons x L ih =>
      intro A h hs q
      refine ih _ h (by simpa using hs) ?_
      rcases q with ⟨q, hlt⟩ | q
      · rcases List.mem_cons.1 q with rfl | q
        · right
          simp [hs ▸ hlt]
        · exact .inl ⟨q, hlt⟩
      · exact .inr (getD_set_true q)
  intro h hh
  refine step H _ h (by simp) (.inl ⟨hh, ?_⟩)
  have := hpl h hh
  unfold plainAt at this
  split at this
  · rename_i o ho
    exact (Array.getElem?_eq_some_iff.1 ho).1
  · cases this
/-- The invariant is chosen behind the reads. -/
def InvGo (P : Program) (l : List Oper) (C : World → Prop) (Q : Exit → Act → World → Prop) (H T : List Nat) (a0 : Act) (w0 : World) : Prop :=
  ∃ Inv : Array Bool → Act → World → Prop, Inv (listedOf l.toArray.size H) a0 w0 ∧
    (∀ i ∈ T, ∀ listed a w, i ∈ Region.ready .any l.toArray listed → Inv listed a w → wpList P l.toArray (CheckQ C Q (Inv (listed.setIfInBounds i true))) (opsAt l [i]) a w) ∧
    ∀ listed a w, Inv listed a w → (∀ t ∈ T, listed.getD t false = true) → Q .normal a w
theorem inv_intro {H T : List Nat} {a0 : Act} {w0 : World} (I : Act → Array Bool → Act → World → Prop) (h0 : I a0 (listedOf l.toArray.size H) a0 w0)
    (hstep : ∀ i ∈ T, ∀ listed a w, i ∈ Region.ready .any l.toArray listed → I a0 listed a w → wpList P l.toArray (CheckQ C Q (I a0 (listed.setIfInBounds i true))) (opsAt l [i]) a w)
    (hend : ∀ listed a w, I a0 listed a w → (∀ t ∈ T, listed.getD t false = true) → Q .normal a w) : InvGo P l C Q H T a0 w0 := ⟨I a0, h0, hstep, hend⟩
theorem wp_region_inv2 {id : Nat} {a : Act} {w : World} (H T : List Nat) (hm : P.follows .mixedOrders = true) (hB : planI .any l.toArray H T = true) (hQ : ∀ c d u a w, Q (.panic c) (Act.put a d u) w → Q (.panic c) a w) (hC : C w.drew)
    (h : wpQuiet P l.toArray C (fun a' => InvGo P l C Q H T a' w.drew) (opsAt l H) a) : (Code.region id l.toArray true).wp P Q a w := by
  simp only [planI, Bool.and_eq_true, decide_eq_true_eq, List.all_eq_true, Bool.or_eq_true, List.contains_iff_mem, Bool.not_eq_true'] at hB
  obtain ⟨⟨hsel, hpl⟩, ⟨hcov, hd1⟩, hlen, hhd⟩ := hB
  refine wp_region_any hm ?_
  have inv0 : Closed .any l.toArray (Array.replicate l.toArray.size false) := fun j oj _ hl => by rw [getD_replicate_false] at hl; cases hl
  have no : ∀ {L : List Nat} {t : Nat}, L.contains t = false → t ∉ L := fun {L t} h q => by rw [List.contains_eq_mem, decide_eq_true q] at h; cases h
  have hl0 := listedOf_true (l := l) hpl
  have := plan_Hn (C := C) (md := .any) (H := H) (T1 := T) (n := T.length) (S := fun listed => decide (listed = listedOf l.toArray.size H) && reachB .any l.toArray T T.length listed) (L := fun a' => InvGo P l C Q H T a' w.drew) (w := w.drew) hsel hQ
    (fun listed a hs h => by
      simp only [Bool.and_eq_true, decide_eq_true_eq] at hs
      obtain ⟨rfl, hs⟩ := hs
      obtain ⟨Inv, h0, hstep, hend⟩ := h
      exact plan_inv (C := C) (fun i hi => hcov i (by simpa using hi)) (fun t ht => no (hd1 t ht)) hstep hend T.length _ a w.drew hl0 hs h0) H _ a (fun h hh => ⟨hh, hpl h hh⟩) hhd h
  rw [hlen] at this
  exact anyP_any (T2 := []) rfl (fun i hi => by
    rcases hcov i (List.mem_range.2 hi) with q | q
    · exact .inl q
    · exact .inr (.inl q)) _ _ _ _ inv0 (.inl hC) this
/-- What a ready operation tells of the flags. -/
theorem ready_dep {listed : Array Bool} {i : Nat} (hr : i ∈ Region.ready md l.toArray listed) (j : Nat) (hw : Region.waitsFor md l.toArray i j = true) : listed.getD j false = true := by
  obtain ⟨oj, hoj, e, he, hb, hon⟩ := Region.waitsFor_spec hw
  obtain ⟨_, o', ho', hall⟩ := mem_ready.1 hr
  have : o' = oj := Option.some.inj (ho'.symm.trans hoj)
  subst this
  rw [← hon]; exact hall e he hb
theorem ready_self {listed : Array Bool} {i : Nat} (hr : i ∈ Region.ready md l.toArray listed) : listed.getD i false = false ∧ listed.getD i true = false := ⟨getD_both (mem_ready.1 hr).1, (mem_ready.1 hr).1⟩
/-- Behind an early operation: the class Kept. -/
theorem check_kept {a0 : World} {R : List Nat} {w w' : World} {K : Act → World → Prop} {a : Act} (hO : Keeps a0 R w w') (h : K a w') : CheckQ (fun W => ∃ p : Kept a0 R w, W = p.W) Q K .normal a w' := ⟨⟨⟨w', hO⟩, rfl⟩, h⟩
end
end Go.Proofs.YtikboecmcbcghaaGreat
/- A region that draws its order, by a plan with a fork: reads; two early ones, in either order; further early ones; the rest. No program is named. -/
set_option linter.unusedVariables false
set_option linter.unusedSimpArgs false
namespace Go.Proofs.YtikboecmcbcghaaGreat
open Go Go.RowKit Go.Sort
section
variable {P : Program} {md : Region.Mode} {C : World → Prop} {Q : Exit → Act → World → Prop} {l : List Oper}
def forkTo (md : Region.Mode) (ops : Array Oper) (S : Array Bool → Bool) (x y : Nat) (listed : Array Bool) : Bool :=
  (decide (Region.ready md ops listed = [x, y]) || decide (Region.ready md ops listed = [y, x])) && (seqTo md ops S [y] (listed.setIfInBounds x true) && seqTo md ops S [x] (listed.setIfInBounds y true))
theorem plan_fork {H T1 : List Nat} {n : Nat} {S : Array Bool → Bool} {L : Act → World → Prop} (hL : ∀ listed a w, S listed = true → L a w → AnyP P md l.toArray C Q H T1 n listed a w)
    (x y : Nat) (listed : Array Bool) (a : Act) (w : World) (hx : x ∉ H) (hy : y ∉ H) (hs : forkTo md l.toArray S x y listed = true) (h1 : wpT1 P l.toArray C Q (opsAt l [x, y]) L a w) (h2 : wpT1 P l.toArray C Q (opsAt l [y, x]) L a w) :
    AnyP P md l.toArray C Q H T1 (n + 1 + 1) listed a w := by
  simp only [forkTo, Bool.and_eq_true, Bool.or_eq_true, decide_eq_true_eq] at hs
  obtain ⟨hr, s1, s2⟩ := hs
  have hmem : ∀ i, i ∈ Region.ready md l.toArray listed ↔ i = x ∨ i = y := fun i => by
    rcases hr with q | q
    · rw [q]; simp
    · rw [q]; simp [or_comm]
  have step : ∀ u v, u ∉ H → v ∉ H → u ∈ Region.ready md l.toArray listed → seqTo md l.toArray S [v] (listed.setIfInBounds u true) = true → wpT1 P l.toArray C Q (opsAt l [u, v]) L a w →
      (u ∈ H ∧ ∃ o v', l.toArray[u]? = some o ∧ YieldsS P l.toArray C o v' a ∧ AnyP P md l.toArray C Q H T1 (n + 1) (listed.setIfInBounds u true) (a.put o.dst v') w) ∨
      (u ∉ H ∧ wpOp P l.toArray Q u (fun a' w' => (u ∈ T1 → C w') ∧ AnyP P md l.toArray C Q H T1 (n + 1) (listed.setIfInBounds u true) a' w') a w) := by
    intro u v hu hv hmu hs hh
    obtain ⟨_, o, ho, _⟩ := mem_ready.1 hmu
    have ho' : l[u]? = some o := by simpa using ho
    rw [opsAt_cons ho'] at hh
    refine .inr ⟨hu, ?_⟩
    have hw := wpOp_check (i := u) (by simpa using ho') hh
    refine wpOp_mono (fun a' w' h' => ⟨fun _ => h'.1, ?_⟩) hw
    have := plan_A (H := H) (T1 := T1) hL [v] (listed.setIfInBounds u true) a' w' (by simpa using hv) hs h'.2
    rwa [List.length_singleton, Nat.add_comm] at this
  refine ⟨fun q => by (rcases hr with r | r <;> rw [r] at q <;> cases q), fun i hi => ?_⟩
  rcases (hmem i).1 hi with rfl | rfl
  · exact step i y hx hy hi s1 h1
  · exact step i x hy hx hi s2 h2
/-- What the two early ones lead to, in either order; and what follows. -/
def ForkGo (P : Program) (l : List Oper) (C : World → Prop) (Q : Exit → Act → World → Prop) (x y : Nat) (R : Act → World → Prop) (a0 : Act) (w0 : World) : Prop :=
  ∃ M : Act → World → Prop, wpT1 P l.toArray C Q (opsAt l [x, y]) M a0 w0 ∧ wpT1 P l.toArray C Q (opsAt l [y, x]) M a0 w0 ∧ ∀ a w, M a w → R a w
theorem fork_intro {x y : Nat} {R : Act → World → Prop} {a0 : Act} {w0 : World} (M : Act → Act → World → Prop) (h1 : wpT1 P l.toArray C Q (opsAt l [x, y]) (M a0) a0 w0) (h2 : wpT1 P l.toArray C Q (opsAt l [y, x]) (M a0) a0 w0)
    (h3 : ∀ a w, M a0 a w → R a w) : ForkGo P l C Q x y R a0 w0 := ⟨M a0, h1, h2, h3⟩
def planF (md : Region.Mode) (ops : Array Oper) (H : List Nat) (x y : Nat) (T1 T2 : List Nat) : Bool :=
  (Region.noSelect ops && H.all (plainAt ops)) && (((List.range ops.size).all (fun i => H.contains i || ((x :: y :: T1).contains i || T2.contains i)) && ((x :: y :: (T1 ++ T2)).all (fun i => !H.contains i) && T2.all (fun i => !(x :: y :: T1).contains i))) &&
    (decide (H.length + ((T1 ++ T2).length + 1 + 1) = ops.size) && (behindB md ops (H ++ (x :: y :: T1)) T2 && headTo md ops (forkTo md ops (seqL md ops (T1 ++ T2)) x y) H (Array.replicate ops.size false))))
theorem wp_region_fork {id : Nat} {a : Act} {w : World} (S H : List Nat) (x y : Nat) (T1 T2 : List Nat) (hm : P.follows .mixedOrders = true) (hB : planF .any l.toArray H x y T1 T2 = true) (hQ : ∀ c d u a w, Q (.panic c) (Act.put a d u) w → Q (.panic c) a w)
    (h : wpQuiet P l.toArray (fun W => ∃ p : Within S w, W = p.W) (fun a' => ForkGo P l (fun W => ∃ p : Within S w, W = p.W) Q x y (wpT1 P l.toArray (fun W => ∃ p : Within S w, W = p.W) Q (opsAt l T1) (fun a w => wpList P l.toArray Q (opsAt l T2) a w)) a' w.drew) (opsAt l H) a) : (Code.region id l.toArray true).wp P Q a w := by
  simp only [planF, Bool.and_eq_true, decide_eq_true_eq, List.all_eq_true, Bool.or_eq_true, List.contains_iff_mem, Bool.not_eq_true'] at hB
  obtain ⟨⟨hsel, hpl⟩, ⟨hcov, hd1, hd2⟩, hlen, hbe, hhd⟩ := hB
  refine wp_region_any hm ?_
  have inv0 : Closed .any l.toArray (Array.replicate l.toArray.size false) := fun j oj _ hl => by rw [getD_replicate_false] at hl; cases hl
  have hd1' : ∀ t ∈ x :: y :: (T1 ++ T2), t ∉ H := fun t ht q => by
    have := hd1 t ht
    rw [List.contains_eq_mem, decide_eq_true q] at this
    cases this
  have hd2' : ∀ t ∈ T2, t ∉ x :: y :: T1 := fun t ht q => by
    have := hd2 t ht
    rw [List.contains_eq_mem, decide_eq_true q] at this
    cases this
  have h2 : ∀ t ∈ T2, t ∉ H ∧ t ∉ x :: y :: T1 := fun t ht => ⟨hd1' t (by simp [ht]), hd2' t ht⟩
  have := plan_Hn (C := fun W => ∃ p : Within S w, W = p.W) (md := .any) (H := H) (T1 := x :: y :: T1) (S := forkTo .any l.toArray (seqL .any l.toArray (T1 ++ T2)) x y) hsel hQ
    (fun listed a hs hl => by
      obtain ⟨M, m1, m2, m3⟩ := hl
      exact plan_fork (S := seqL .any l.toArray (T1 ++ T2)) (L := M) (fun listed a w hs hM => plan_T1 h2 T1 listed a w (fun t ht => hd1' t (by simp [ht])) hs (m3 a w hM)) x y listed a w.drew (hd1' x (by simp)) (hd1' y (by simp)) hs m1 m2) H _ a (fun h hh => ⟨hh, hpl h hh⟩) hhd h
  rw [hlen] at this
  exact anyP_anyZ hbe (fun x hx => by simp [hx]) (fun i hi => by
    rcases hcov i (List.mem_range.2 hi) with q | q | q
    · exact .inl q
    · exact .inr (.inl q)
    · exact .inr (.inr q)) _ _ _ _ inv0 (.inl ⟨⟨_, (Only.refl S w).drew⟩, rfl⟩) this
end
end Go.Proofs.YtikboecmcbcghaaGreat
/- Opening a law's arguments: slices of strings, of integers and of structs as plain lists. -/
set_option linter.unusedVariables false
set_option linter.unusedSimpArgs false
namespace Go.Proofs.YtikboecmcbcghaaGreat
open Go.ChangeShapes Go.WideShapes Go.ChangeAt Go.RowKit Go.WideElems Go.ChangeMaps Go.Deep
theorem own : ownKnob Tryz.prog.godebug = none := by kernel_rfl
section
variable {H : Type} {enc : TypeId × Value → H} {P : Program} {W : World} {base : Nat} {t e : TypeId} {v : Value} {d : DataW H} {ps : List MemPlace}
end
section
variable {H : Type} {enc : TypeId × Value → H} {P : Program} {W : World} {t e : TypeId}
end
end Go.Proofs.YtikboecmcbcghaaGreat
/- Contracts: floorOf, put, keep. -/
set_option linter.unusedVariables false
set_option linter.unusedSimpArgs false
namespace Go.Proofs.YtikboecmcbcghaaGreat
open Go.RowKit
set_option maxHeartbeats 2000000 in
theorem floorOf_any {w : World} {M : List Nat} {sb mb : Nat} {av pv : Value} {pf : ByteArray → Value} {s : MS} {x : StreamR} (h : StAt w M sb mb av pf s) (hn : 0 ≤ s.now ∧ s.now ≤ 1099511627776) (hp : Slc w 1 pv x.places.length (ints x.places))
    (hx : ∀ p ∈ x.places, 0 ≤ p ∧ p < s.all.length) (hl : x.places.length ≤ 1000000000) (hm : x.mt.ok = true) (hf : 0 ≤ x.floor ∧ x.floor ≤ x.places.length) :
    Calls Tryz.prog 40 #[.pointer (some ⟨sb, 0, none⟩), x.val pv] w fun e w' => e = .returned (.int .i64 (s.floorOf x)) ∧ Only [] w w' := by
  obtain ⟨A, cap, hpv, _⟩ := hp.openI
  have htl := times_len s.all x
  have hW : Only [] w (w.alloc (.cells #[pv, .int .i64 x.mt.maxCount, .int .i64 x.mt.maxAge, .int .i64 x.mt.before, .int .i64 x.floor, .bool x.deleted] 82)).drew := ((Only.refl [] w).alloc _).drew
  have HT := Lib.hid (times_any (h.only0 hW) (hp.only0 hW) hx hl)
  have HF := Lib.hid (fun (W : World) (v : Value) (hv : Slc W 1 v (times s.all x).length (ints (times s.all x))) => floor_any (m := x.mt) (floor := x.floor) (now := s.now) hv ⟨hn.1, by omega⟩ hm ⟨hf.1, by omega⟩ (by omega))
  have c3 : w.cell? ⟨sb, 3, none⟩ = some (.int .i64 s.now) := h.blk.cell 3
  have hbl := h.blk.lt
  have HN : Hid (s.floorOf x = floorE x.mt x.floor s.now (times s.all x)) := rfl
  obtain ⟨nw, hnw⟩ : ∃ nw, nw = s.now := ⟨_, rfl⟩
  rw [← hnw] at c3 HN HF
  obtain ⟨ts, hts⟩ : ∃ ts, ts = times s.all x := ⟨_, rfl⟩
  rw [← hts] at HT HF HN
  clear htl hn hts hnw
  rw [HN.out]
  subst hpv
  obtain ⟨places, ⟨a, b, d⟩, fl, del⟩ := x
  simp only [StreamR.val, MetaR.val] at HT HF hW HN ⊢
  clear hf hm hx hp HN
  go_enter Tryz.func40, Tryz.ntmps40
  go_wp2_with fail
  go_region_held3 (fun w' => w'.cell? ⟨w.heap.size, 0, none⟩ = some (.slice A places.length cap) ∧ w'.cell? ⟨w.heap.size, 1, none⟩ = some (.int .i64 a) ∧ w'.cell? ⟨w.heap.size, 2, none⟩ = some (.int .i64 b) ∧ w'.cell? ⟨w.heap.size, 3, none⟩ = some (.int .i64 d) ∧
      w'.cell? ⟨w.heap.size, 4, none⟩ = some (.int .i64 fl) ∧ w'.cell? ⟨w.heap.size, 5, none⟩ = some (.bool del) ∧ w'.cell? ⟨sb, 3, none⟩ = some (.int .i64 nw))
    (first | go_keep | (go_split_ands; refine ⟨?_, ?_, ?_, ?_, ?_, ?_, ?_⟩ <;> (rw [ho1.cell (block_lt_of_cell (by assumption)) (by simp)]; assumption)) | (go_split_ands; refine ⟨?_, ?_, ?_, ?_, ?_, ?_, ?_⟩ <;> (rw [ho2.cell (block_lt_of_cell (by assumption)) (by simp)]; assumption)))
    (first
      | (go_at_call 109; refine HT.out.mono ?_; rintro e w1 ⟨v1, rfl, hv1, ho1⟩)
      | (go_at_call 108; refine (HF.out _ _ hv1).mono ?_; rintro e w2 ⟨rfl, ho2⟩))
  go_wp2
  go_ret
  exact ⟨rfl, (hW.trans ho1).trans ho2⟩
set_option maxRecDepth 100000 in
theorem put_any {w : World} {M : List Nat} {sb mb : Nat} {av pv : Value} {pf : ByteArray → Value} {s : MS} {x : StreamR} (h : StAt w M sb mb av pf s) (n : ByteArray) (hp : Rd M w 1 pv x.places.length (ints x.places)) :
    Calls Tryz.prog 115 #[.pointer (some ⟨sb, 0, none⟩), .string n, x.val pv] w fun e w' => e = .returned (.tuple #[]) ∧ StAt w' M sb mb av (fun k => if k = n then pv else pf k) (s.put n x) ∧ Only [mb] w w' := by
  obtain ⟨A, cap, hpv, _⟩ := hp.1.openI
  have hfin : ∀ w', MapIs Value.string w' mb (aput (s.m.map fun p => (p.1, p.2.val (pf p.1))) n (x.val pv)) → Only [mb] w w' → StAt w' M sb mb av (fun k => if k = n then pv else pf k) (s.put n x) := by
    intro w' hm hO
    refine ⟨hO.blk h.blk (by simp; exact fun e => h.ne e.symm), own_only h.own hO (fun g hg => by simp; exact (h.ownne g hg).2), ?_, fun k y hy => ?_, h.inM, fun g hg => Nat.lt_of_lt_of_le (h.mlt g hg) hO.size⟩
    · rw [aput_mapk (fun k x => StreamR.val x (pf k)) (fun k x => StreamR.val x (if k = n then pv else pf k)) s.m h.nodup n x (x.val pv) (by simp) (fun a ha => by funext y; rw [if_neg ha])] at hm
      exact hm
    · have hk := aget_of_mem (aput_nodup h.nodup n x) hy
      rw [aget_aput] at hk
      by_cases e : n = k
      · subst e
        rw [if_pos rfl] at hk
        injection hk with hk
        subst hk
        simp only [if_true]
        exact hp.only hO (by simp; exact h.inM.2.1)
      · rw [if_neg e] at hk
        rw [if_neg (fun q => e q.symm)]
        exact (h.pl k y (aget_mem hk)).only hO (by simp; exact h.inM.2.1)
  have HF := Lib.hid hfin
  have c1 : ∀ o, (w.alloc o).cell? ⟨sb, 1, none⟩ = some (.map (some mb)) := fun o => (World.cell?_alloc_lt w o _ h.blk.lt).trans (h.blk.cell 1)
  have hne := fun w => run_eql_map_nil (P := Tryz.prog) w 75 _ _ (some mb) Tryz.underlying75
  have hM : ∀ o, MapIs Value.string (w.alloc o).drew mb (s.m.map fun p => (p.1, p.2.val (pf p.1))) := fun o => (h.map.alloc o).drew
  clear hfin
  subst hpv
  obtain ⟨places, ⟨a, b, d⟩, fl, del⟩ := x
  simp only [StreamR.val] at HF ⊢
  clear hp
  go_enter Tryz.func115, Tryz.ntmps115
  go_wp2
  refine wp_region_stail 6 (by kernel_rfl) (by kernel_rfl) ?_
  simp only [List.take_succ_cons, List.take_zero, List.drop_succ_cons, List.drop_zero]
  repeat still_step
  refine wpStill_nil ?_
  refine wpList_update_is rfl 75 rfl keyEnc_string Tryz.underlying75 Tryz.underlying9 n (.agg #[.slice A places.length cap, .int .i64 a, .int .i64 b, .int .i64 d, .int .i64 fl, .bool del]) (by rfl) (by rfl) (by rfl) (hM _) ?_
  intro w5 hm5 hu5
  have hO : Only [mb] w w5 := (((Only.refl [mb] w).alloc _).drew).trans hu5
  have hF := HF.out w5 hm5 hO
  go_wp2
  go_end0
  exact ⟨rfl, hF, hO⟩
end Go.Proofs.YtikboecmcbcghaaGreat
/- Contracts: keep, first, wrong, again. -/
set_option linter.unusedVariables false
set_option linter.unusedSimpArgs false
namespace Go.Proofs.YtikboecmcbcghaaGreat
open Go.RowKit
/-- A stream that may be looked at with the state s. -/
structure XOk (s : MS) (x : StreamR) : Prop where
  mt : x.mt.ok = true
  fl : 0 ≤ x.floor ∧ x.floor ≤ x.places.length
  pl : ∀ p ∈ x.places, 0 ≤ p ∧ p < s.all.length
  few : x.places.length ≤ s.all.length
theorem MS.Ok.xok {s : MS} {N : Nat} (h : s.Ok N) (n : ByteArray) : XOk s (s.find n) := by
  obtain ⟨h1, h2, h3, h4, h5⟩ := h.find n
  exact ⟨h1, ⟨h2, h3⟩, h5, h4⟩
theorem floorE_bd (m : MetaR) (f now : Int) (ts : List Int) : 0 ≤ floorE m f now ts ∧ floorE m f now ts ≤ ts.length := by
  unfold floorE
  dsimp only
  have h1 : 0 ≤ max (max f 0) m.before := by omega
  generalize max (max f 0) m.before = o1 at *
  have h2 : 0 ≤ (if 0 < m.maxCount then max o1 (ts.length - m.maxCount) else o1) := by split <;> omega
  generalize (if 0 < m.maxCount then max o1 (ts.length - m.maxCount) else o1) = o2 at *
  have h3 : 0 ≤ (if 0 < m.maxAge then max o2 (young m.maxAge now ts) else o2) := by split <;> omega
  generalize (if 0 < m.maxAge then max o2 (young m.maxAge now ts) else o2) = o3 at *
  omega
theorem floorOf_bd (s : MS) (x : StreamR) : 0 ≤ s.floorOf x ∧ s.floorOf x ≤ x.places.length := by
  have := floorE_bd x.mt x.floor s.now (times s.all x)
  rw [times_len] at this
  exact this
theorem keep_any {w : World} {M : List Nat} {sb mb N : Nat} {av pv : Value} {pf : ByteArray → Value} {s : MS} {x : StreamR} (h : StAt w M sb mb av pf s) (hn : 0 ≤ s.now ∧ s.now ≤ 1099511627776) (ha : s.all.length ≤ 1000000000) (hx : XOk s x) (n : ByteArray)
    (hp : Rd M w 1 pv x.places.length (ints x.places)) :
    Calls Tryz.prog 42 #[.pointer (some ⟨sb, 0, none⟩), .string n, x.val pv] w fun e w' => e = .returned (.tuple #[]) ∧ StAt w' M sb mb av (fun k => if k = n then pv else pf k) (s.keep n x) ∧ Only [mb] w w' := by
  obtain ⟨A, cap, hpv, _⟩ := hp.1.openI
  have hl : x.places.length ≤ 1000000000 := Nat.le_trans hx.few ha
  have hW : Only [] w (w.alloc (.cells #[pv, .int .i64 x.mt.maxCount, .int .i64 x.mt.maxAge, .int .i64 x.mt.before, .int .i64 x.floor, .bool x.deleted] 82)) := (Only.refl [] w).alloc _
  have HF := Lib.hid (floorOf_any (h.only0 hW) hn (hp.1.only0 hW) hx.pl hl hx.mt hx.fl)
  have HP := Lib.hid (fun (W : World) (hw : Only [] w W) => put_any (x := { x with floor := s.floorOf x }) (h.only0 hw) n (hp.only0 hw))
  obtain ⟨fo, hfo⟩ : ∃ fo, fo = s.floorOf x := ⟨_, rfl⟩
  have HK : Hid (s.keep n x = s.put n { x with floor := fo }) := by rw [hfo]; rfl
  rw [← hfo] at HF HP
  rw [HK.out]
  clear hn hfo HK hx hl
  subst hpv
  obtain ⟨places, ⟨a, b, d⟩, fl, del⟩ := x
  simp only [StreamR.val] at HF HP hW ⊢
  clear hp
  go_enter Tryz.func42, Tryz.ntmps42
  go_wp2_with (first
    | (go_at_call 40; refine HF.out.mono ?_; rintro e w1 ⟨rfl, ho1⟩; have hc1 := fun i => (ho1.blk (Blk.new w 82 _) (by simp)).cell i; have hf1 := fun i => (ho1.blk (Blk.new w 82 _) (by simp)).free i)
    | (go_at_call 115; refine (HP.out _ ((hW.trans ho1).setCell (.inr (Nat.le_refl _)) _)).mono ?_; rintro e w2 ⟨rfl, hs2, ho2⟩))
  go_end0
  exact ⟨rfl, hs2, (((hW.trans ho1).setCell (.inr (Nat.le_refl _)) _).of_nil).trans ho2⟩
theorem wrong_any {w : World} {pv : Value} {x : StreamR} (hp : Slc w 1 pv x.places.length (ints x.places)) (hl : x.places.length ≤ 1000000000) :
    Calls Tryz.prog 111 #[x.val pv] w fun e w' => e = .returned (wrong x).val ∧ Only [] w w' := by
  obtain ⟨A, cap, rfl, _⟩ := hp.openI
  obtain ⟨places, ⟨a, b, d⟩, fl, del⟩ := x
  simp only [StreamR.val, wrong, Ans.val] at hl ⊢
  clear hp
  go_enter Tryz.func111, Tryz.ntmps111
  go_wp2
  exact bodyPost_ret (v := .agg #[.int .i64 22, .int .i64 ((places.length : Int) - 1), .int .i64 0, .bool false]) (by simp [results, Tryz.results111, go_sem]) rfl ⟨rfl, ((Only.refl [] w).alloc _).alloc _⟩
end Go.Proofs.YtikboecmcbcghaaGreat
/- Contracts: first, again. -/
set_option linter.unusedVariables false
set_option linter.unusedSimpArgs false
namespace Go.Proofs.YtikboecmcbcghaaGreat
open Go.RowKit
theorem idAt_nat {all : List StoredR} {q : Nat} (h : q < all.length) : idAt all (q : Int) = all[q].ev.id := by simp [idAt, h]
set_option maxRecDepth 100000 in
theorem first1_any {w : World} {M : List Nat} {sb mb b3 b5 : Nat} {av : Value} {pf : ByteArray → Value} {s : MS} {p id : Int} (h : StAt w M sb mb av pf s) (hp : 0 ≤ p ∧ p < s.all.length)
    (h3 : w.cell? ⟨b3, 0, none⟩ = some (.pointer (some ⟨sb, 0, none⟩))) (h5 : w.cell? ⟨b5, 0, none⟩ = some (.int .i64 id)) :
    Calls Tryz.prog 146 #[.int .i64 p, .pointer (some ⟨b3, 0, none⟩), .pointer (some ⟨b5, 0, none⟩)] w fun e w' => e = .returned (.bool (decide (idAt s.all p = id))) ∧ Only [] w w' := by
  obtain ⟨A2, cap2, rfl, hnc2, hcm2, hel2⟩ := h.cell
  unfold maxLen at hcm2
  obtain ⟨q, rfl⟩ := Int.eq_ofNat_of_zero_le hp.1
  have hq : q < s.all.length := by omega
  obtain ⟨b2, rfl, hb2, hc2⟩ := hel2 q hq
  have c0 : w.cell? ⟨sb, 0, none⟩ = some (.slice (some ⟨b2, 0, none⟩) s.all.length cap2) := h.blk.cell 0
  have ci : w.cell? ⟨b2, q * 8, none⟩ = some (.int .i64 s.all[q].ev.id) := hc2 0 (by omega)
  rw [idAt_nat hq]
  obtain ⟨z, hz⟩ : ∃ z, z = s.all[q].ev.id := ⟨_, rfl⟩
  rw [← hz] at ci ⊢
  have hqi : (q : Int) < s.all.length := by omega
  clear hz hc2 hel2
  by_cases he : z = id
  · have hb : (z == id) = true := by simpa using he
    have HR : Hid (decide (z = id) = true) := by unfold Hid; simpa using he
    clear he
    go_enter Tryz.func146, Tryz.ntmps146
    go_wp2
    refine wp_region_stail 11 (by kernel_rfl) (by kernel_rfl) ?_
    simp only [List.take_succ_cons, List.take_zero, List.drop_succ_cons, List.drop_zero]
    repeat still_step
    refine wpStill_nil ?_
    go_wp2
    go_ret
    exact ⟨ret_b (by rw [HR.out]), (Only.refl [] w).drew⟩
  · have hb : (z == id) = false := by simpa using he
    have HR : Hid (decide (z = id) = false) := by unfold Hid; simpa using he
    clear he
    go_enter Tryz.func146, Tryz.ntmps146
    go_wp2
    refine wp_region_stail 11 (by kernel_rfl) (by kernel_rfl) ?_
    simp only [List.take_succ_cons, List.take_zero, List.drop_succ_cons, List.drop_zero]
    repeat still_step
    refine wpStill_nil ?_
    go_wp2
    go_ret
    exact ⟨ret_b (by rw [HR.out]), (Only.refl [] w).drew⟩
theorem firstOf_drop (all : List StoredR) (id : Int) (ps : List Int) (k : Nat) (h : k < ps.length) (i : Int) : firstOf all id (ps.drop k) i = if idAt all ps[k] = id then i else firstOf all id (ps.drop (k + 1)) (i + 1) := by
  rw [List.drop_eq_getElem_cons h]
  rfl
theorem idx_any {w : World} {M : List Nat} {sb mb b3 b5 : Nat} {av pv : Value} {pf : ByteArray → Value} {s : MS} {ps : List Int} {id : Int} (h : StAt w M sb mb av pf s) (hp : Slc w 1 pv ps.length (ints ps)) (hx : ∀ p ∈ ps, 0 ≤ p ∧ p < s.all.length)
    (h3 : w.cell? ⟨b3, 0, none⟩ = some (.pointer (some ⟨sb, 0, none⟩))) (h5 : w.cell? ⟨b5, 0, none⟩ = some (.int .i64 id)) :
    Calls Tryz.prog 145 #[pv, .func (.func 146) #[] #[.pointer (some ⟨b3, 0, none⟩), .pointer (some ⟨b5, 0, none⟩)]] w fun e w' => e = .returned (.int .i64 (firstOf s.all id ps 0)) ∧ Only [] w w' := by
  obtain ⟨A, cap, rfl, hnc, hcm, hel⟩ := hp.openI
  unfold maxLen at hcm
  have l3 := block_lt_of_cell h3
  have l5 := block_lt_of_cell h5
  have HC := Lib.hid (fun (W : World) (hw : Only [] w W) (p : Int) (hp : p ∈ ps) => first1_any (p := p) (id := id) (h.only0 hw) (hx p hp) ((hw.cell l3 (by simp)).trans h3) ((hw.cell l5 (by simp)).trans h5))
  clear h3 h5 hx hp
  go_enter Tryz.func145, Tryz.ntmps145
  go_wp2
  go_loopw [8] (fun i wr => ∃ k : Nat, k ≤ ps.length ∧ i = .int .i64 k ∧ Hid (firstOf s.all id ps 0 = firstOf s.all id (ps.drop k) k) ∧ Only [] w wr) (fun i _ => ps.length - (intOf i).toNat)
  case atStart => exact ⟨0, Nat.zero_le _, rfl, rfl, Only.refl _ _⟩
  case round =>
    obtain ⟨k, hk, rfl, hT, hO⟩ := hrel
    by_cases hlt : k < ps.length
    · obtain ⟨b1, off1, rfl, hb1, hc1⟩ := hel k hlt
      rw [← hO.cell hb1 (by simp)] at hc1
      have hd := firstOf_drop s.all id ps k hlt k
      have hcl := HC.out wr hO ps[k] (List.getElem_mem hlt)
      obtain ⟨p, hp⟩ : ∃ p, p = ps[k] := ⟨_, rfl⟩
      rw [← hp] at hc1 hd hcl
      by_cases he : idAt s.all p = id
      · have HR : Hid (firstOf s.all id ps 0 = k) := by unfold Hid; rw [hT.out, hd, if_pos he]
        rw [decide_eq_true he] at hcl
        have HCL := Lib.hid hcl
        clear hcl hd hp he hel
        go_wp2_with (go_at_call 146; refine HCL.out.mono ?_; rintro e w1 ⟨rfl, ho1⟩)
        go_ret
        exact ⟨ret_i (by rw [HR.out]), hO.trans ho1⟩
      · have HR : Hid (firstOf s.all id ps 0 = firstOf s.all id (ps.drop (k + 1)) ((k + 1 : Nat) : Int)) := by unfold Hid; rw [hT.out, hd, if_neg he]; simp
        rw [decide_eq_false he] at hcl
        have HCL := Lib.hid hcl
        clear hcl hd hp he hel
        go_wp2_with (go_at_call 146; refine HCL.out.mono ?_; rintro e w1 ⟨rfl, ho1⟩)
        exact ⟨⟨k + 1, hlt, by simp, HR, hO.trans ho1⟩, by simp [intOf]; omega⟩
    · have HR : Hid (firstOf s.all id ps 0 = -1) := by
        unfold Hid
        rw [hT.out, List.drop_of_length_le (by omega)]
        rfl
      go_wp2
      go_ret
      exact ⟨ret_i (by rw [HR.out]), hO⟩
theorem first_any {w : World} {M : List Nat} {sb mb : Nat} {av pv : Value} {pf : ByteArray → Value} {s : MS} {x : StreamR} (id : Int) (h : StAt w M sb mb av pf s) (hx : XOk s x) (hp : Slc w 1 pv x.places.length (ints x.places)) :
    Calls Tryz.prog 112 #[.pointer (some ⟨sb, 0, none⟩), x.val pv, .int .i64 id] w fun e w' => e = .returned (.int .i64 (s.first x id)) ∧ Only [] w w' := by
  obtain ⟨A, cap, hpv, _⟩ := hp.openI
  have HI := Lib.hid (fun (W : World) (hw : Only [] w W) (h3 : W.cell? ⟨w.heap.size, 0, none⟩ = some (.pointer (some ⟨sb, 0, none⟩))) (h5 : W.cell? ⟨w.heap.size + 1 + 1, 0, none⟩ = some (.int .i64 id)) => idx_any (id := id) (h.only0 hw) (hp.only0 hw) hx.pl h3 h5)
  unfold MS.first
  subst hpv
  obtain ⟨places, ⟨a, b, d⟩, fl, del⟩ := x
  simp only [StreamR.val] at HI ⊢
  clear hp hx
  have hW : ∀ o1 o2 o3, Only [] w (((w.alloc o1).alloc o2).alloc o3) := fun o1 o2 o3 => (((Only.refl [] w).alloc _).alloc _).alloc _
  have q3 : ∀ v t o2 o3, (((w.alloc (.cells #[v] t)).alloc o2).alloc o3).cell? ⟨w.heap.size, 0, none⟩ = some v := fun v t o2 o3 => ((((Only.refl [] _).alloc o2).alloc o3).blk (Blk.new w t #[v]) (by simp)).cell 0
  have q5 : ∀ v t o1 o2, (((w.alloc o1).alloc o2).alloc (.cells #[v] t)).cell? ⟨w.heap.size + 1 + 1, 0, none⟩ = some v := fun v t o1 o2 => by
    have := (Blk.new ((w.alloc o1).alloc o2) t #[v]).cell 0
    simpa using this
  go_enter Tryz.func112, Tryz.ntmps112
  go_wp2_with (go_at_call 145; refine (HI.out _ (hW _ _ _) (q3 _ _ _ _) (q5 _ _ _ _)).mono ?_; rintro e w1 ⟨rfl, ho1⟩)
  go_ret
  exact ⟨rfl, (hW _ _ _).trans ho1⟩
end Go.Proofs.YtikboecmcbcghaaGreat
/- Contract: again. -/
set_option linter.unusedVariables false
set_option linter.unusedSimpArgs false
namespace Go.Proofs.YtikboecmcbcghaaGreat
open Go.RowKit
theorem sameIds_drop (all : List StoredR) (es : List EventR) (ps : List Int) (k v : Nat) (hk : k < es.length) (hp : v + k < ps.length) :
    sameIds all (es.drop k) (ps.drop (v + k)) = (decide (idAt all ps[v + k] = es[k].id) && sameIds all (es.drop (k + 1)) (ps.drop (v + (k + 1)))) := by
  rw [List.drop_eq_getElem_cons hk, List.drop_eq_getElem_cons hp]
  rfl
set_option maxRecDepth 100000 in
set_option maxHeartbeats 4000000 in
theorem again_any {w : World} {M : List Nat} {sb mb v : Nat} {av pv ev : Value} {pf : ByteArray → Value} {s : MS} {x : StreamR} {c : Cmd} (h : StAt w M sb mb av pf s) (hx : XOk s x) (hp : Slc w 1 pv x.places.length (ints x.places))
    (he : Slc w 4 ev c.events.length (c.events.flatMap EventR.cells)) (hl : x.places.length ≤ 1000000000) (hel : 1 ≤ c.events.length ∧ c.events.length ≤ 8) (hv : v ≤ x.places.length) :
    Calls Tryz.prog 113 #[.pointer (some ⟨sb, 0, none⟩), c.val ev, x.val pv, .int .i64 v] w fun e w' => e = .returned (s.again c x v).val ∧ Only [] w w' := by
  obtain ⟨A, cap, hpv, hn1, hn2, hps⟩ := hp.openI
  obtain ⟨A1, cap1, hev, hn3, hn4, hes⟩ := he.openE EventR.cells (fun _ => rfl)
  obtain ⟨A2, cap2, rfl, hnc2, hcm2, hel2⟩ := h.cell
  unfold maxLen at hn2 hn4 hcm2
  have HWr := Lib.hid (fun (W : World) (hw : Only [] w W) => wrong_any (x := x) (hp.only0 hw) hl)
  have hW : Hid ((fitsAgain c v = false ∨ (x.places.length : Int) - v < c.events.length) → s.again c x v = wrong x) := fun q => by unfold MS.again; rw [if_pos q]
  have hG : Hid (fitsAgain c v = true → ¬ ((x.places.length : Int) - v < c.events.length) → s.again c x v = if sameIds s.all c.events (x.places.drop v) then ⟨0, v, (x.places[((v : Int) + c.events.length - 1).toNat]?).getD 0, true⟩ else wrong x) := fun q1 q2 => by
    unfold MS.again
    rw [if_neg (by simp only [q1]; simp; omega)]
    simp
  have hpl := hx.pl
  have c0 : w.cell? ⟨sb, 0, none⟩ = some (.slice A2 s.all.length cap2) := h.blk.cell 0
  have C0 := Lib.hid c0
  have hsb := h.blk.lt
  have h000 : ∀ o1 o2 o3, Only [] w (((w.alloc o1).alloc o2).alloc o3) := fun o1 o2 o3 => (((Only.refl [] w).alloc _).alloc _).alloc _
  have bC : ∀ cs t o2 o3, Blk (((w.alloc (.cells cs t)).alloc o2).alloc o3) w.heap.size t cs := fun cs t o2 o3 => (((Only.refl [] _).alloc o2).alloc o3).blk (Blk.new w t cs) (by simp)
  have bX : ∀ cs t o1 o3, Blk (((w.alloc o1).alloc (.cells cs t)).alloc o3) (w.heap.size + 1) t cs := fun cs t o1 o3 => by
    have := ((Only.refl [] _).alloc o3).blk (Blk.new (w.alloc o1) t cs) (by simp)
    simpa using this
  have bA : ∀ o1 o2, Blk (((w.alloc o1).alloc o2).alloc (.cells #[.int .i64 0, .int .i64 0, .int .i64 0, .bool false] 54)) (w.heap.size + 1 + 1) 54 #[.int .i64 0, .int .i64 0, .int .i64 0, .bool false] := fun o1 o2 => by
    have := Blk.new ((w.alloc o1).alloc o2) 54 #[.int .i64 0, .int .i64 0, .int .i64 0, .bool false]
    simpa using this
  subst hpv hev
  obtain ⟨places, ⟨a, b, d⟩, fl, del⟩ := x
  obtain ⟨kind, time, stream, ex, l, ⟨a1, b1, d1⟩⟩ := c
  simp only [StreamR.val, Cmd.val] at HWr hW hG hps hes hpl hl hel hv hn1 hn3 ⊢
  simp only [wrong, Ans.val] at HWr
  obtain ⟨hel1, hel8⟩ := hel
  clear hp he hx c0
  obtain ⟨res, hres⟩ : ∃ res, res = s.again ⟨kind, time, stream, ex, l, ⟨a1, b1, d1⟩⟩ ⟨places, ⟨a, b, d⟩, fl, del⟩ v := ⟨_, rfl⟩
  rw [← hres] at hW hG ⊢
  clear hres
  go_enter Tryz.func113, Tryz.ntmps113
  go_upto_region 1 with (fail)
  go_cut [9] (fun s9 wx => s9 = .bool (fitsAgain ⟨kind, time, stream, ex, l, ⟨a1, b1, d1⟩⟩ v) ∧ Only [] w wx ∧ Blk wx w.heap.size 47 #[.int .i64 kind, .int .i64 time, .string stream, .int .i64 ex, .slice A1 l.length cap1, .int .i64 a1, .int .i64 b1, .int .i64 d1] ∧
    Blk wx (w.heap.size + 1) 82 #[.slice A places.length cap, .int .i64 a, .int .i64 b, .int .i64 d, .int .i64 fl, .bool del] ∧ Blk wx (w.heap.size + 1 + 1) 54 #[.int .i64 0, .int .i64 0, .int .i64 0, .bool false])
  case first =>
    cases h2 : (ex == -2)
    · have g2 : ¬ ex = -2 := by simpa using h2
      cases h4 : (ex == -4)
      · have g4 : ¬ ex = -4 := by simpa using h4
        cases h1 : (ex == -1)
        · have g1 : ¬ ex = -1 := by simpa using h1
          cases hv1 : (ex == (v : Int) - 1)
          · have gv : ¬ ex = (v : Int) - 1 := by simpa using hv1
            have hr : Hid (fitsAgain ⟨kind, time, stream, ex, l, ⟨a1, b1, d1⟩⟩ v = false) := by unfold Hid; simp [fitsAgain]; omega
            go_wp2_with fail
            go_meet
            refine ⟨?_, h000 _ _ _, bC _ _ _ _, bX _ _ _ _, bA _ _⟩
            rw [hr.out]
          · have gv : ex = (v : Int) - 1 := by simpa using hv1
            have h0 : 0 < v := by omega
            have hr : Hid (fitsAgain ⟨kind, time, stream, ex, l, ⟨a1, b1, d1⟩⟩ v = true) := by unfold Hid; simp [fitsAgain]; omega
            clear gv
            go_wp2_with fail
            go_meet
            refine ⟨?_, h000 _ _ _, bC _ _ _ _, bX _ _ _ _, bA _ _⟩
            rw [hr.out]
        · have g1 : ex = -1 := by simpa using h1
          cases hv1 : (ex == (v : Int) - 1)
          · have gv : ¬ ex = (v : Int) - 1 := by simpa using hv1
            have hz : ((v : Int) == 0) = false := by rw [beq_eq_false_iff_ne]; omega
            have hz' : (v == 0) = false := by rw [beq_eq_false_iff_ne]; omega
            have hr : Hid (fitsAgain ⟨kind, time, stream, ex, l, ⟨a1, b1, d1⟩⟩ v = false) := by unfold Hid; simp [fitsAgain]; omega
            clear gv g1
            go_wp2_with fail
            go_meet
            refine ⟨?_, h000 _ _ _, bC _ _ _ _, bX _ _ _ _, bA _ _⟩
            rw [hr.out]
          · have gv : ex = (v : Int) - 1 := by simpa using hv1
            have h0 : ¬ 0 < v := by omega
            have hz : ((v : Int) == 0) = true := by rw [beq_iff_eq]; omega
            have hz' : (v == 0) = true := by rw [beq_iff_eq]; omega
            have hr : Hid (fitsAgain ⟨kind, time, stream, ex, l, ⟨a1, b1, d1⟩⟩ v = true) := by unfold Hid; simp [fitsAgain]; omega
            have h0' : decide (0 < v) = false := by simpa using h0
            clear gv g1 h0
            go_wp2_with fail
            go_meet
            refine ⟨?_, h000 _ _ _, bC _ _ _ _, bX _ _ _ _, bA _ _⟩
            rw [hr.out]
      · have g4 : ex = -4 := by simpa using h4
        have hr : Hid (fitsAgain ⟨kind, time, stream, ex, l, ⟨a1, b1, d1⟩⟩ v = true) := by unfold Hid; simp [fitsAgain]; omega
        clear g4
        go_wp2_with fail
        go_meet
        refine ⟨?_, h000 _ _ _, bC _ _ _ _, bX _ _ _ _, bA _ _⟩
        rw [hr.out]
    · have g2 : ex = -2 := by simpa using h2
      have hr : Hid (fitsAgain ⟨kind, time, stream, ex, l, ⟨a1, b1, d1⟩⟩ v = true) := by unfold Hid; simp [fitsAgain]; omega
      clear g2
      go_wp2_with fail
      go_meet
      refine ⟨?_, h000 _ _ _, bC _ _ _ _, bX _ _ _ _, bA _ _⟩
      rw [hr.out]
  case rest =>
    obtain ⟨rfl, hO, BC, BX, BA⟩ := hcut
    have hC := fun i => BC.cell i
    have hX := fun i => BX.cell i
    have hA := fun i => BA.cell i
    have hAf := fun i => BA.free i
    cases hf : fitsAgain ⟨kind, time, stream, ex, l, ⟨a1, b1, d1⟩⟩ v
    · have hE := hW.out (.inl hf)
      go_wp2_with (go_at_call 111; refine (HWr.out _ (hO)).mono ?_; rintro e w2 ⟨rfl, ho2⟩; have hA2 := fun i => (((Only.refl [] wc).trans ho2).blk BA (by simp)).cell i; have hAf2 := fun i => (((Only.refl [] wc).trans ho2).blk BA (by simp)).free i)
      exact bodyPost_ret (v := .agg #[.int .i64 22, .int .i64 ((places.length : Int) - 1), .int .i64 0, .bool false]) (by simp [results, Tryz.results113, go_sem, hA2]) rfl ⟨by rw [hE]; rfl, by repeat (first | exact (hO).trans ho2 | refine Only.setCell ?_ (.inr (by simp; omega)) _)⟩
    · by_cases hlen : (places.length : Int) - v < l.length
      · have hE := hW.out (.inr hlen)
        go_wp2_with (go_at_call 111; refine (HWr.out _ (hO)).mono ?_; rintro e w2 ⟨rfl, ho2⟩; have hA2 := fun i => (((Only.refl [] wc).trans ho2).blk BA (by simp)).cell i; have hAf2 := fun i => (((Only.refl [] wc).trans ho2).blk BA (by simp)).free i)
        exact bodyPost_ret (v := .agg #[.int .i64 22, .int .i64 ((places.length : Int) - 1), .int .i64 0, .bool false]) (by simp [results, Tryz.results113, go_sem, hA2]) rfl ⟨by rw [hE]; rfl, by repeat (first | exact (hO).trans ho2 | refine Only.setCell ?_ (.inr (by simp; omega)) _)⟩
      · have hE := Lib.hid (hG.out hf hlen)
        have hsf := stF
        go_wp2_with fail
        clear hC hX hA hAf
        go_loopw [58] (fun i wr => ∃ k : Nat, k ≤ l.length ∧ i = .int .i64 k ∧ Hid (sameIds s.all l (places.drop v) = sameIds s.all (l.drop k) (places.drop (v + k))) ∧ Only [] wc wr) (fun i _ => l.length - (intOf i).toNat)
        case atStart => exact ⟨0, Nat.zero_le _, rfl, rfl, Only.refl _ _⟩
        case round =>
          obtain ⟨k, hk, rfl, hT, hOr⟩ := hrel
          have hO' := hO.trans hOr
          have s0 : wr.cell? ⟨sb, 0, none⟩ = some (.slice A2 s.all.length cap2) := (hO'.cell hsb (by simp)).trans C0.out
          have hC := fun i => (hOr.blk BC (by simp)).cell i
          have hX := fun i => (hOr.blk BX (by simp)).cell i
          have hA := fun i => (hOr.blk BA (by simp)).cell i
          have hAf := fun i => (hOr.blk BA (by simp)).free i
          by_cases hlt : k < l.length
          · have hvk : v + k < places.length := by omega
            obtain ⟨be, offe, rfl, hbe, hce⟩ := hes k hlt
            obtain ⟨bp, offp, rfl, hbp, hcp⟩ := hps (v + k) hvk
            obtain ⟨hp0, hp1⟩ := hpl _ (List.getElem_mem hvk)
            obtain ⟨q, hq⟩ := Int.eq_ofNat_of_zero_le hp0
            have hqa : q < s.all.length := by omega
            obtain ⟨b2, rfl, hb2, hc2⟩ := hel2 q hqa
            have sd := sameIds_drop s.all l places k v hlt hvk
            rw [hq, idAt_nat hqa] at sd
            rw [hq, ← hO'.cell hbp (by simp)] at hcp
            have i0 : wr.cell? ⟨b2, q * 8, none⟩ = some (.int .i64 s.all[q].ev.id) := (hO'.cell hb2 (by simp)).trans (hc2 0 (by omega))
            obtain ⟨y, hy⟩ : ∃ y, y = l[k] := ⟨_, rfl⟩
            obtain ⟨z, hz⟩ : ∃ z, z = s.all[q].ev.id := ⟨_, rfl⟩
            rw [← hy] at hce sd
            rw [← hz] at i0 sd
            have e0 : wr.cell? ⟨be, offe + k * 4, none⟩ = some (.int .i64 y.id) := (hO'.cell hbe (by simp)).trans (hce 0 (by omega))
            have e1 : wr.cell? ⟨be, offe + k * 4 + 1, none⟩ = some (.string y.type) := (hO'.cell hbe (by simp)).trans (hce 1 (by omega))
            have e2 : wr.cell? ⟨be, offe + k * 4 + 2, none⟩ = some (.string y.data) := (hO'.cell hbe (by simp)).trans (hce 2 (by omega))
            have e3 : wr.cell? ⟨be, offe + k * 4 + 3, none⟩ = some (.float .f64 y.value) := (hO'.cell hbe (by simp)).trans (hce 3 (by omega))
            have hqi : (q : Int) < s.all.length := by omega
            have hvi : (v : Int) + k < places.length := by omega
            have s0a := fun o => (World.cell?_alloc_lt wr o _ (block_lt_of_cell s0)).trans s0
            have pa := fun o => (World.cell?_alloc_lt wr o _ (block_lt_of_cell hcp)).trans hcp
            have ia := fun o => (World.cell?_alloc_lt wr o _ (block_lt_of_cell i0)).trans i0
            have hXa := fun o i => (((Only.refl [] wr).alloc o).blk (hOr.blk BX (by simp)) (by simp)).cell i
            clear hy hz hq hce hc2 hes hps hel2 hpl
            by_cases heq : z = y.id
            · have hne : (z != y.id) = false := by simpa using heq
              have HS : Hid (sameIds s.all l (places.drop v) = sameIds s.all (l.drop (k + 1)) (places.drop (v + (k + 1)))) := by unfold Hid; rw [hT.out, sd, decide_eq_true heq, Bool.true_and]
              clear heq sd
              go_wp2_with fail
              have hw2 : (0 : Int) ≤ (v : Int) + k := by omega
              have hw3 : ((v : Int) + k).toNat = v + k := by omega
              have hw1 := IntWalk.i64_in ((v : Int) + k) ⟨by omega, by omega⟩
              refine wp_region_stail 17 (by kernel_rfl) (by kernel_rfl) ?_
              simp only [List.take_succ_cons, List.take_zero, List.drop_succ_cons, List.drop_zero]
              repeat still_step
              refine wpStill_nil ?_
              clear hw1 hw2 hw3
              go_wp2
              exact ⟨⟨k + 1, hlt, by simp, HS, (hOr.alloc _).drew⟩, by simp [intOf]; omega⟩
            · have hne : (z != y.id) = true := by simpa using heq
              have HS : res = wrong ⟨places, ⟨a, b, d⟩, fl, del⟩ := by rw [hE.out, hT.out, sd, decide_eq_false heq, Bool.false_and]; rfl
              have HS' := Lib.hid HS
              clear heq sd HS
              go_wp2_with fail
              have hw2 : (0 : Int) ≤ (v : Int) + k := by omega
              have hw3 : ((v : Int) + k).toNat = v + k := by omega
              have hw1 := IntWalk.i64_in ((v : Int) + k) ⟨by omega, by omega⟩
              refine wp_region_stail 17 (by kernel_rfl) (by kernel_rfl) ?_
              simp only [List.take_succ_cons, List.take_zero, List.drop_succ_cons, List.drop_zero]
              repeat still_step
              refine wpStill_nil ?_
              clear hw1 hw2 hw3
              go_wp2_with (go_at_call 111; refine (HWr.out _ ((hO'.alloc _).drew)).mono ?_; rintro e w2 ⟨rfl, ho2⟩; have hA2 := fun i => (((hOr.alloc _).drew.trans ho2).blk BA (by simp)).cell i; have hAf2 := fun i => (((hOr.alloc _).drew.trans ho2).blk BA (by simp)).free i)
              exact bodyPost_ret (v := .agg #[.int .i64 22, .int .i64 ((places.length : Int) - 1), .int .i64 0, .bool false]) (by simp [results, Tryz.results113, go_sem, hA2]) rfl ⟨by rw [HS'.out]; rfl, by repeat (first | exact ((hO'.alloc _).drew).trans ho2 | refine Only.setCell ?_ (.inr (by simp; omega)) _)⟩
          · have hkl : k = l.length := by omega
            have hvk : v + l.length - 1 < places.length := by omega
            obtain ⟨bp, offp, rfl, hbp, hcp⟩ := hps (v + l.length - 1) hvk
            rw [← hO'.cell hbp (by simp)] at hcp
            have HS : res = ⟨0, v, places[v + l.length - 1], true⟩ := by
              rw [hE.out, hT.out, hkl, List.drop_length]
              have : (((v : Int) + l.length - 1)).toNat = v + l.length - 1 := by omega
              rw [this]
              simp [sameIds, hvk]
            obtain ⟨pz, hpz⟩ : ∃ pz, pz = places[v + l.length - 1] := ⟨_, rfl⟩
            rw [← hpz] at hcp HS
            have HS' := Lib.hid HS
            have hvi : (v : Int) + l.length - 1 < places.length := by omega
            have hvi0 : 0 ≤ (v : Int) + l.length - 1 := by omega
            have htn : ((v : Int) + l.length - 1).toNat = v + l.length - 1 := by omega
            clear hpz hkl HS hps
            go_wp2
            exact bodyPost_ret (v := .agg #[.int .i64 0, .int .i64 v, .int .i64 pz, .bool true]) (by simp [results, Tryz.results113, go_sem, hA]) rfl ⟨by rw [HS'.out]; rfl, by repeat (first | exact hO' | refine Only.setCell ?_ (.inr (by simp; omega)) _)⟩
end Go.Proofs.YtikboecmcbcghaaGreat
/- Contracts: Clone of ints; append. -/
set_option linter.unusedVariables false
set_option linter.unusedSimpArgs false
namespace Go.Proofs.YtikboecmcbcghaaGreat
open Go.RowKit
set_option maxRecDepth 100000 in
theorem cloneI_any {w : World} {pv : Value} {zs : List Int} (h : Slc w 1 pv zs.length (ints zs)) (hb : zs.length ≤ 1000000000) :
    Calls Tryz.prog 147 #[pv] w fun e w' => ∃ v', e = .returned v' ∧ w'.ownsRow w.heap.size 3 1 v' zs.length (ints zs) ∧ Only [] w w' := by
  obtain ⟨i0, hi, hz0, hz1, hz2⟩ := info_parts infoI
  obtain ⟨A, cap, rfl, hnc, hcm, hl, hc⟩ := h.cell
  have hq := fun W a n c n' c' => Lib.run_eql_slice_nil (P := Tryz.prog) W 80 _ a n c n' c' Tryz.underlying80
  cases A with
  | none =>
    have h0 : zs = [] := by
      rcases hc with q | ⟨b, off, q, _⟩
      · exact List.length_eq_zero_iff.1 q
      · cases q
    subst h0
    go_enter Tryz.func147, Tryz.ntmps147
    go_wp2
    go_ret
    exact ⟨_, rfl, World.ownsRow_nil _ _ _ _, Only.refl _ _⟩
  | some ad =>
    obtain ⟨b, off, sp⟩ := ad
    have hcell : ∀ j u, (ints zs)[j]? = some u → (w.alloc (.cells #[] 3)).cell? ((⟨b, off, sp⟩ : Addr).add j) = some u := by
      intro j u hu
      have hj : j < (ints zs).length := (List.getElem?_eq_some_iff.1 hu).1
      rcases hc with q | ⟨b', off', q, hb', hcc⟩
      · rw [hl] at hj; omega
      · cases q
        have := hcc j hj
        rw [hu] at this
        rw [show ((⟨b, off, none⟩ : Addr).add j) = ⟨b, off + j, none⟩ by simp [Addr.add]]
        exact (World.cell?_alloc_lt w _ ⟨b, off + j, none⟩ hb').trans this
    have hcl : (ints zs).length = zs.length * 1 := hl
    unfold maxLen at hcm
    clear hl hc
    go_enter Tryz.func147, Tryz.ntmps147
    go_wp2_with (at_builtin; refine wpList_append_own _ rfl (.tmp 5) (.tmp 6) 80 rfl w.heap.size 3 i0 (.int .i64 0) 1 8 Tryz.underlying80 hi hz0 hz1 hz2 rfl (by decide) _ 0 [] rfl (World.ownsRow_made w #[] 0 (Nat.le_refl _) (Nat.zero_le _) rfl) ⟨b, off, sp⟩ zs.length cap (ints zs) rfl hcl hcell ?c2 ?c3 ?c4 ?c5 ?_)
    case c2 => intro u hu; unfold ints at hu; obtain ⟨z, _, rfl⟩ := List.mem_map.1 hu; rfl
    case c3 => unfold maxLen; omega
    case c4 => omega
    case c5 => simp
    intro v' w4 hown' hgrow _
    have hown2 : w4.ownsRow w.heap.size 3 1 v' zs.length (ints zs) := by simpa using hown'
    have ho4 : Only [] w w4 := ((Only.refl [] w).alloc _).grown hgrow (fun k hk => .inr (by cases hk; exact Nat.le_refl _))
    clear hgrow
    go_wp2
    go_ret
    exact ⟨_, rfl, hown2, ho4⟩
end Go.Proofs.YtikboecmcbcghaaGreat
/- Contract: append. -/
set_option linter.unusedVariables false
set_option linter.unusedSimpArgs false
namespace Go.Proofs.YtikboecmcbcghaaGreat
open Go.RowKit
theorem infoSt : (Tryz.prog.info? 66).map (fun i => (i.zero, i.size, i.bytes)) = some (some (.agg #[.int .i64 0, .string ⟨#[]⟩, .string ⟨#[]⟩, .float .f64 0, .string ⟨#[]⟩, .int .i64 0, .int .i64 0, .int .i64 0]), 8, 88) := by kernel_rfl
theorem own_form {w : World} {base size n : Nat} {e : TypeId} {v : Value} {xs : List Value} (h : w.ownsRow base e size v n xs) : ∃ A cap, v = .slice A n cap ∧ n ≤ cap ∧ cap ≤ maxLen := by
  obtain ⟨_, h2⟩ := h
  rcases h2 with ⟨rfl, rfl⟩ | ⟨g, cap, cur, rfl, hb, hg, hn, hc, _⟩
  · exact ⟨none, 0, rfl, Nat.le_refl _, Nat.zero_le _⟩
  · exact ⟨_, cap, rfl, hn, hc⟩
theorem own_base {w : World} {base base' size n : Nat} {e : TypeId} {v : Value} {xs : List Value} (h : w.ownsRow base e size v n xs) (hb : base' ≤ base) : w.ownsRow base' e size v n xs := by
  obtain ⟨h1, h2⟩ := h
  rcases h2 with q | ⟨g, cap, cur, q1, q2, q3⟩
  · exact ⟨h1, .inl q⟩
  · exact ⟨h1, .inr ⟨g, cap, cur, q1, Nat.le_trans hb q2, q3⟩⟩
theorem own_some {w : World} {base size n : Nat} {e : TypeId} {v : Value} {xs : List Value} (h : w.ownsRow base e size v n xs) (h0 : 0 < n) : ∃ g cap cur, v = .slice (some ⟨g, 0, none⟩) n cap ∧ base ≤ g ∧ Blk w g e cur := by
  obtain ⟨_, h2⟩ := h
  rcases h2 with ⟨rfl, rfl⟩ | ⟨g, cap, cur, rfl, hb, hg, _⟩
  · omega
  · exact ⟨g, cap, cur, rfl, hb, hg⟩
theorem own_type {w : World} {base size n : Nat} {e : TypeId} {v : Value} {xs : List Value} (h : w.ownsRow base e size v n xs) {g : Nat} (hg : v.ownBlock = some g) : ∃ cur, Blk w g e cur := by
  obtain ⟨_, h2⟩ := h
  rcases h2 with ⟨rfl, rfl⟩ | ⟨g', cap, cur, rfl, hb, hg', _⟩
  · cases hg
  · cases hg; exact ⟨cur, hg'⟩
theorem news_blk {w : World} {g : Nat} {e : TypeId} {us : List Value} (hb : Blk w g e us.toArray) : ∀ j x, us[j]? = some x → w.cell? ((⟨g, 0, none⟩ : Addr).add j) = some x := by
  intro j x hx
  rw [Addr.add_lit, Nat.zero_add, hb.cell j]
  simpa using hx
theorem wpList_append_lies {P : Program} {w : World} {ops : Array Oper} {rest : List Oper} {o : Oper} {a : Act} {Q : Exit → Act → World → Prop} (hgd : o.guard = none) (s x : Operand) (t : TypeId)
    (ho : o.op = .call { callee := .builtin .append, args := #[s, x], argTypes := #[t, t] })
    (base : Nat) (e : TypeId) (i : TypeInfo) (z : Value) (size bytes : Nat) (ht : P.underlying t = some (.slice e)) (hi : P.info? e = some i) (hz : i.zero = some z)
    (hsize : i.size = size) (hby : i.bytes = bytes) (hzs : z.cells.size = size) (hsz : 0 < size)
    (v : Value) (n : Nat) (xs : List Value) (hs : a.eval s = v) (hown : w.ownsRow base e size v n xs)
    (ad : Addr) (m c : Nat) (news : List Value) (hx : a.eval x = .slice (some ad) m c) (hl : news.length = m * size) (hnews : ∀ j u, news[j]? = some u → w.cell? (ad.add j) = some u) (h1 : ∀ u ∈ news, u.oneCell' = true)
    (hm : 0 < m) (h63 : n + m ≤ maxLen) (hbytes : (n + m) * bytes ≤ 140737488355328) (hbase : base ≤ w.heap.size)
    (h : ∀ g cap w', w'.ownsRow base e size (.slice (some ⟨g, 0, none⟩) (n + m) cap) (n + m) (xs ++ news) → w.grownBy w' v.ownBlock → (v.ownBlock = some g ∨ g = w.heap.size) → g < w'.heap.size → wpList P ops Q rest (a.put o.dst (.slice (some ⟨g, 0, none⟩) (n + m) cap)) w') :
    wpList P ops Q (o :: rest) a w :=
  wpList_plain hgd fun _ hK => wp_append_lies w s x t ho base e i z size bytes ht hi hz hsize hby hzs hsz v n xs hs hown ad m c news hx hl hnews h1 hm h63 hbytes hbase w.heap.size rfl fun g cap w' q1 q2 q3 q4 => hK _ _ (h g cap w' q1 q2 q3 q4)
theorem size_setCell (w : World) (p : Addr) (v : Value) : (w.setCell p v).heap.size = w.heap.size := by simp [World.setCell]
theorem news_set {w : World} {p : Addr} {v u : Value} {e : TypeId} : ∀ j x, [u][j]? = some x → ((w.setCell p v).alloc (.cells #[u] e)).cell? ((⟨w.heap.size, 0, none⟩ : Addr).add j) = some x := by
  intro j x hx
  have hb := Blk.new (w.setCell p v) e #[u]
  rw [size_setCell] at hb
  exact news_blk hb j x hx
def stOne (stream : ByteArray) (now : Int) (e : EventR) (v at_ : Int) : StoredR := ⟨e.canon, stream, v, at_, now⟩
theorem storedOf_take (stream : ByteArray) (now : Int) : ∀ (l : List EventR) (k : Nat) (h : k < l.length) (v at_ : Int), storedOf stream now (l.take (k + 1)) v at_ = storedOf stream now (l.take k) v at_ ++ [stOne stream now l[k] (v + k) (at_ + k)]
  | [], k, h, _, _ => absurd h (Nat.not_lt_zero _)
  | e :: l, 0, h, v, at_ => by simp [storedOf, stOne]
  | e :: l, k + 1, h, v, at_ => by
    have := storedOf_take stream now l k (by simpa using h) (v + 1) (at_ + 1)
    rw [List.take_succ_cons, List.take_succ_cons]
    simp only [storedOf, List.cons_append, List.getElem_cons_succ]
    rw [this]
    have e1 : v + 1 + (k : Int) = v + ((k + 1 : Nat) : Int) := by omega
    have e2 : at_ + 1 + (k : Int) = at_ + ((k + 1 : Nat) : Int) := by omega
    rw [e1, e2]
theorem storedOf_len (stream : ByteArray) (now : Int) : ∀ (l : List EventR) (v at_ : Int), (storedOf stream now l v at_).length = l.length
  | [], _, _ => rfl
  | e :: l, v, at_ => by simp [storedOf, storedOf_len stream now l]
theorem rangeFrom_succ : ∀ (k : Nat) (a : Int), rangeFrom (k + 1) a = rangeFrom k a ++ [a + k]
  | 0, a => by simp [rangeFrom]
  | k + 1, a => by
    show a :: rangeFrom (k + 1) (a + 1) = _
    rw [rangeFrom_succ k (a + 1)]
    simp only [rangeFrom, List.cons_append, List.cons.injEq, true_and]
    have e1 : a + 1 + (k : Int) = a + ((k + 1 : Nat) : Int) := by omega
    rw [e1]
theorem rangeFrom_len : ∀ (k : Nat) (a : Int), (rangeFrom k a).length = k
  | 0, _ => rfl
  | k + 1, a => by simp [rangeFrom, rangeFrom_len k]
theorem append_ans (s : MS) (c : Cmd) (x : StreamR) {k : Nat} (hk : k = c.events.length) : (s.append c x).1.val = .agg #[.int .i64 0, .int .i64 x.places.length, .int .i64 ((s.all.length : Int) + k - 1), .bool false] := by subst hk; rfl
theorem append_st (s : MS) (c : Cmd) (x : StreamR) (pv : Value) : (s.append c x).2.1.val pv = .agg #[pv, .int .i64 x.mt.maxCount, .int .i64 x.mt.maxAge, .int .i64 x.mt.before, .int .i64 x.floor, .bool x.deleted] := rfl
theorem append_s (s : MS) (c : Cmd) (x : StreamR) : (s.append c x).2.2 = { s with all := s.all ++ storedOf c.stream s.now c.events x.places.length s.all.length } := rfl
theorem append_p (s : MS) (c : Cmd) (x : StreamR) : (s.append c x).2.1.places = x.places ++ rangeFrom c.events.length s.all.length := rfl
/-- What stands at the head of a round of append: k events are in. -/
structure ApAt (w wr : World) (sb mb k : Nat) (av avr pvr ev : Value) (s : MS) (c : Cmd) (x : StreamR) : Prop where
  only : Only (sb :: av.ownBlock.toList) w wr
  blkS : Blk wr sb 77 #[avr, .map (some mb), .int .i64 s.done, .int .i64 s.now]
  own : wr.ownsRow 0 66 8 avr (s.all.length + k) ((s.all ++ storedOf c.stream s.now (c.events.take k) x.places.length s.all.length).flatMap StoredR.cells)
  pown : wr.ownsRow w.heap.size 3 1 pvr (x.places.length + k) (ints (x.places ++ rangeFrom k s.all.length))
  avb : ∀ g, avr.ownBlock = some g → av.ownBlock = some g ∨ w.heap.size ≤ g
  bC : Blk wr w.heap.size 47 #[.int .i64 c.kind, .int .i64 c.time, .string c.stream, .int .i64 c.expected, ev, .int .i64 c.mt.maxCount, .int .i64 c.mt.maxAge, .int .i64 c.mt.before]
  bX : Blk wr (w.heap.size + 1) 82 #[pvr, .int .i64 x.mt.maxCount, .int .i64 x.mt.maxAge, .int .i64 x.mt.before, .int .i64 x.floor, .bool x.deleted]
  bA : Blk wr (w.heap.size + 1 + 1) 54 #[.int .i64 0, .int .i64 0, .int .i64 0, .bool false]
  bY : Blk wr (w.heap.size + 1 + 1 + 1) 82 #[.slice none 0 0, .int .i64 0, .int .i64 0, .int .i64 0, .int .i64 0, .bool false]
set_option maxRecDepth 100000 in
set_option maxHeartbeats 4000000 in
theorem append_any {w : World} {M : List Nat} {sb mb : Nat} {av pv ev : Value} {pf : ByteArray → Value} {s : MS} {x : StreamR} {c : Cmd} (h : StAt w M sb mb av pf s) (hx : XOk s x) (hp : Rd M w 1 pv x.places.length (ints x.places))
    (he : Rd M w 4 ev c.events.length (c.events.flatMap EventR.cells)) (hl : s.all.length ≤ 1000000) (hel : 1 ≤ c.events.length ∧ c.events.length ≤ 8) (hn : 0 ≤ s.now ∧ s.now ≤ 1099511627776) :
    Calls Tryz.prog 114 #[.pointer (some ⟨sb, 0, none⟩), c.val ev, x.val pv] w fun e w' => ∃ pv' avr, e = .returned (.tuple #[(s.append c x).1.val, (s.append c x).2.1.val pv']) ∧
      StAt w' (avr.ownBlock.toList ++ M) sb mb avr pf (s.append c x).2.2 ∧ Rd (avr.ownBlock.toList ++ M) w' 1 pv' (s.append c x).2.1.places.length (ints (s.append c x).2.1.places) ∧ Only (hM sb mb av) w w' ∧ (∀ g, avr.ownBlock = some g → av.ownBlock = some g ∨ w.heap.size ≤ g) ∧ (∀ g, pv'.ownBlock = some g → w.heap.size ≤ g) := by
  obtain ⟨A, cap, hpv, hn1, hn2, hps⟩ := hp.1.openI
  obtain ⟨A1, cap1, hev, hn3, hn4, hes⟩ := he.1.openE EventR.cells (fun _ => rfl)
  obtain ⟨i0, hi, hz0, hz1, hz2⟩ := info_parts infoI
  obtain ⟨j0, hj, hy0, hy1, hy2⟩ := info_parts infoSt
  unfold maxLen at hn2 hn4
  have hfew := hx.few
  have hsb := h.blk.lt
  have evM : ∀ g, ev.ownBlock = some g → g ∉ sb :: av.ownBlock.toList ∨ c.events.length = 0 := fun g hg => by
    rcases he.2 g hg with q | q
    · left
      intro q2
      simp at q2
      rcases q2 with rfl | q2
      · exact q.1 h.inM.1
      · exact q.1 (h.inM.2.2 g q2)
    · exact .inr q
  have hCl := Lib.hid (fun (W : World) (hw : Only [] w W) => cloneI_any (hp.1.only0 hw) (by omega))
  have hsf := stF
  have h0 : ∀ o1 o2 o3 o4, Only [] w ((((w.alloc o1).alloc o2).alloc o3).alloc o4) := fun o1 o2 o3 o4 => ((((Only.refl [] w).alloc _).alloc _).alloc _).alloc _
  have kC : ∀ cs t o2 o3 o4, Blk ((((w.alloc (.cells cs t)).alloc o2).alloc o3).alloc o4) w.heap.size t cs := fun cs t o2 o3 o4 => ((((Only.refl [] _).alloc o2).alloc o3).alloc o4).blk (Blk.new w t cs) (by simp)
  have kX : ∀ cs t o1 o3 o4, Blk ((((w.alloc o1).alloc (.cells cs t)).alloc o3).alloc o4) (w.heap.size + 1) t cs := fun cs t o1 o3 o4 => by
    have := (((Only.refl [] _).alloc o3).alloc o4).blk (Blk.new (w.alloc o1) t cs) (by simp)
    simpa using this
  have kA : ∀ cs t o1 o2 o4, Blk ((((w.alloc o1).alloc o2).alloc (.cells cs t)).alloc o4) (w.heap.size + 1 + 1) t cs := fun cs t o1 o2 o4 => by
    have := ((Only.refl [] _).alloc o4).blk (Blk.new ((w.alloc o1).alloc o2) t cs) (by simp)
    simpa using this
  have kY : ∀ cs t o1 o2 o3, Blk ((((w.alloc o1).alloc o2).alloc o3).alloc (.cells cs t)) (w.heap.size + 1 + 1 + 1) t cs := fun cs t o1 o2 o3 => by
    have := Blk.new (((w.alloc o1).alloc o2).alloc o3) t cs
    simpa using this
  subst hpv hev
  obtain ⟨hel1, hel8⟩ := hel
  obtain ⟨R, hR⟩ : ∃ R, R = s.append c x := ⟨_, rfl⟩
  rw [← hR]
  rw [show c.val (.slice A1 c.events.length cap1) = .agg #[.int .i64 c.kind, .int .i64 c.time, .string c.stream, .int .i64 c.expected, .slice A1 c.events.length cap1, .int .i64 c.mt.maxCount, .int .i64 c.mt.maxAge, .int .i64 c.mt.before] from rfl,
    show x.val (.slice A x.places.length cap) = .agg #[.slice A x.places.length cap, .int .i64 x.mt.maxCount, .int .i64 x.mt.maxAge, .int .i64 x.mt.before, .int .i64 x.floor, .bool x.deleted] from rfl]
  have HR := Lib.hid hR
  clear hR
  go_enter Tryz.func114, Tryz.ntmps114
  go_wp2_with (go_at_call 147; refine (hCl.out _ (h0 _ _ _ _)).mono ?_; rintro e w1 ⟨v1, rfl, hown1, ho1⟩; obtain ⟨Av, capv, rfl, hv1, hv2⟩ := own_form hown1; have hX1 := fun i => (ho1.blk (kX _ _ _ _ _) (by simp)).cell i; have hXf1 := fun i => (ho1.blk (kX _ _ _ _ _) (by simp)).free i; have hC1 := fun i => (ho1.blk (kC _ _ _ _ _) (by simp)).cell i)
  have hcl : Hid (c.events.length = c.events.length) := rfl
  go_loopw [22] (fun i wr => ∃ (k : Nat) (avr pvr : Value), k ≤ c.events.length ∧ i = .int .i64 k ∧ ApAt w wr sb mb k av avr pvr (.slice A1 c.events.length cap1) s c x) (fun i _ => c.events.length - (intOf i).toNat)
  case atStart =>
    refine ⟨0, av, .slice Av x.places.length capv, Nat.zero_le _, rfl, ?_⟩
    have hO1 : Only [] w w1 := (h0 _ _ _ _).trans ho1
    have hO2 := hO1.setCell (p := ⟨w.heap.size + 1, 0, none⟩) (.inr (by simp)) (.slice Av x.places.length capv)
    have hO3 : Only [w.heap.size + 1] w1 (w1.setCell ⟨w.heap.size + 1, 0, none⟩ (.slice Av x.places.length capv)) := (Only.refl _ w1).setCell (.inl (by simp)) _
    have hown1' := own_base hown1 (base' := w.heap.size) (by simp; omega)
    refine ⟨hO2.of_nil, hO2.blk h.blk (by simp), ?_, ?_, fun g hg => .inl hg, hO3.blk (ho1.blk (kC _ _ _ _ _) (by simp)) (by simp <;> omega), (ho1.blk (kX _ _ _ _ _) (by simp)).set 0 _, hO3.blk (ho1.blk (kA _ _ _ _ _) (by simp)) (by simp <;> omega), hO3.blk (ho1.blk (kY _ _ _ _ _) (by simp)) (by simp <;> omega)⟩
    · have := own_only h.own hO2 (by simp)
      simpa [storedOf] using this
    · have := own_only hown1' hO3 (fun g hg => by have := (hown1.lt g hg).1; simp at this; simp; omega)
      simpa [rangeFrom] using this
  case round =>
    obtain ⟨k, avr, pvr, hk, rfl, hA⟩ := hrel
    obtain ⟨Ar, capr, rfl, har1, har2⟩ := own_form hA.own
    obtain ⟨Pr, pcap, rfl, hpr1, hpr2⟩ := own_form hA.pown
    have s0 : wr.cell? ⟨sb, 0, none⟩ = some (.slice Ar (s.all.length + k) capr) := hA.blkS.cell 0
    have s3 : wr.cell? ⟨sb, 3, none⟩ = some (.int .i64 s.now) := hA.blkS.cell 3
    have hC := fun i => hA.bC.cell i
    have hX := fun i => hA.bX.cell i
    have hXf := fun i => hA.bX.free i
    by_cases hlt : k < c.events.length
    · obtain ⟨be, offe, rfl, hbe, hce⟩ := hes k hlt
      have hben : be ∉ sb :: av.ownBlock.toList := (evM be rfl).resolve_right (by omega)
      obtain ⟨y, hy⟩ : ∃ y, y = c.events[k] := ⟨_, rfl⟩
      rw [← hy] at hce
      have e0 : wr.cell? ⟨be, offe + k * 4, none⟩ = some (.int .i64 y.id) := (hA.only.cell hbe hben).trans (hce 0 (by omega))
      have e1 : wr.cell? ⟨be, offe + k * 4 + 1, none⟩ = some (.string y.type) := (hA.only.cell hbe hben).trans (hce 1 (by omega))
      have e2 : wr.cell? ⟨be, offe + k * 4 + 2, none⟩ = some (.string y.data) := (hA.only.cell hbe hben).trans (hce 2 (by omega))
      have e3 : wr.cell? ⟨be, offe + k * 4 + 3, none⟩ = some (.float .f64 y.value) := (hA.only.cell hbe hben).trans (hce 3 (by omega))
      have hst := storedOf_take c.stream s.now c.events k hlt x.places.length s.all.length
      rw [← hy] at hst
      have hSt := Lib.hid hst
      have hEV : Only [] wr (wr.alloc (.cells #[.int .i64 y.id, .string y.type, .string y.data, .float .f64 (canon y.value)] 50)) := (Only.refl [] wr).alloc _
      have hEb := Blk.new wr 50 #[.int .i64 y.id, .string y.type, .string y.data, .float .f64 (canon y.value)]
      obtain ⟨So, hSo⟩ : ∃ So, So = (Value.slice Ar (s.all.length + k) capr).ownBlock.toList := ⟨_, rfl⟩
      have hSn : ∀ g ∈ So, g ≠ sb ∧ g < wr.heap.size ∧ ∃ cur, Blk wr g 66 cur := by
        intro g hg
        rw [hSo] at hg
        simp at hg
        obtain ⟨cur, hcur⟩ := own_type hA.own hg
        exact ⟨hcur.other hA.blkS (by decide), hcur.lt, cur, hcur⟩
      clear hce hst hy
      have s0a := fun o => (World.cell?_alloc_lt wr o _ (block_lt_of_cell s0)).trans s0
      go_wp2_with (go_at_call 148; refine (canon_any _ _).mono ?_; rintro e w' ⟨rfl, rfl⟩)
      obtain ⟨W2, hW2⟩ : ∃ W2, W2 = wr.alloc (.cells #[.int .i64 y.id, .string y.type, .string y.data, .float .f64 (canon y.value)] 50) := ⟨_, rfl⟩
      rw [← hW2] at hEV hEb ⊢
      clear hW2
      have nsb : sb ∉ So := fun q => (hSn sb q).1 rfl
      have nE : wr.heap.size ∉ So := fun q => Nat.lt_irrefl _ (hSn _ q).2.1
      have nC : w.heap.size ∉ So := fun q => by obtain ⟨_, _, cur, hcur⟩ := hSn _ q; exact hcur.other hA.bC (by decide) rfl
      have nX : w.heap.size + 1 ∉ So := fun q => by obtain ⟨_, _, cur, hcur⟩ := hSn _ q; exact hcur.other hA.bX (by decide) rfl
      have F0 := Within.cell (S := So) ((hEV.blk hA.blkS (by simp)).cell 0) nsb
      have F3 := Within.cell (S := So) ((hEV.blk hA.blkS (by simp)).cell 3) nsb
      have G0 := Within.cell (S := So) (hEb.cell 0) nE
      have G1 := Within.cell (S := So) (hEb.cell 1) nE
      have G2 := Within.cell (S := So) (hEb.cell 2) nE
      have G3 := Within.cell (S := So) (hEb.cell 3) nE
      have Fc := Within.cell (S := So) ((hEV.blk hA.bC (by simp)).cell 2) nC
      have Fx := Within.cell (S := So) ((hEV.blk hA.bX (by simp)).cell 0) nX
      refine wp_region_in So [0, 1, 2, 3, 4, 5, 6, 7, 8, 9, 10, 11, 12, 13, 14, 15, 16] [17, 18] [19, 20, 21] (by kernel_rfl) (by kernel_rfl) (by intro c d u a w h; cases d <;> exact h) ?_
      show wpQuiet _ _ _ _ [_, _, _, _, _, _, _, _, _, _, _, _, _, _, _, _, _] _
      repeat (go_big_quiet_step (fail))
      refine wpQuiet_nil ?_
      show wpList _ _ _ [_] _ _
      go_wp2_with fail
      refine check_of (S := So) (((Only.refl So W2).alloc _).drew) ?_
      show wpList _ _ _ [_] _ _
      have hOw : ∀ o, Only [] wr (W2.alloc o).drew := fun o => (hEV.alloc o).drew
      have hown0 := fun o => own_only hA.own (hOw o) (by simp)
      have hnb : Blk (W2.alloc (.cells #[.int .i64 y.id, .string y.type, .string y.data, .float .f64 (canon y.value), .string c.stream, .int .i64 ((x.places.length : Int) + k), .int .i64 ((s.all.length : Int) + k), .int .i64 s.now] 66)).drew W2.heap.size 66 #[.int .i64 y.id, .string y.type, .string y.data, .float .f64 (canon y.value), .string c.stream, .int .i64 ((x.places.length : Int) + k), .int .i64 ((s.all.length : Int) + k), .int .i64 s.now] := Blk.new W2 _ _
      refine wpList_append_lies rfl (.tmp 39) (.tmp 52) 28 rfl 0 66 j0 (.agg #[.int .i64 0, .string ⟨#[]⟩, .string ⟨#[]⟩, .float .f64 0, .string ⟨#[]⟩, .int .i64 0, .int .i64 0, .int .i64 0]) 8 88 Tryz.underlying28 hj hy0 hy1 hy2 rfl (by decide) (.slice Ar (s.all.length + k) capr) (s.all.length + k) _ rfl (hown0 _) ⟨W2.heap.size, 0, none⟩ 1 1 [.int .i64 y.id, .string y.type, .string y.data, .float .f64 (canon y.value), .string c.stream, .int .i64 ((x.places.length : Int) + k), .int .i64 ((s.all.length : Int) + k), .int .i64 s.now] rfl rfl (news_blk hnb) ?c2 (by decide) ?c3 ?c4 ?c5 ?_
      case c2 => simp [Value.oneCell']
      case c3 => unfold maxLen; omega
      case c4 => omega
      case c5 => exact Nat.zero_le _
      intro g4 cap4 w4 hown4 hgrow4 hlie4 hg4
      have ho24 : Only So W2 w4 := (((Only.refl So W2).alloc _).drew).grown hgrow4 (fun g hg => .inl (by rw [hSo, hg]; simp))
      have hav4 : g4 ∈ So ∨ W2.heap.size ≤ g4 := by
        rcases hlie4 with q | q
        · left; rw [hSo, q]; simp
        · right; rw [q]; simp
      have hS4 : Blk w4 sb 77 #[.slice Ar (s.all.length + k) capr, .map (some mb), .int .i64 s.done, .int .i64 s.now] := ho24.blk (hEV.blk hA.blkS (by simp)) nsb
      have hX4 : Blk w4 (w.heap.size + 1) 82 #[.slice Pr (x.places.length + k) pcap, .int .i64 x.mt.maxCount, .int .i64 x.mt.maxAge, .int .i64 x.mt.before, .int .i64 x.floor, .bool x.deleted] := ho24.blk (hEV.blk hA.bX (by simp)) nX
      obtain ⟨_, _, cur4, q4, _, hb4⟩ := own_some hown4 (by omega)
      cases q4
      clear hgrow4 hlie4 F0 F3 G0 G1 G2 G3 Fc Fx hnb hown0
      refine wpList_nil ?_
      refine check_of ho24 ?_
      show wpList _ _ _ [_, _, _] _ _
      have s40 := hS4.cell 0
      have sf40 := hS4.free 0
      have hO45 : ∀ v, Only [sb] w4 (w4.setCell ⟨sb, 0, none⟩ v) := fun v => (Only.refl _ w4).setCell (.inl (by simp)) _
      have hsx : w.heap.size + 1 ∉ [sb] := by simp; omega
      have hX5 := fun v i => ((hO45 v).blk hX4 hsx).cell i
      have hXf5 := fun v i => ((hO45 v).blk hX4 hsx).free i
      have hPn : ∀ g, (Value.slice Pr (x.places.length + k) pcap).ownBlock = some g → g ∉ So ∧ g ≠ sb ∧ g ≠ w.heap.size + 1 := by
        intro g hg
        obtain ⟨cur, hcur⟩ := own_type hA.pown hg
        refine ⟨fun q => ?_, ?_, hcur.other hA.bX (by decide)⟩
        · obtain ⟨_, _, cur2, hcur2⟩ := hSn g q
          exact hcur.other hcur2 (by decide) rfl
        · exact hcur.other hA.blkS (by decide)
      have hwr4 : Only So wr w4 := (hEV.of_nil).trans ho24
      have hpown5 : ∀ v o, ((w4.setCell ⟨sb, 0, none⟩ v).alloc o).ownsRow w.heap.size 3 1 (.slice Pr (x.places.length + k) pcap) (x.places.length + k) (ints (x.places ++ rangeFrom k s.all.length)) := fun v o =>
        own_only (own_only (own_only hA.pown hwr4 (fun g hg => (hPn g hg).1)) (hO45 v) (fun g hg => by simp; exact (hPn g hg).2.1)) ((Only.refl [] _).alloc o) (by simp)
      go_wp2_with (at_builtin; refine wpList_append_lies rfl (.tmp 57) (.tmp 59) 80 rfl w.heap.size 3 i0 (.int .i64 0) 1 8 Tryz.underlying80 hi hz0 hz1 hz2 rfl (by decide) (.slice Pr (x.places.length + k) pcap) (x.places.length + k) _ rfl (hpown5 _ _) ⟨w4.heap.size, 0, none⟩ 1 1 [.int .i64 ((s.all.length : Int) + k)] rfl rfl ?d1 ?d2 (by decide) ?d3 ?d4 ?d5 ?_)
      case d1 => exact news_set
      case d2 => simp [Value.oneCell']
      case d3 => unfold maxLen; omega
      case d4 => omega
      case d5 => have := hEV.size; have := ho24.size; have := hA.only.size; simp [World.setCell]; omega
      intro g6 cap6 w6 hown6 hgrow6 hlie6 hg6
      have ho56 : Only (Value.slice Pr (x.places.length + k) pcap).ownBlock.toList ((w4.setCell ⟨sb, 0, none⟩ (.slice (some ⟨g4, 0, none⟩) (s.all.length + k + 1) cap4)).alloc (.cells #[.int .i64 ((s.all.length : Int) + k)] 3)) w6 := (Only.refl _ _).grown hgrow6 (fun g hg => .inl (by rw [hg]; simp))
      have hPl : ∀ g, g ∈ (Value.slice Pr (x.places.length + k) pcap).ownBlock.toList → g ∉ So ∧ g ≠ sb ∧ g ≠ w.heap.size + 1 := fun g hg => hPn g (by simpa using hg)
      have hPw : ∀ g, g ∈ (Value.slice Pr (x.places.length + k) pcap).ownBlock.toList → w.heap.size ≤ g := fun g hg => (hA.pown.lt g (by simpa using hg)).1
      have hO46 : Only (sb :: (Value.slice Pr (x.places.length + k) pcap).ownBlock.toList) w4 w6 := (((hO45 _).alloc _).mono (by simp)).trans (ho56.mono (fun g hg => by simp at hg; simp [hg]))
      have hXg6 : Blk w6 (w.heap.size + 1) 82 #[.slice Pr (x.places.length + k) pcap, .int .i64 x.mt.maxCount, .int .i64 x.mt.maxAge, .int .i64 x.mt.before, .int .i64 x.floor, .bool x.deleted] := hO46.blk hX4 (by
        intro q
        rcases List.mem_cons.1 q with q | q
        · omega
        · exact (hPl _ q).2.2 rfl)
      have hO67 : Only [w.heap.size + 1] w6 (w6.setCell ⟨w.heap.size + 1, 0, none⟩ (.slice (some ⟨g6, 0, none⟩) (x.places.length + k + 1) cap6)) := (Only.refl _ w6).setCell (.inl (by simp)) _
      have hO47 := (hO46.mono (S' := (w.heap.size + 1) :: sb :: (Value.slice Pr (x.places.length + k) pcap).ownBlock.toList) (fun g hg => List.mem_cons_of_mem _ hg)).trans (hO67.mono (fun g hg => by simp at hg; simp [hg]))
      have hSoW : ∀ g ∈ So, g ∈ sb :: av.ownBlock.toList ∨ w.heap.size ≤ g := fun g hg => by
        rcases hA.avb g (by rw [hSo] at hg; simpa using hg) with q | q
        · left; simp [q]
        · exact .inr q
      have hOr4 : Only (sb :: av.ownBlock.toList) w w4 := hA.only.step hwr4 hSoW
      have hOr7 : Only (sb :: av.ownBlock.toList) w (w6.setCell ⟨w.heap.size + 1, 0, none⟩ (.slice (some ⟨g6, 0, none⟩) (x.places.length + k + 1) cap6)) := hOr4.step hO47 (fun g hg => by
        rcases List.mem_cons.1 hg with q | q
        · right; omega
        · rcases List.mem_cons.1 q with q | q
          · left; simp [q]
          · exact .inr (hPw g q))
      have hKeep : ∀ g t cs, Blk wr g t cs → g ∉ So → g ≠ sb → g ≠ w.heap.size + 1 → (g ∉ (Value.slice Pr (x.places.length + k) pcap).ownBlock.toList) → Blk (w6.setCell ⟨w.heap.size + 1, 0, none⟩ (.slice (some ⟨g6, 0, none⟩) (x.places.length + k + 1) cap6)) g t cs := fun g t cs hb h1 h2 h3 h4 => hO47.blk (hwr4.blk hb h1) (by
        intro q
        rcases List.mem_cons.1 q with q | q
        · exact h3 q
        · rcases List.mem_cons.1 q with q | q
          · exact h2 q
          · exact h4 q)
      have nY : ∀ g t cs, Blk wr g t cs → t ≠ 66 → t ≠ 3 → g ∉ So ∧ g ∉ (Value.slice Pr (x.places.length + k) pcap).ownBlock.toList := fun g t cs hb h1 h2 => ⟨fun q => by
          obtain ⟨_, _, cur, hcur⟩ := hSn g q
          exact hcur.other hb (fun e => h1 e.symm) rfl, fun q => by
          obtain ⟨cur, hcur⟩ := own_type hA.pown (g := g) (by simpa using q)
          exact hcur.other hb (fun e => h2 e.symm) rfl⟩
      have hNext : ApAt w (w6.setCell ⟨w.heap.size + 1, 0, none⟩ (.slice (some ⟨g6, 0, none⟩) (x.places.length + k + 1) cap6)) sb mb (k + 1) av (.slice (some ⟨g4, 0, none⟩) (s.all.length + k + 1) cap4) (.slice (some ⟨g6, 0, none⟩) (x.places.length + k + 1) cap6) (.slice (some ⟨be, offe, none⟩) c.events.length cap1) s c x := by
        refine ⟨hOr7, ?_, ?_, ?_, ?_, ?_, ?_, ?_, ?_⟩
        · refine hO67.blk (ho56.blk (((Only.refl [] _).alloc _).blk (hS4.set 0 _) (by simp)) (fun q => (hPl _ q).2.1 rfl)) (by simp; omega)
        · have hg4S : g4 ≠ sb := hb4.other hS4 (by decide)
          have hg4X : g4 ≠ w.heap.size + 1 := hb4.other hX4 (by decide)
          have hg4P : g4 ∉ (Value.slice Pr (x.places.length + k) pcap).ownBlock.toList := fun q => by
            obtain ⟨cur, hcur⟩ := own_type (own_only hA.pown hwr4 (fun g hg => (hPn g hg).1)) (g := g4) (by simpa using q)
            exact hcur.other hb4 (by decide) rfl
          have := own_only hown4 hO47 (fun g hg => by cases hg; simp only [List.mem_cons, not_or]; exact ⟨hg4X, hg4S, hg4P⟩)
          rw [hSt.out, ← List.append_assoc, List.flatMap_append]
          exact this
        · have := own_only hown6 hO67 (fun g hg => by
            cases hg
            obtain ⟨cur, hcur⟩ := own_type hown6 (g := g6) rfl
            simp
            exact hcur.other hXg6 (by decide))
          rw [rangeFrom_succ, ← List.append_assoc]
          unfold ints at this ⊢
          rw [List.map_append]
          exact this
        · intro g hg
          cases hg
          rcases hav4 with q | q
          · exact hA.avb _ (by rw [hSo] at q; simpa using q)
          · exact .inr (Nat.le_trans (Nat.le_trans hA.only.size hEV.size) q)
        · exact hKeep _ _ _ hA.bC (nY _ _ _ hA.bC (by decide) (by decide)).1 (by omega) (by omega) (nY _ _ _ hA.bC (by decide) (by decide)).2
        · exact hXg6.set 0 _
        · exact hKeep _ _ _ hA.bA (nY _ _ _ hA.bA (by decide) (by decide)).1 (by omega) (by omega) (nY _ _ _ hA.bA (by decide) (by decide)).2
        · exact hKeep _ _ _ hA.bY (nY _ _ _ hA.bY (by decide) (by decide)).1 (by omega) (by omega) (nY _ _ _ hA.bY (by decide) (by decide)).2
      have HNext := Lib.hid hNext
      have hX6 := fun i => hXg6.cell i
      have hXf6 := fun i => hXg6.free i
      clear hNext hKeep nY hOr7 hOr4 hSoW hO47 hO67 hO46 hPw hPl ho56 hgrow6 hlie6 hown6 hpown5 hwr4 hPn hX5 hXf5 hO45 hX4 hXg6 hS4 hav4 hown4
      go_wp2
      exact ⟨⟨k + 1, _, _, hlt, by simp, HNext.out⟩, by simp [intOf]; omega⟩
    · have hkl : k = c.events.length := by omega
      have hS := hA.blkS
      have HK := Lib.hid hkl
      have hfin : ∀ W9, Only [w.heap.size + 1 + 1, w.heap.size + 1 + 1 + 1] wr W9 → StAt W9 ((Value.slice Ar (s.all.length + k) capr).ownBlock.toList ++ M) sb mb (.slice Ar (s.all.length + k) capr) pf { s with all := s.all ++ storedOf c.stream s.now c.events x.places.length s.all.length } ∧
          Rd ((Value.slice Ar (s.all.length + k) capr).ownBlock.toList ++ M) W9 1 (.slice Pr (x.places.length + k) pcap) (x.places ++ rangeFrom c.events.length s.all.length).length (ints (x.places ++ rangeFrom c.events.length s.all.length)) ∧ Only (hM sb mb av) w W9 := by
        intro W9 hO9
        have htk : c.events.take k = c.events := by rw [hkl, List.take_length]
        have hOw : Only (sb :: av.ownBlock.toList) w W9 := hA.only.step hO9 (fun g hg => by right; simp at hg; omega)
        have hM9 : Only (hM sb mb av) w W9 := hOw.mono (fun g hg => by simp [hM] at hg ⊢; rcases hg with q | q; exact .inl q; exact .inr (.inr q))
        have hMM : ∀ g ∈ hM sb mb av, g ∈ (Value.slice Ar (s.all.length + k) capr).ownBlock.toList ++ M := fun g hg => List.mem_append_right _ (h.hMM g hg)
        have hnA : ∀ g ∈ (Value.slice Ar (s.all.length + k) capr).ownBlock.toList, g ∈ M ∨ w.heap.size ≤ g := fun g hg => by
          rcases hA.avb g (by simpa using hg) with q | q
          · exact .inl (h.inM.2.2 g q)
          · exact .inr q
        have hown9 := own_only hA.own hO9 (fun g hg => by
          obtain ⟨cur, hcur⟩ := own_type hA.own hg
          simp
          exact ⟨hcur.other hA.bA (by decide), hcur.other hA.bY (by decide)⟩)
        have hpown9 := own_only hA.pown hO9 (fun g hg => by
          obtain ⟨cur, hcur⟩ := own_type hA.pown hg
          simp
          exact ⟨hcur.other hA.bA (by decide), hcur.other hA.bY (by decide)⟩)
        refine ⟨⟨hO9.blk hA.blkS (by simp; omega), ?_, ?_, fun n y hy => ?_, ?_, ?_⟩, ⟨?_, fun g hg => .inl ⟨?_, ?_⟩⟩, hM9⟩
        · show W9.ownsRow 0 66 8 _ (s.all ++ storedOf c.stream s.now c.events x.places.length s.all.length).length _
          rw [List.length_append, storedOf_len, ← hkl]
          rw [htk] at hown9
          exact hown9
        · refine (h.map.only hOw ?_)
          simp
          exact ⟨h.ne, fun q => (h.ownne mb q).2 rfl⟩
        · exact ((h.pl n y hy).ext (fun g hg => by
            rcases List.mem_append.1 hg with q | q
            · exact hnA g q
            · exact .inl q)).only hM9 hMM
        · exact ⟨List.mem_append_right _ h.inM.1, List.mem_append_right _ h.inM.2.1, fun g hg => List.mem_append_left _ (by simpa using hg)⟩
        · intro g hg
          rcases List.mem_append.1 hg with q | q
          · exact Nat.lt_of_lt_of_le (hA.own.lt g (by simpa using q)).2 hO9.size
          · exact Nat.lt_of_lt_of_le (h.mlt g q) hOw.size
        · rw [List.length_append, rangeFrom_len, ← hkl]
          exact (Slc.of_own hpown9).1
        · intro q
          rcases List.mem_append.1 q with q | q
          · obtain ⟨c1, hc1⟩ := own_type hown9 (g := g) (by simpa using q)
            obtain ⟨c2, hc2⟩ := own_type hpown9 hg
            exact hc1.other hc2 (by decide) rfl
          · have := h.mlt g q
            have := (hpown9.lt g hg).1
            omega
        · exact (hpown9.lt g hg).2
      have HFIN := Lib.hid hfin
      clear hfin
      have hCx : Hid (c.events.take k = c.events) := by unfold Hid; rw [hkl, List.take_length]
      have hbA := fun i => hA.bA.cell i
      have hbAf := fun i => hA.bA.free i
      have hbY := fun i => hA.bY.cell i
      have hbYf := fun i => hA.bY.free i
      have hsn : w.heap.size + 1 + 1 ∉ [w.heap.size + 1 + 1] → False := fun q => q (by simp)
      have F0 := Within.cell (S := [w.heap.size + 1 + 1]) s0 (by simp; omega)
      have X0 := Within.cell (S := [w.heap.size + 1 + 1]) (hA.bX.cell 0) (by simp)
      have X1 := Within.cell (S := [w.heap.size + 1 + 1]) (hA.bX.cell 1) (by simp)
      have X2 := Within.cell (S := [w.heap.size + 1 + 1]) (hA.bX.cell 2) (by simp)
      have X3 := Within.cell (S := [w.heap.size + 1 + 1]) (hA.bX.cell 3) (by simp)
      have X4 := Within.cell (S := [w.heap.size + 1 + 1]) (hA.bX.cell 4) (by simp)
      have X5 := Within.cell (S := [w.heap.size + 1 + 1]) (hA.bX.cell 5) (by simp)
      have hwp := IntWalk.i64_in (((s.all.length + k : Nat) : Int) - 1) ⟨by omega, by omega⟩
      clear hkl hsn
      go_wp2_with fail
      refine wp_region_in [w.heap.size + 1 + 1] [0, 1, 2, 3, 4, 5, 6, 7, 8] [9] [10] (by kernel_rfl) (by kernel_rfl) (by intro c d u a w h; cases d <;> exact h) ?_
      show wpQuiet _ _ _ _ [_, _, _, _, _, _, _, _, _] _
      repeat (go_big_quiet_step (fail))
      refine wpQuiet_nil ?_
      show wpList _ _ _ [_] _ _
      go_wp2_with fail
      refine check_of (S := [w.heap.size + 1 + 1]) (by repeat (first | exact Only.refl _ _ | refine Only.drew ?_ | refine Only.setCell ?_ (.inl (by simp)) _)) ?_
      show wpList _ _ _ [_] _ _
      go_wp2
      have hR := HR.out
      subst hR
      clear HR F0 X0 X1 X2 X3 X4 X5 hwp
      refine bodyPost_ret (v := .tuple #[.agg #[.int .i64 0, .int .i64 x.places.length, .int .i64 ((s.all.length : Int) + k - 1), .bool false], .agg #[.slice Pr (x.places.length + k) pcap, .int .i64 x.mt.maxCount, .int .i64 x.mt.maxAge, .int .i64 x.mt.before, .int .i64 x.floor, .bool x.deleted]]) (by simp [results, Tryz.results114, go_sem, hbA, hbY]) rfl ⟨.slice Pr (x.places.length + k) pcap, .slice Ar (s.all.length + k) capr, ?_⟩
      rw [append_ans s c x HK.out, append_st, append_s, append_p]
      refine ⟨rfl, (HFIN.out _ ?hw).1, (HFIN.out _ ?hw).2.1, (HFIN.out _ ?hw).2.2, hA.avb, fun g hg => (hA.pown.lt g hg).1⟩
      case hw =>
        refine Only.drew ?_
        iterate 10 (refine Only.setCell ?_ (.inl (by simp)) _)
        exact Only.refl _ _
end Go.Proofs.YtikboecmcbcghaaGreat
/- Contract: act. -/
set_option linter.unusedVariables false
set_option linter.unusedSimpArgs false
namespace Go.Proofs.YtikboecmcbcghaaGreat
open Go.RowKit
/-- What a call on the state leaves: the state s', and what of the world may have turned. -/
def StLeads (w : World) (M : List Nat) (sb mb : Nat) (av : Value) (s' : MS) (w' : World) : Prop :=
  ∃ M' av' pf', StAt w' M' sb mb av' pf' s' ∧ Only (hM sb mb av) w w' ∧ (∀ g ∈ M, g ∈ M') ∧ (∀ g ∈ M', g ∈ M ∨ w.heap.size ≤ g) ∧ ∀ g, av'.ownBlock = some g → av.ownBlock = some g ∨ w.heap.size ≤ g
/-- What act leaves besides: the stream's places. -/
def ActLeads (w : World) (M : List Nat) (sb mb : Nat) (av : Value) (pf : ByteArray → Value) (y : StreamR) (s' : MS) (pv' : Value) (w' : World) : Prop :=
  ∃ M' av', StAt w' M' sb mb av' pf s' ∧ Rd M' w' 1 pv' y.places.length (ints y.places) ∧ Only (hM sb mb av) w w' ∧ (∀ g ∈ M, g ∈ M') ∧ (∀ g ∈ M', g ∈ M ∨ w.heap.size ≤ g) ∧ ∀ g, av'.ownBlock = some g → av.ownBlock = some g ∨ w.heap.size ≤ g
theorem ActLeads.same {w w' : World} {M : List Nat} {sb mb : Nat} {av pv : Value} {pf : ByteArray → Value} {s : MS} {y : StreamR} (h : StAt w M sb mb av pf s) (hp : Rd M w 1 pv y.places.length (ints y.places)) (k : Only [] w w') : ActLeads w M sb mb av pf y s pv w' :=
  ⟨M, av, h.only0 k, hp.only0 k, k.of_nil, fun _ q => q, fun _ q => .inl q, fun _ q => .inl q⟩
theorem Only.two {S : List Nat} {a b : World} (h : Only S a b) (e : b.heap.size = a.heap.size) {o o' : Obj} (ho : o' = o ∨ a.heap.size ∈ S) : Only S (a.alloc o) (b.alloc o') := by
  refine ⟨h.os, h.tape, h.output, by simp [e], fun k hk hn => ?_⟩
  simp at hk
  by_cases hlt : k < a.heap.size
  · rw [Below.heap_alloc _ _ _ hlt, Below.heap_alloc _ _ _ (by omega)]
    exact h.block k hlt hn
  · have hka : k = a.heap.size := by omega
    subst hka
    rcases ho with rfl | q
    · have h1 := heap_alloc_new a o'
      have h2 := heap_alloc_new b o'
      rw [e] at h2
      rw [h1, h2]
    · exact absurd q hn
theorem Only.drewL {S : List Nat} {a b : World} (h : Only S a b) : Only S a.drew b := ⟨h.os, h.tape, h.output, h.size, h.block⟩
/-- Of five fresh blocks the third may turn. -/
theorem turned (w : World) (o1 o2 o3 o4 o5 o3' : Obj) : Only [w.heap.size + 1 + 1] (((((w.alloc o1).alloc o2).alloc o3).alloc o4).alloc o5).drew (((((w.alloc o1).alloc o2).alloc o3').alloc o4).alloc o5) :=
  Only.drewL ((((Only.refl _ ((w.alloc o1).alloc o2)).two rfl (o := o3) (o' := o3') (.inr (by simp))).two (by simp) (o := o4) (o' := o4) (.inl rfl)).two (by simp) (.inl rfl))
set_option maxRecDepth 100000 in
set_option maxHeartbeats 4000000 in
theorem act_meta {w : World} {M : List Nat} {sb mb : Nat} {av pv ev : Value} {pf : ByteArray → Value} {s : MS} {x : StreamR} {c : Cmd} (h : StAt w M sb mb av pf s) (hx : XOk s x) (hp : Rd M w 1 pv x.places.length (ints x.places))
    (he : Rd M w 4 ev c.events.length (c.events.flatMap EventR.cells)) (hl : s.all.length ≤ 1000000) (hk : c.kind = 2) :
    Calls Tryz.prog 41 #[.pointer (some ⟨sb, 0, none⟩), c.val ev, x.val pv] w fun e w' => ∃ pv', e = .returned (.tuple #[(s.act c x).1.val, (s.act c x).2.1.val pv']) ∧ ActLeads w M sb mb av pf (s.act c x).2.1 (s.act c x).2.2 pv' w' := by
  obtain ⟨A, cap, hpv, hn1, hn2, hps⟩ := hp.1.openI
  obtain ⟨A1, cap1, hev, hn3, hn4, hes⟩ := he.1.openE EventR.cells (fun _ => rfl)
  obtain ⟨A2, cap2, hav, hnc2, hcm2, hel2⟩ := h.cell
  unfold maxLen at hn2 hn4 hcm2
  have hfew := hx.few
  have hsb := h.blk.lt
  have h0 : ∀ o1 o2 o3 o4, Only [] w ((((w.alloc o1).alloc o2).alloc o3).alloc o4) := fun o1 o2 o3 o4 => ((((Only.refl [] w).alloc _).alloc _).alloc _).alloc _
  have kC : ∀ cs t o2 o3 o4, Blk ((((w.alloc (.cells cs t)).alloc o2).alloc o3).alloc o4) w.heap.size t cs := fun cs t o2 o3 o4 => ((((Only.refl [] _).alloc o2).alloc o3).alloc o4).blk (Blk.new w t cs) (by simp)
  have kX : ∀ cs t o1 o3 o4, Blk ((((w.alloc o1).alloc (.cells cs t)).alloc o3).alloc o4) (w.heap.size + 1) t cs := fun cs t o1 o3 o4 => by
    have := (((Only.refl [] _).alloc o3).alloc o4).blk (Blk.new (w.alloc o1) t cs) (by simp)
    simpa using this
  have kA : ∀ cs t o1 o2 o4, Blk ((((w.alloc o1).alloc o2).alloc (.cells cs t)).alloc o4) (w.heap.size + 1 + 1) t cs := fun cs t o1 o2 o4 => by
    have := ((Only.refl [] _).alloc o4).blk (Blk.new ((w.alloc o1).alloc o2) t cs) (by simp)
    simpa using this
  have kY : ∀ cs t o1 o2 o3, Blk ((((w.alloc o1).alloc o2).alloc o3).alloc (.cells cs t)) (w.heap.size + 1 + 1 + 1) t cs := fun cs t o1 o2 o3 => by
    have := Blk.new (((w.alloc o1).alloc o2).alloc o3) t cs
    simpa using this
  have c0 : w.cell? ⟨sb, 0, none⟩ = some (.slice A2 s.all.length cap2) := by rw [← hav]; exact h.blk.cell 0
  have F0 := fun o1 o2 o3 o4 => Within.cell (S := []) (((h0 o1 o2 o3 o4).cell hsb (by simp)).trans c0) (by simp)
  have X0 := fun v a b d f g t o1 o3 o4 => Within.cell (S := []) ((kX #[v, a, b, d, f, g] t o1 o3 o4).cell 0) (by simp)
  subst hpv hev
  obtain ⟨R, hR⟩ : ∃ R, R = s.act c x := ⟨_, rfl⟩
  rw [← hR]
  have HR := Lib.hid hR
  clear hR c0
  rw [show c.val (.slice A1 c.events.length cap1) = .agg #[.int .i64 c.kind, .int .i64 c.time, .string c.stream, .int .i64 c.expected, .slice A1 c.events.length cap1, .int .i64 c.mt.maxCount, .int .i64 c.mt.maxAge, .int .i64 c.mt.before] from rfl,
    show x.val (.slice A x.places.length cap) = .agg #[.slice A x.places.length cap, .int .i64 x.mt.maxCount, .int .i64 x.mt.maxAge, .int .i64 x.mt.before, .int .i64 x.floor, .bool x.deleted] from rfl]
  have hk1 : ((c.kind : Int) == 2) = true := by simpa using hk
  have HK := Lib.hid hk
  clear hk
  go_enter Tryz.func41, Tryz.ntmps41
  go_wp2_with fail
  refine wp_region_in [] [0, 1, 2, 3, 4, 5, 6, 7, 8] [9] [10] (by kernel_rfl) (by kernel_rfl) (by intro c d u a w h; cases d <;> exact h) ?_
  show wpQuiet _ _ _ _ [_, _, _, _, _, _, _, _, _] _
  repeat (go_big_quiet_step (fail))
  refine wpQuiet_nil ?_
  show wpList _ _ _ [_] _ _
  go_wp2_with fail
  refine check_of (S := []) (((Only.refl [] _).alloc _).drew) ?_
  show wpList _ _ _ [_] _ _
  clear F0 X0
  go_wp2_with fail
  have k5 : ∀ o1 o2 o3 o4 o5, Only [] w (((((w.alloc o1).alloc o2).alloc o3).alloc o4).alloc o5).drew := fun o1 o2 o3 o4 o5 => ((h0 o1 o2 o3 o4).alloc o5).drew
  have kH : ∀ cs t o1 o2 o3 o4, Blk (((((w.alloc o1).alloc o2).alloc o3).alloc o4).alloc (.cells cs t)).drew (w.heap.size + 1 + 1 + 1 + 1) t cs := fun cs t o1 o2 o3 o4 => by
    have := (Only.refl [] _).drew.blk (Blk.new ((((w.alloc o1).alloc o2).alloc o3).alloc o4) t cs) (by simp <;> omega)
    simpa using this
  have kX : ∀ cs t o1 o3 o4 o5, Blk (((((w.alloc o1).alloc (.cells cs t)).alloc o3).alloc o4).alloc o5).drew (w.heap.size + 1) t cs := fun cs t o1 o3 o4 o5 => ((Only.refl [] _).alloc o5).drew.blk (kX cs t o1 o3 o4) (by simp <;> omega)
  have kA : ∀ cs t o1 o2 o4 o5, Blk (((((w.alloc o1).alloc o2).alloc (.cells cs t)).alloc o4).alloc o5).drew (w.heap.size + 1 + 1) t cs := fun cs t o1 o2 o4 o5 => ((Only.refl [] _).alloc o5).drew.blk (kA cs t o1 o2 o4) (by simp <;> omega)
  have kY : ∀ cs t o1 o2 o3 o5, Blk (((((w.alloc o1).alloc o2).alloc o3).alloc (.cells cs t)).alloc o5).drew (w.heap.size + 1 + 1 + 1) t cs := fun cs t o1 o2 o3 o5 => ((Only.refl [] _).alloc o5).drew.blk (kY cs t o1 o2 o3) (by simp <;> omega)
  have kS : ∀ o1 o2 o3 o4 o5, StAt (((((w.alloc o1).alloc o2).alloc o3).alloc o4).alloc o5).drew M sb mb av pf s := fun o1 o2 o3 o4 o5 => h.only0 (k5 o1 o2 o3 o4 o5)
  have H0 := fun v a b d o1 o2 o3 o4 => Within.cell (S := [w.heap.size + 1 + 1]) ((kH #[v, a, b, d] 54 o1 o2 o3 o4).cell 0) (by simp <;> omega)
  have H1 := fun v a b d o1 o2 o3 o4 => Within.cell (S := [w.heap.size + 1 + 1]) ((kH #[v, a, b, d] 54 o1 o2 o3 o4).cell 1) (by simp <;> omega)
  have H2 := fun v a b d o1 o2 o3 o4 => Within.cell (S := [w.heap.size + 1 + 1]) ((kH #[v, a, b, d] 54 o1 o2 o3 o4).cell 2) (by simp <;> omega)
  have H3 := fun v a b d o1 o2 o3 o4 => Within.cell (S := [w.heap.size + 1 + 1]) ((kH #[v, a, b, d] 54 o1 o2 o3 o4).cell 3) (by simp <;> omega)
  have X0 := fun v a b d f g o1 o3 o4 o5 => Within.cell (S := [w.heap.size + 1 + 1]) ((kX #[v, a, b, d, f, g] 82 o1 o3 o4 o5).cell 0) (by simp <;> omega)
  have X1 := fun v a b d f g o1 o3 o4 o5 => Within.cell (S := [w.heap.size + 1 + 1]) ((kX #[v, a, b, d, f, g] 82 o1 o3 o4 o5).cell 1) (by simp <;> omega)
  have X2 := fun v a b d f g o1 o3 o4 o5 => Within.cell (S := [w.heap.size + 1 + 1]) ((kX #[v, a, b, d, f, g] 82 o1 o3 o4 o5).cell 2) (by simp <;> omega)
  have X3 := fun v a b d f g o1 o3 o4 o5 => Within.cell (S := [w.heap.size + 1 + 1]) ((kX #[v, a, b, d, f, g] 82 o1 o3 o4 o5).cell 3) (by simp <;> omega)
  have X4 := fun v a b d f g o1 o3 o4 o5 => Within.cell (S := [w.heap.size + 1 + 1]) ((kX #[v, a, b, d, f, g] 82 o1 o3 o4 o5).cell 4) (by simp <;> omega)
  have X5 := fun v a b d f g o1 o3 o4 o5 => Within.cell (S := [w.heap.size + 1 + 1]) ((kX #[v, a, b, d, f, g] 82 o1 o3 o4 o5).cell 5) (by simp <;> omega)
  refine wp_region_in [w.heap.size + 1 + 1] [0, 1] [2] [3] (by kernel_rfl) (by kernel_rfl) (by intro c d u a w h; cases d <;> exact h) ?_
  show wpQuiet _ _ _ _ [_, _] _
  repeat (go_big_quiet_step (fail))
  refine wpQuiet_nil ?_
  show wpList _ _ _ [_] _ _
  go_wp2_with fail
  refine check_of (S := [w.heap.size + 1 + 1]) (turned w _ _ _ _ _ _).drew.drew ?_
  show wpList _ _ _ [_] _ _
  go_wp2
  have hR := HR.out
  subst hR
  clear HR H0 H1 H2 H3 X0 X1 X2 X3 X4 X5
  have hbA := fun cs o1 o2 o4 o5 i => ((Only.refl [] _).drew.blk (kA cs 29 o1 o2 o4 o5) (by simp)).cell i
  have hbY := fun cs o1 o2 o3 o5 i => ((Only.refl [] _).drew.blk (kY cs 77 o1 o2 o3 o5) (by simp)).cell i
  refine bodyPost_ret (v := .tuple #[.agg #[.int .i64 0, .int .i64 x.places.length, .int .i64 s.all.length, .bool false], .agg #[.slice A x.places.length cap, .int .i64 c.mt.maxCount, .int .i64 c.mt.maxAge, .int .i64 c.mt.before, .int .i64 x.floor, .bool x.deleted]]) (by simp [results, Tryz.results41, go_sem, hbA, hbY]) rfl ⟨.slice A x.places.length cap, ?_⟩
  have hE : s.act c x = (⟨0, x.places.length, s.all.length, false⟩, { x with mt := c.mt }, s) := by
    have := HK.out
    unfold MS.act
    rw [if_pos (by simpa using this)]
  rw [hE]
  refine ⟨rfl, ActLeads.same h hp ?hw⟩
  case hw => exact (k5 _ _ _ _ _).drew
set_option maxRecDepth 100000 in
set_option maxHeartbeats 4000000 in
theorem act_delYes {w : World} {M : List Nat} {sb mb : Nat} {av pv ev : Value} {pf : ByteArray → Value} {s : MS} {x : StreamR} {c : Cmd} (h : StAt w M sb mb av pf s) (hx : XOk s x) (hp : Rd M w 1 pv x.places.length (ints x.places))
    (he : Rd M w 4 ev c.events.length (c.events.flatMap EventR.cells)) (hl : s.all.length ≤ 1000000) (hk : c.kind = 3) (hexp : expected c.expected x.places.length = true) :
    Calls Tryz.prog 41 #[.pointer (some ⟨sb, 0, none⟩), c.val ev, x.val pv] w fun e w' => ∃ pv', e = .returned (.tuple #[(s.act c x).1.val, (s.act c x).2.1.val pv']) ∧ ActLeads w M sb mb av pf (s.act c x).2.1 (s.act c x).2.2 pv' w' := by
  obtain ⟨A, cap, hpv, hn1, hn2, hps⟩ := hp.1.openI
  obtain ⟨A1, cap1, hev, hn3, hn4, hes⟩ := he.1.openE EventR.cells (fun _ => rfl)
  obtain ⟨A2, cap2, hav, hnc2, hcm2, hel2⟩ := h.cell
  unfold maxLen at hn2 hn4 hcm2
  have hfew := hx.few
  have hsb := h.blk.lt
  have h0 : ∀ o1 o2 o3 o4, Only [] w ((((w.alloc o1).alloc o2).alloc o3).alloc o4) := fun o1 o2 o3 o4 => ((((Only.refl [] w).alloc _).alloc _).alloc _).alloc _
  have kC : ∀ cs t o2 o3 o4, Blk ((((w.alloc (.cells cs t)).alloc o2).alloc o3).alloc o4) w.heap.size t cs := fun cs t o2 o3 o4 => ((((Only.refl [] _).alloc o2).alloc o3).alloc o4).blk (Blk.new w t cs) (by simp)
  have kX : ∀ cs t o1 o3 o4, Blk ((((w.alloc o1).alloc (.cells cs t)).alloc o3).alloc o4) (w.heap.size + 1) t cs := fun cs t o1 o3 o4 => by
    have := (((Only.refl [] _).alloc o3).alloc o4).blk (Blk.new (w.alloc o1) t cs) (by simp)
    simpa using this
  have kA : ∀ cs t o1 o2 o4, Blk ((((w.alloc o1).alloc o2).alloc (.cells cs t)).alloc o4) (w.heap.size + 1 + 1) t cs := fun cs t o1 o2 o4 => by
    have := ((Only.refl [] _).alloc o4).blk (Blk.new ((w.alloc o1).alloc o2) t cs) (by simp)
    simpa using this
  have kY : ∀ cs t o1 o2 o3, Blk ((((w.alloc o1).alloc o2).alloc o3).alloc (.cells cs t)) (w.heap.size + 1 + 1 + 1) t cs := fun cs t o1 o2 o3 => by
    have := Blk.new (((w.alloc o1).alloc o2).alloc o3) t cs
    simpa using this
  have c0 : w.cell? ⟨sb, 0, none⟩ = some (.slice A2 s.all.length cap2) := by rw [← hav]; exact h.blk.cell 0
  have F0 := fun o1 o2 o3 o4 => Within.cell (S := []) (((h0 o1 o2 o3 o4).cell hsb (by simp)).trans c0) (by simp)
  have X0 := fun v a b d f g t o1 o3 o4 => Within.cell (S := []) ((kX #[v, a, b, d, f, g] t o1 o3 o4).cell 0) (by simp)
  subst hpv hev
  obtain ⟨R, hR⟩ : ∃ R, R = s.act c x := ⟨_, rfl⟩
  rw [← hR]
  have HR := Lib.hid hR
  clear hR c0
  rw [show c.val (.slice A1 c.events.length cap1) = .agg #[.int .i64 c.kind, .int .i64 c.time, .string c.stream, .int .i64 c.expected, .slice A1 c.events.length cap1, .int .i64 c.mt.maxCount, .int .i64 c.mt.maxAge, .int .i64 c.mt.before] from rfl,
    show x.val (.slice A x.places.length cap) = .agg #[.slice A x.places.length cap, .int .i64 x.mt.maxCount, .int .i64 x.mt.maxAge, .int .i64 x.mt.before, .int .i64 x.floor, .bool x.deleted] from rfl]
  have hk1 : ((c.kind : Int) == 2) = false := by rw [beq_eq_false_iff_ne]; omega
  have hk2 : ((c.kind : Int) == 3) = true := by rw [beq_iff_eq]; omega
  have HK := Lib.hid hk
  have HX := Lib.hid hexp
  have HE := Lib.hid (fun W => (expected_any c.expected x.places.length W ⟨by omega, by omega⟩))
  rw [hexp] at HE
  clear hk hexp
  go_enter Tryz.func41, Tryz.ntmps41
  go_wp2_with fail
  refine wp_region_in [] [0, 1, 2, 3, 4, 5, 6, 7, 8] [9] [10] (by kernel_rfl) (by kernel_rfl) (by intro c d u a w h; cases d <;> exact h) ?_
  show wpQuiet _ _ _ _ [_, _, _, _, _, _, _, _, _] _
  repeat (go_big_quiet_step (fail))
  refine wpQuiet_nil ?_
  show wpList _ _ _ [_] _ _
  go_wp2_with fail
  refine check_of (S := []) (((Only.refl [] _).alloc _).drew) ?_
  show wpList _ _ _ [_] _ _
  clear F0 X0
  go_wp2_with fail
  have k5 : ∀ o1 o2 o3 o4 o5, Only [] w (((((w.alloc o1).alloc o2).alloc o3).alloc o4).alloc o5).drew := fun o1 o2 o3 o4 o5 => ((h0 o1 o2 o3 o4).alloc o5).drew
  have kH : ∀ cs t o1 o2 o3 o4, Blk (((((w.alloc o1).alloc o2).alloc o3).alloc o4).alloc (.cells cs t)).drew (w.heap.size + 1 + 1 + 1 + 1) t cs := fun cs t o1 o2 o3 o4 => by
    have := (Only.refl [] _).drew.blk (Blk.new ((((w.alloc o1).alloc o2).alloc o3).alloc o4) t cs) (by simp <;> omega)
    simpa using this
  have kX : ∀ cs t o1 o3 o4 o5, Blk (((((w.alloc o1).alloc (.cells cs t)).alloc o3).alloc o4).alloc o5).drew (w.heap.size + 1) t cs := fun cs t o1 o3 o4 o5 => ((Only.refl [] _).alloc o5).drew.blk (kX cs t o1 o3 o4) (by simp <;> omega)
  have kA : ∀ cs t o1 o2 o4 o5, Blk (((((w.alloc o1).alloc o2).alloc (.cells cs t)).alloc o4).alloc o5).drew (w.heap.size + 1 + 1) t cs := fun cs t o1 o2 o4 o5 => ((Only.refl [] _).alloc o5).drew.blk (kA cs t o1 o2 o4) (by simp <;> omega)
  have kY : ∀ cs t o1 o2 o3 o5, Blk (((((w.alloc o1).alloc o2).alloc o3).alloc (.cells cs t)).alloc o5).drew (w.heap.size + 1 + 1 + 1) t cs := fun cs t o1 o2 o3 o5 => ((Only.refl [] _).alloc o5).drew.blk (kY cs t o1 o2 o3) (by simp <;> omega)
  have kS : ∀ o1 o2 o3 o4 o5, StAt (((((w.alloc o1).alloc o2).alloc o3).alloc o4).alloc o5).drew M sb mb av pf s := fun o1 o2 o3 o4 o5 => h.only0 (k5 o1 o2 o3 o4 o5)
  go_wp2_with (go_at_call 110; refine (HE.out _).mono ?_; rintro e w1 ⟨rfl, hWE⟩; subst hWE)
  have H0 := fun v a b d o1 o2 o3 o4 => Within.cell (S := [w.heap.size + 1 + 1]) ((kH #[v, a, b, d] 54 o1 o2 o3 o4).cell 0) (by simp <;> omega)
  have H1 := fun v a b d o1 o2 o3 o4 => Within.cell (S := [w.heap.size + 1 + 1]) ((kH #[v, a, b, d] 54 o1 o2 o3 o4).cell 1) (by simp <;> omega)
  have H2 := fun v a b d o1 o2 o3 o4 => Within.cell (S := [w.heap.size + 1 + 1]) ((kH #[v, a, b, d] 54 o1 o2 o3 o4).cell 2) (by simp <;> omega)
  have H3 := fun v a b d o1 o2 o3 o4 => Within.cell (S := [w.heap.size + 1 + 1]) ((kH #[v, a, b, d] 54 o1 o2 o3 o4).cell 3) (by simp <;> omega)
  have X0 := fun v a b d f g o1 o3 o4 o5 => Within.cell (S := [w.heap.size + 1 + 1]) ((kX #[v, a, b, d, f, g] 82 o1 o3 o4 o5).cell 0) (by simp <;> omega)
  have X1 := fun v a b d f g o1 o3 o4 o5 => Within.cell (S := [w.heap.size + 1 + 1]) ((kX #[v, a, b, d, f, g] 82 o1 o3 o4 o5).cell 1) (by simp <;> omega)
  have X2 := fun v a b d f g o1 o3 o4 o5 => Within.cell (S := [w.heap.size + 1 + 1]) ((kX #[v, a, b, d, f, g] 82 o1 o3 o4 o5).cell 2) (by simp <;> omega)
  have X3 := fun v a b d f g o1 o3 o4 o5 => Within.cell (S := [w.heap.size + 1 + 1]) ((kX #[v, a, b, d, f, g] 82 o1 o3 o4 o5).cell 3) (by simp <;> omega)
  have X4 := fun v a b d f g o1 o3 o4 o5 => Within.cell (S := [w.heap.size + 1 + 1]) ((kX #[v, a, b, d, f, g] 82 o1 o3 o4 o5).cell 4) (by simp <;> omega)
  have X5 := fun v a b d f g o1 o3 o4 o5 => Within.cell (S := [w.heap.size + 1 + 1]) ((kX #[v, a, b, d, f, g] 82 o1 o3 o4 o5).cell 5) (by simp <;> omega)
  refine wp_region_in [w.heap.size + 1 + 1] [0, 1] [2] [3] (by kernel_rfl) (by kernel_rfl) (by intro c d u a w h; cases d <;> exact h) ?_
  show wpQuiet _ _ _ _ [_, _] _
  repeat (go_big_quiet_step (fail))
  refine wpQuiet_nil ?_
  show wpList _ _ _ [_] _ _
  go_wp2_with fail
  refine check_of (S := [w.heap.size + 1 + 1]) (turned w _ _ _ _ _ _).drew.drew ?_
  show wpList _ _ _ [_] _ _
  go_wp2
  have hR := HR.out
  subst hR
  clear HR H0 H1 H2 H3 X0 X1 X2 X3 X4 X5
  have hbA := fun cs o1 o2 o4 o5 i => ((Only.refl [] _).drew.blk (kA cs 54 o1 o2 o4 o5) (by simp)).cell i
  have hbY := fun cs o1 o2 o3 o5 i => ((Only.refl [] _).drew.blk (kY cs 82 o1 o2 o3 o5) (by simp)).cell i
  refine bodyPost_ret (v := .tuple #[.agg #[.int .i64 0, .int .i64 x.places.length, .int .i64 s.all.length, .bool false], .agg #[.slice A x.places.length cap, .int .i64 x.mt.maxCount, .int .i64 x.mt.maxAge, .int .i64 x.mt.before, .int .i64 x.floor, .bool true]]) (by simp [results, Tryz.results41, go_sem, hbA, hbY]) rfl ⟨.slice A x.places.length cap, ?_⟩
  have hE : s.act c x = (⟨0, x.places.length, s.all.length, false⟩, { x with deleted := true }, s) := by
    have := HK.out
    unfold MS.act
    rw [if_neg (by omega), if_pos (by omega), HX.out, if_pos rfl]
  rw [hE]
  refine ⟨rfl, ActLeads.same h hp ?hw⟩
  case hw => exact (k5 _ _ _ _ _).drew
set_option maxRecDepth 100000 in
set_option maxHeartbeats 4000000 in
theorem act_delNo {w : World} {M : List Nat} {sb mb : Nat} {av pv ev : Value} {pf : ByteArray → Value} {s : MS} {x : StreamR} {c : Cmd} (h : StAt w M sb mb av pf s) (hx : XOk s x) (hp : Rd M w 1 pv x.places.length (ints x.places))
    (he : Rd M w 4 ev c.events.length (c.events.flatMap EventR.cells)) (hl : s.all.length ≤ 1000000) (hk : c.kind = 3) (hexp : expected c.expected x.places.length = false) :
    Calls Tryz.prog 41 #[.pointer (some ⟨sb, 0, none⟩), c.val ev, x.val pv] w fun e w' => ∃ pv', e = .returned (.tuple #[(s.act c x).1.val, (s.act c x).2.1.val pv']) ∧ ActLeads w M sb mb av pf (s.act c x).2.1 (s.act c x).2.2 pv' w' := by
  obtain ⟨A, cap, hpv, hn1, hn2, hps⟩ := hp.1.openI
  obtain ⟨A1, cap1, hev, hn3, hn4, hes⟩ := he.1.openE EventR.cells (fun _ => rfl)
  obtain ⟨A2, cap2, hav, hnc2, hcm2, hel2⟩ := h.cell
  unfold maxLen at hn2 hn4 hcm2
  have hfew := hx.few
  have hsb := h.blk.lt
  have h0 : ∀ o1 o2 o3 o4, Only [] w ((((w.alloc o1).alloc o2).alloc o3).alloc o4) := fun o1 o2 o3 o4 => ((((Only.refl [] w).alloc _).alloc _).alloc _).alloc _
  have kC : ∀ cs t o2 o3 o4, Blk ((((w.alloc (.cells cs t)).alloc o2).alloc o3).alloc o4) w.heap.size t cs := fun cs t o2 o3 o4 => ((((Only.refl [] _).alloc o2).alloc o3).alloc o4).blk (Blk.new w t cs) (by simp)
  have kX : ∀ cs t o1 o3 o4, Blk ((((w.alloc o1).alloc (.cells cs t)).alloc o3).alloc o4) (w.heap.size + 1) t cs := fun cs t o1 o3 o4 => by
    have := (((Only.refl [] _).alloc o3).alloc o4).blk (Blk.new (w.alloc o1) t cs) (by simp)
    simpa using this
  have kA : ∀ cs t o1 o2 o4, Blk ((((w.alloc o1).alloc o2).alloc (.cells cs t)).alloc o4) (w.heap.size + 1 + 1) t cs := fun cs t o1 o2 o4 => by
    have := ((Only.refl [] _).alloc o4).blk (Blk.new ((w.alloc o1).alloc o2) t cs) (by simp)
    simpa using this
  have kY : ∀ cs t o1 o2 o3, Blk ((((w.alloc o1).alloc o2).alloc o3).alloc (.cells cs t)) (w.heap.size + 1 + 1 + 1) t cs := fun cs t o1 o2 o3 => by
    have := Blk.new (((w.alloc o1).alloc o2).alloc o3) t cs
    simpa using this
  have c0 : w.cell? ⟨sb, 0, none⟩ = some (.slice A2 s.all.length cap2) := by rw [← hav]; exact h.blk.cell 0
  have F0 := fun o1 o2 o3 o4 => Within.cell (S := []) (((h0 o1 o2 o3 o4).cell hsb (by simp)).trans c0) (by simp)
  have X0 := fun v a b d f g t o1 o3 o4 => Within.cell (S := []) ((kX #[v, a, b, d, f, g] t o1 o3 o4).cell 0) (by simp)
  subst hpv hev
  obtain ⟨R, hR⟩ : ∃ R, R = s.act c x := ⟨_, rfl⟩
  rw [← hR]
  have HR := Lib.hid hR
  clear hR c0
  rw [show c.val (.slice A1 c.events.length cap1) = .agg #[.int .i64 c.kind, .int .i64 c.time, .string c.stream, .int .i64 c.expected, .slice A1 c.events.length cap1, .int .i64 c.mt.maxCount, .int .i64 c.mt.maxAge, .int .i64 c.mt.before] from rfl,
    show x.val (.slice A x.places.length cap) = .agg #[.slice A x.places.length cap, .int .i64 x.mt.maxCount, .int .i64 x.mt.maxAge, .int .i64 x.mt.before, .int .i64 x.floor, .bool x.deleted] from rfl]
  have HWr := Lib.hid (fun (W : World) (hw : Only [] w W) => show Calls Tryz.prog 111 #[.agg #[.slice A x.places.length cap, .int .i64 x.mt.maxCount, .int .i64 x.mt.maxAge, .int .i64 x.mt.before, .int .i64 x.floor, .bool x.deleted]] W fun e w' => e = .returned (.agg #[.int .i64 22, .int .i64 ((x.places.length : Int) - 1), .int .i64 0, .bool false]) ∧ Only [] W w' from wrong_any (x := x) (hp.1.only0 hw) (by omega))
  have hk1 : ((c.kind : Int) == 2) = false := by rw [beq_eq_false_iff_ne]; omega
  have hk2 : ((c.kind : Int) == 3) = true := by rw [beq_iff_eq]; omega
  have HK := Lib.hid hk
  have HX := Lib.hid hexp
  have HE := Lib.hid (fun W => (expected_any c.expected x.places.length W ⟨by omega, by omega⟩))
  rw [hexp] at HE
  clear hk hexp
  go_enter Tryz.func41, Tryz.ntmps41
  go_wp2_with fail
  refine wp_region_in [] [0, 1, 2, 3, 4, 5, 6, 7, 8] [9] [10] (by kernel_rfl) (by kernel_rfl) (by intro c d u a w h; cases d <;> exact h) ?_
  show wpQuiet _ _ _ _ [_, _, _, _, _, _, _, _, _] _
  repeat (go_big_quiet_step (fail))
  refine wpQuiet_nil ?_
  show wpList _ _ _ [_] _ _
  go_wp2_with fail
  refine check_of (S := []) (((Only.refl [] _).alloc _).drew) ?_
  show wpList _ _ _ [_] _ _
  clear F0 X0
  go_wp2_with fail
  have k5 : ∀ o1 o2 o3 o4 o5, Only [] w (((((w.alloc o1).alloc o2).alloc o3).alloc o4).alloc o5).drew := fun o1 o2 o3 o4 o5 => ((h0 o1 o2 o3 o4).alloc o5).drew
  have kH : ∀ cs t o1 o2 o3 o4, Blk (((((w.alloc o1).alloc o2).alloc o3).alloc o4).alloc (.cells cs t)).drew (w.heap.size + 1 + 1 + 1 + 1) t cs := fun cs t o1 o2 o3 o4 => by
    have := (Only.refl [] _).drew.blk (Blk.new ((((w.alloc o1).alloc o2).alloc o3).alloc o4) t cs) (by simp <;> omega)
    simpa using this
  have kX : ∀ cs t o1 o3 o4 o5, Blk (((((w.alloc o1).alloc (.cells cs t)).alloc o3).alloc o4).alloc o5).drew (w.heap.size + 1) t cs := fun cs t o1 o3 o4 o5 => ((Only.refl [] _).alloc o5).drew.blk (kX cs t o1 o3 o4) (by simp <;> omega)
  have kA : ∀ cs t o1 o2 o4 o5, Blk (((((w.alloc o1).alloc o2).alloc (.cells cs t)).alloc o4).alloc o5).drew (w.heap.size + 1 + 1) t cs := fun cs t o1 o2 o4 o5 => ((Only.refl [] _).alloc o5).drew.blk (kA cs t o1 o2 o4) (by simp <;> omega)
  have kY : ∀ cs t o1 o2 o3 o5, Blk (((((w.alloc o1).alloc o2).alloc o3).alloc (.cells cs t)).alloc o5).drew (w.heap.size + 1 + 1 + 1) t cs := fun cs t o1 o2 o3 o5 => ((Only.refl [] _).alloc o5).drew.blk (kY cs t o1 o2 o3) (by simp <;> omega)
  have kS : ∀ o1 o2 o3 o4 o5, StAt (((((w.alloc o1).alloc o2).alloc o3).alloc o4).alloc o5).drew M sb mb av pf s := fun o1 o2 o3 o4 o5 => h.only0 (k5 o1 o2 o3 o4 o5)
  go_wp2_with (go_at_call 110; refine (HE.out _).mono ?_; rintro e w1 ⟨rfl, hWE⟩; subst hWE)
  have H0 := fun v a b d o1 o2 o3 o4 => Within.cell (S := [w.heap.size + 1 + 1]) ((kH #[v, a, b, d] 54 o1 o2 o3 o4).cell 0) (by simp <;> omega)
  have H1 := fun v a b d o1 o2 o3 o4 => Within.cell (S := [w.heap.size + 1 + 1]) ((kH #[v, a, b, d] 54 o1 o2 o3 o4).cell 1) (by simp <;> omega)
  have H2 := fun v a b d o1 o2 o3 o4 => Within.cell (S := [w.heap.size + 1 + 1]) ((kH #[v, a, b, d] 54 o1 o2 o3 o4).cell 2) (by simp <;> omega)
  have H3 := fun v a b d o1 o2 o3 o4 => Within.cell (S := [w.heap.size + 1 + 1]) ((kH #[v, a, b, d] 54 o1 o2 o3 o4).cell 3) (by simp <;> omega)
  have X0 := fun v a b d f g o1 o3 o4 o5 => Within.cell (S := [w.heap.size + 1 + 1]) ((kX #[v, a, b, d, f, g] 82 o1 o3 o4 o5).cell 0) (by simp <;> omega)
  have X1 := fun v a b d f g o1 o3 o4 o5 => Within.cell (S := [w.heap.size + 1 + 1]) ((kX #[v, a, b, d, f, g] 82 o1 o3 o4 o5).cell 1) (by simp <;> omega)
  have X2 := fun v a b d f g o1 o3 o4 o5 => Within.cell (S := [w.heap.size + 1 + 1]) ((kX #[v, a, b, d, f, g] 82 o1 o3 o4 o5).cell 2) (by simp <;> omega)
  have X3 := fun v a b d f g o1 o3 o4 o5 => Within.cell (S := [w.heap.size + 1 + 1]) ((kX #[v, a, b, d, f, g] 82 o1 o3 o4 o5).cell 3) (by simp <;> omega)
  have X4 := fun v a b d f g o1 o3 o4 o5 => Within.cell (S := [w.heap.size + 1 + 1]) ((kX #[v, a, b, d, f, g] 82 o1 o3 o4 o5).cell 4) (by simp <;> omega)
  have X5 := fun v a b d f g o1 o3 o4 o5 => Within.cell (S := [w.heap.size + 1 + 1]) ((kX #[v, a, b, d, f, g] 82 o1 o3 o4 o5).cell 5) (by simp <;> omega)
  refine wp_region_in [w.heap.size + 1 + 1] [0, 2] [1, 3] [4] (by kernel_rfl) (by kernel_rfl) (by intro c d u a w h; cases d <;> exact h) ?_
  show wpQuiet _ _ _ _ [_, _] _
  repeat (go_big_quiet_step (fail))
  refine wpQuiet_nil ?_
  show wpList _ _ _ [_] _ _
  go_wp2_with (go_at_call 111; refine (HWr.out _ (k5 _ _ _ _ _).drew).mono ?_; rintro e w1 ⟨rfl, ho1⟩)
  refine check_of (S := [w.heap.size + 1 + 1]) (((Only.refl [] _).drew.trans ho1).of_nil) ?_
  show wpList _ _ _ [_] _ _
  have hA1 := fun i => (ho1.blk ((Only.refl [] _).drew.blk (kA _ _ _ _ _ _) (by simp)) (by simp <;> omega)).cell i
  have hA1f := fun i => (ho1.blk ((Only.refl [] _).drew.blk (kA _ _ _ _ _ _) (by simp)) (by simp <;> omega)).free i
  have hY1 := fun i => (ho1.blk ((Only.refl [] _).drew.blk (kY _ _ _ _ _ _) (by simp)) (by simp <;> omega)).cell i
  have hY1f := fun i => (ho1.blk ((Only.refl [] _).drew.blk (kY _ _ _ _ _ _) (by simp)) (by simp <;> omega)).free i
  go_wp2_with fail
  refine check_of (S := [w.heap.size + 1 + 1]) (by repeat (first | exact ((Only.refl [] _).drew.trans ho1).of_nil | refine Only.drew ?_ | refine Only.setCell ?_ (.inl (by simp)) _)) ?_
  show wpList _ _ _ [_] _ _
  go_wp2
  have hR := HR.out
  subst hR
  clear HR H0 H1 H2 H3 X0 X1 X2 X3 X4 X5
  refine bodyPost_ret (v := .tuple #[.agg #[.int .i64 22, .int .i64 ((x.places.length : Int) - 1), .int .i64 0, .bool false], .agg #[.slice A x.places.length cap, .int .i64 x.mt.maxCount, .int .i64 x.mt.maxAge, .int .i64 x.mt.before, .int .i64 x.floor, .bool x.deleted]]) (by simp [results, Tryz.results41, go_sem, hA1, hY1]) rfl ⟨.slice A x.places.length cap, ?_⟩
  have hE : s.act c x = (wrong x, x, s) := by
    have := HK.out
    unfold MS.act
    rw [if_neg (by omega), if_pos (by omega), HX.out, if_neg (by decide)]
  rw [hE]
  refine ⟨rfl, ActLeads.same h hp ?hw⟩
  case hw =>
    iterate 10 (refine Only.setCell ?_ (.inr (by simp <;> omega)) _)
    exact (k5 _ _ _ _ _).drew.trans ho1
end Go.Proofs.YtikboecmcbcghaaGreat
