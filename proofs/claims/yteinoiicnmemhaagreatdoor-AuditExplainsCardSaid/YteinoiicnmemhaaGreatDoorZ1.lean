/- Proved here: contracts of functions and plain laws, part 1 of one proof. Conditions: each theorem names its own. -/
import Derived.WalkKit
import Derived.WalkSpells
import Derived.WalkLawsBesides
import Derived.Maps.Own
import Derived.Maps.OwnOps
import Derived.Maps.OwnSet
import Derived.Maps.RangeWalk
import Derived.Lib.Hide
set_option linter.unusedSectionVars false
set_option linter.unusedSimpArgs false
set_option linter.unusedVariables false
namespace Go.Proofs.YteinoiicnmemhaaGreatDoor
section
open Go.RowKit Go.MapKept Go.ChangeMaps

/-! ## blocks -/
/-- Block g is just these cells of type t, none frozen. -/
def Blk (w : World) (g : Nat) (t : TypeId) (cs : Array Value) : Prop := w.heap[g]? = some (.cells cs t (0, 0))

section
variable {w w' : World} {g : Nat} {t : TypeId} {cs : Array Value}
theorem Blk.lt (h : Blk w g t cs) : g < w.heap.size := lt_of_block h
theorem Blk.cell (h : Blk w g t cs) (i : Nat) : w.cell? ⟨g, i, none⟩ = cs[i]? := cell_of_row w g i cs t (0, 0) h
theorem Blk.free (h : Blk w g t cs) (i : Nat) : w.frozen? ⟨g, i, none⟩ = false := frozen_of_row w g i cs t h
theorem Blk.new (w : World) (t : TypeId) (cs : Array Value) : Blk (w.alloc (.cells cs t)) w.heap.size t cs := heap_alloc_new w _
theorem Blk.set (h : Blk w g t cs) (i : Nat) (u : Value) : Blk (w.setCell ⟨g, i, none⟩ u) g t (cs.setIfInBounds i u) := heap_setCell_same w g i cs t u h
theorem Blk.of_eq (h : Blk w g t cs) (e : w'.heap[g]? = w.heap[g]?) : Blk w' g t cs := e.trans h
theorem Blk.other {g' : Nat} {t' : TypeId} {cs' : Array Value} (h : Blk w g t cs) (h' : Blk w g' t' cs') (ht : t ≠ t') : g ≠ g' := by
  intro e
  subst e
  unfold Blk at h h'
  rw [h] at h'
  simp at h'
  exact ht h'.2
theorem Blk.not_map {b : Nat} {es : Array MapEntry} {clock : Nat} (h : Blk w g t cs) (hb : w.heap[b]? = some (.map es clock)) : g ≠ b := by
  intro e
  subst e
  unfold Blk at h
  rw [h] at hb
  simp at hb
end

/-! ## what a call may have changed -/
/-- Of what was there at w only the blocks in S may have turned in w'. -/
structure Only (S : List Nat) (w w' : World) : Prop where
  os : w'.os = w.os
  tape : w'.tape = w.tape
  output : w'.output = w.output
  size : w.heap.size ≤ w'.heap.size
  block : ∀ k, k < w.heap.size → k ∉ S → w'.heap[k]? = w.heap[k]?

section
variable {S S' : List Nat} {a w w' : World}
theorem Only.refl (S : List Nat) (w : World) : Only S w w := ⟨rfl, rfl, rfl, Nat.le_refl _, fun _ _ _ => rfl⟩
theorem Only.trans (h : Only S a w) (k : Only S w w') : Only S a w' :=
  ⟨k.os.trans h.os, k.tape.trans h.tape, k.output.trans h.output, Nat.le_trans h.size k.size, fun i hi hn => (k.block i (Nat.lt_of_lt_of_le hi h.size) hn).trans (h.block i hi hn)⟩
theorem Only.mono (h : Only S a w) (hs : ∀ k, k ∈ S → k ∈ S') : Only S' a w := ⟨h.os, h.tape, h.output, h.size, fun i hi hn => h.block i hi (fun e => hn (hs i e))⟩
theorem Only.of_nil (h : Only [] a w) : Only S a w := h.mono (fun _ e => by cases e)
/-- A step behind: it may turn blocks in S, or blocks that are new since a. -/
theorem Only.step (h : Only S a w) (k : Only S' w w') (hs : ∀ i, i ∈ S' → i ∈ S ∨ a.heap.size ≤ i) : Only S a w' :=
  ⟨k.os.trans h.os, k.tape.trans h.tape, k.output.trans h.output, Nat.le_trans h.size k.size, fun i hi hn =>
    (k.block i (Nat.lt_of_lt_of_le hi h.size) (fun e => (hs i e).elim hn (fun e => absurd hi (by omega)))).trans (h.block i hi hn)⟩
theorem Only.alloc (h : Only S a w) (o : Obj) : Only S a (w.alloc o) :=
  h.trans ⟨rfl, rfl, rfl, by simp, fun k hk _ => Below.heap_alloc _ _ _ hk⟩
theorem Only.setCell (h : Only S a w) {p : Addr} (hp : p.block ∈ S ∨ a.heap.size ≤ p.block) (u : Value) : Only S a (w.setCell p u) :=
  h.step (S' := [p.block]) ⟨rfl, rfl, rfl, by simp [World.setCell], fun k _ hn => Below.heap_setCell _ _ _ _ (by simpa using hn)⟩ (fun i hi => by simp at hi; subst hi; exact hp)
theorem Only.drew (h : Only S a w) : Only S a w.drew := ⟨h.os, h.tape, h.output, h.size, h.block⟩
theorem Only.setBlock (h : Only S a w) {b : Nat} (hb : b ∈ S ∨ a.heap.size ≤ b) (o : Obj) : Only S a (setBlock w b o) :=
  h.step (S' := [b]) ⟨rfl, rfl, rfl, by simp [Go.ChangeMaps.setBlock], fun k _ hn => by
    simp only [Go.ChangeMaps.setBlock, Array.getElem?_setIfInBounds]
    rw [if_neg (by intro e; exact hn (by simp [e]))]⟩ (fun i hi => by simp at hi; subst hi; exact hb)
theorem Only.grown (h : Only S a w) {row : Option Nat} (hg : w.grownBy w' row) (hr : ∀ k, row = some k → k ∈ S ∨ a.heap.size ≤ k) : Only S a w' :=
  h.step (S' := row.toList) ⟨hg.os, hg.tape, hg.output, hg.size, fun k hk hn => hg.block k hk (fun e => hn (by rw [← e]; simp))⟩ (fun i hi => hr i (by simpa using hi))
theorem Only.below (h : Only S a w) {B : Nat} (hb : Below B w w') (hB : w.heap.size ≤ B) : Only S a w' :=
  h.trans ⟨hb.os, hb.tape, hb.output, hb.size, fun k hk _ => hb.block k (by omega)⟩
theorem Only.of_below {B : Nat} (hb : Below B w w') (hB : w.heap.size ≤ B) : Only S w w' := (Only.refl S w).below hb hB
theorem Only.toBelow (h : Only [] a w) : Below a.heap.size a w := ⟨h.os, h.tape, h.output, h.size, fun k hk => h.block k hk (by simp)⟩
theorem Only.cell (h : Only S a w) {p : Addr} (hp : p.block < a.heap.size) (hn : p.block ∉ S) : w.cell? p = a.cell? p := World.cell?_of_block (h.block p.block hp hn)
theorem Only.blk (h : Only S a w) {g : Nat} {t : TypeId} {cs : Array Value} (hg : Blk a g t cs) (hn : g ∉ S) : Blk w g t cs := hg.of_eq (h.block g hg.lt hn)
end

/-! ## association lists -/
section
variable {κ ν : Type} [DecidableEq κ]
def aget : List (κ × ν) → κ → Option ν
  | [], _ => none
  | (a, b) :: l, k => if a = k then some b else aget l k
def aput : List (κ × ν) → κ → ν → List (κ × ν)
  | [], k, v => [(k, v)]
  | (a, b) :: l, k, v => if a = k then (k, v) :: l else (a, b) :: aput l k v
def adel : List (κ × ν) → κ → List (κ × ν)
  | [], _ => []
  | (a, b) :: l, k => if a = k then l else (a, b) :: adel l k
/-- No key stands twice. -/
def ANodup (l : List (κ × ν)) : Prop := (l.map (·.1)).Nodup

theorem aget_none {l : List (κ × ν)} {k : κ} : aget l k = none ↔ k ∉ l.map (·.1) := by
  induction l with
  | nil => simp [aget]
  | cons p l ih =>
    obtain ⟨a, b⟩ := p
    simp only [aget]
    split
    · rename_i h; subst h; simp
    · rename_i h; rw [ih]; simp only [List.map_cons, List.mem_cons, not_or]; exact ⟨fun x => ⟨fun e => h e.symm, x⟩, fun x => x.2⟩
theorem aget_mem {l : List (κ × ν)} {k : κ} {v : ν} (h : aget l k = some v) : (k, v) ∈ l := by
  induction l with
  | nil => simp [aget] at h
  | cons p l ih =>
    obtain ⟨a, b⟩ := p
    simp only [aget] at h
    split at h
    · rename_i e; subst e; cases h; simp
    · exact List.mem_cons_of_mem _ (ih h)
theorem aget_of_mem {l : List (κ × ν)} (hn : ANodup l) {k : κ} {v : ν} (h : (k, v) ∈ l) : aget l k = some v := by
  induction l with
  | nil => simp at h
  | cons p l ih =>
    obtain ⟨a, b⟩ := p
    simp only [ANodup, List.map_cons, List.nodup_cons] at hn
    simp only [List.mem_cons, Prod.mk.injEq] at h
    simp only [aget]
    rcases h with ⟨rfl, rfl⟩ | h
    · simp
    · rw [if_neg, ih hn.2 h]
      intro e; subst e
      exact hn.1 (List.mem_map.2 ⟨_, h, rfl⟩)
theorem aput_keys (l : List (κ × ν)) (k : κ) (v : ν) : (aput l k v).map (·.1) = if k ∈ l.map (·.1) then l.map (·.1) else l.map (·.1) ++ [k] := by
  induction l with
  | nil => simp [aput]
  | cons p l ih =>
    obtain ⟨a, b⟩ := p
    simp only [aput]
    by_cases h : a = k
    · subst h; simp
    · have h' : ¬ k = a := fun e => h e.symm
      rw [if_neg h]
      simp only [List.map_cons, ih, List.mem_cons, h', false_or]
      split <;> simp
theorem aput_nodup {l : List (κ × ν)} (h : ANodup l) (k : κ) (v : ν) : ANodup (aput l k v) := by
  unfold ANodup at *
  rw [aput_keys]
  split
  · exact h
  · rename_i hk
    refine List.nodup_append.2 ⟨h, by simp, ?_⟩
    intro a ha b hb
    simp at hb
    subst hb
    intro e
    subst e
    exact hk ha
theorem aget_aput (l : List (κ × ν)) (k q : κ) (v : ν) : aget (aput l k v) q = if k = q then some v else aget l q := by
  induction l with
  | nil => simp [aput, aget]
  | cons p l ih =>
    obtain ⟨a, b⟩ := p
    simp only [aput]
    by_cases h : a = k
    · subst h
      simp only [if_true, aget]
      split <;> simp_all
    · rw [if_neg h]
      simp only [aget, ih]
      by_cases h2 : a = q
      · subst h2; simp; intro e; exact absurd e.symm h
      · simp [h2]
theorem length_aput (l : List (κ × ν)) (k : κ) (v : ν) : (aput l k v).length = if (aget l k).isSome then l.length else l.length + 1 := by
  induction l with
  | nil => simp [aput, aget]
  | cons p l ih =>
    obtain ⟨a, b⟩ := p
    simp only [aput, aget]
    by_cases h : a = k
    · simp [h]
    · simp only [if_neg h, List.length_cons, ih]; split <;> rfl
theorem aget_map {μ : Type} (f : ν → μ) (l : List (κ × ν)) (k : κ) : aget (l.map fun p => (p.1, f p.2)) k = (aget l k).map f := by
  induction l with
  | nil => simp [aget]
  | cons p l ih => obtain ⟨a, b⟩ := p; simp only [aget, List.map_cons]; split <;> simp [ih]
end

/-! ## maps -/
/-- How a key of Go lies as a value. -/
structure KeyEnc {κ : Type} (d : TypeDesc) (enc : κ → Value) : Prop where
  key : ∀ a, IsKey d (enc a)
  inj : ∀ a b, enc a = enc b → a = b

theorem keyEnc_string : KeyEnc .string Value.string := ⟨fun _ => trivial, fun _ _ h => by injection h⟩
theorem keyEnc_int (q : IntKind) : KeyEnc (.int q) (Value.int q) := ⟨fun _ => rfl, fun _ _ h => by injection h⟩
theorem KeyEnc.same {κ : Type} [DecidableEq κ] {d : TypeDesc} {enc : κ → Value} (K : KeyEnc d enc) (a b : κ) : Instr.sameNow d (enc a) (enc b) = some (decide (a = b)) := by
  obtain ⟨r, hr, hi⟩ := sameNow_of_keys (K.key a) (K.key b)
  rw [hr]
  by_cases h : a = b
  · subst h; simp [hi]
  · have : r = false := by
      cases r with
      | false => rfl
      | true => exact absurd (K.inj _ _ (hi.1 rfl)) h
    simp [this, h]

section
variable {κ : Type} [DecidableEq κ]
/-- Block b is a map that holds just these, in this order of coming. -/
def MapIs (enc : κ → Value) (w : World) (b : Nat) (kv : List (κ × Value)) : Prop :=
  ∃ es clock, w.heap[b]? = some (.map es clock) ∧ Stamped es clock ∧ es.toList.map (fun x => (x.key, x.val)) = kv.map (fun p => (enc p.1, p.2))

variable {enc : κ → Value} {w w' : World} {b : Nat} {kv : List (κ × Value)}
theorem MapIs.of_eq (h : MapIs enc w b kv) (e : w'.heap[b]? = w.heap[b]?) : MapIs enc w' b kv := by
  obtain ⟨es, clock, h1, h2⟩ := h
  exact ⟨es, clock, e.trans h1, h2⟩
theorem MapIs.lt (h : MapIs enc w b kv) : b < w.heap.size := by
  obtain ⟨es, clock, h1, _⟩ := h
  exact lt_of_block h1
theorem MapIs.only {S : List Nat} (h : MapIs enc w b kv) (k : Only S w w') (hn : b ∉ S) : MapIs enc w' b kv := h.of_eq (k.block b h.lt hn)
theorem MapIs.alloc (h : MapIs enc w b kv) (o : Obj) : MapIs enc (w.alloc o) b kv := h.of_eq (Below.heap_alloc _ _ _ h.lt)
theorem MapIs.drew (h : MapIs enc w b kv) : MapIs enc w.drew b kv := h
theorem MapIs.ne_blk {g : Nat} {t : TypeId} {cs : Array Value} (h : MapIs enc w b kv) (hg : Blk w g t cs) : b ≠ g := by
  obtain ⟨es, clock, h1, _⟩ := h
  exact fun e => hg.not_map h1 e.symm
/-- A store into a cell that is there does not turn a map. -/
theorem MapIs.new (enc : κ → Value) (w : World) : MapIs enc (w.alloc (.map #[] 0)) w.heap.size [] := ⟨#[], 0, heap_alloc_new w _, stamped_empty 0, rfl⟩

theorem findNow_enc {d : TypeDesc} (K : KeyEnc d enc) (k : κ) : ∀ (es : List MapEntry) (kv : List (κ × Value)) (i : Nat), es.map (fun x => (x.key, x.val)) = kv.map (fun p => (enc p.1, p.2)) →
    (Instr.findNow d (enc k) es i = some none ∧ aget kv k = none ∧ (∀ x ∈ es, x.key ≠ enc k) ∧ (∀ v, aput kv k v = kv ++ [(k, v)]) ∧ adel kv k = kv) ∨
    ∃ j e v, Instr.findNow d (enc k) es i = some (some (i + j, v)) ∧ es[j]? = some e ∧ e.key = enc k ∧ e.val = v ∧ kv[j]? = some (k, v) ∧ aget kv k = some v ∧ (∀ v, aput kv k v = kv.set j (k, v)) ∧ adel kv k = kv.eraseIdx j
  | [], [], _, _ => .inl ⟨rfl, rfl, by simp, fun _ => rfl, rfl⟩
  | [], _ :: _, _, h => by simp at h
  | _ :: _, [], _, h => by simp at h
  | e :: es, (a, v) :: kv, i, h => by
    simp only [List.map_cons, List.cons.injEq, Prod.mk.injEq] at h
    obtain ⟨⟨h1, h2⟩, h3⟩ := h
    have hs := K.same k a
    rw [← h1] at hs
    by_cases hk : a = k
    · subst hk
      refine .inr ⟨0, e, v, ?_, rfl, h1, h2, rfl, by simp [aget], fun _ => by simp [aput], by simp [adel]⟩
      simp [Instr.findNow, hs, h2]
    · have hk' : ¬ k = a := fun e => hk e.symm
      have hs' : Instr.sameNow d (enc k) e.key = some false := by simp [hs, hk']
      have hne : e.key ≠ enc k := by
        intro q
        have := K.same k k
        rw [q] at hs'
        rw [hs'] at this
        simp at this
      rcases findNow_enc K k es kv (i + 1) h3 with ⟨p1, p2, p3, p4, p5⟩ | ⟨j, e', v', p1, p2, p3, p4, p5, p6, p7, p8⟩
      · refine .inl ⟨by simp [Instr.findNow, hs', p1], by simp [aget, hk, p2], ?_, fun u => by simp [aput, hk, p4], by simp [adel, hk, p5]⟩
        intro x hx
        cases hx with
        | head => exact hne
        | tail _ hx => exact p3 x hx
      · refine .inr ⟨j + 1, e', v', by simp [Instr.findNow, hs', p1]; omega, by simpa using p2, p3, p4, by simpa using p5, by simp [aget, hk, p6], fun u => by simp [aput, hk, p7], by simp [adel, hk, p8]⟩

variable {P : Program} {t k e : TypeId} {d : TypeDesc}
theorem MapIs.nodup (h : MapIs enc w b kv) : ANodup kv := by
  obtain ⟨es, clock, _, ⟨_, _, h3⟩, h4⟩ := h
  have e1 : es.toList.map (·.key) = (kv.map (·.1)).map enc := by
    have := congrArg (List.map Prod.fst) h4
    simpa [List.map_map, Function.comp_def] using this
  rw [e1] at h3
  unfold ANodup
  generalize kv.map (·.1) = l at h3
  induction l with
  | nil => simp
  | cons a l ih =>
    simp only [List.map_cons, List.nodup_cons] at h3
    exact List.nodup_cons.2 ⟨fun hm => h3.1 (List.mem_map.2 ⟨a, hm, rfl⟩), ih h3.2⟩

theorem MapIs.lookup (K : KeyEnc d enc) (ht : P.underlying t = some (.map k e)) (hk : P.underlying k = some d) {z : Value} (hz : (zeroValue e).run P w = .ok z w) (h : MapIs enc w b kv) (q : κ) (ok : Bool) :
    (Instr.lookup t (.map (some b)) (enc q) ok).run P w = .ok (if ok then .tuple #[(aget kv q).getD z, .bool (aget kv q).isSome] else (aget kv q).getD z) w := by
  obtain ⟨es, clock, hb, hs, hm⟩ := h
  rcases findNow_enc K q es.toList kv 0 hm with ⟨p1, p2, _⟩ | ⟨j, e', v, p1, _, _, _, _, p6, _⟩
  · cases ok <;> simp [Instr.lookup, run_underlying ht, MapKept.run_getObj_map hb, MapKept.run_checkKey hk (K.key q), MapKept.run_findKey hk p1, hz, p2, Result.andThen]
  · cases ok <;> simp [Instr.lookup, run_underlying ht, MapKept.run_getObj_map hb, MapKept.run_checkKey hk (K.key q), MapKept.run_findKey hk p1, p6, Result.andThen]

theorem MapIs.update (K : KeyEnc d enc) (ht : P.underlying t = some (.map k e)) (hk : P.underlying k = some d) (h : MapIs enc w b kv) (q : κ) (v : Value) :
    ∃ o, (Instr.mapUpdate t (.map (some b)) (enc q) v).run P w = .ok () (setBlock w b o) ∧ MapIs enc (setBlock w b o) b (aput kv q v) := by
  obtain ⟨es, clock, hb, hs, hm⟩ := h
  rcases findNow_enc K q es.toList kv 0 hm with ⟨p1, p2, p3, p4, _⟩ | ⟨j, e', v0, p1, p2, p3, p4, p5, _, p7, _⟩
  · refine ⟨.map (es.push { key := enc q, val := v, born := clock }) (clock + 1), ?_, _, _, heap_setBlock_same hb _, stamped_push hs p3, ?_⟩
    · simp [Instr.mapUpdate, run_underlying ht, MapKept.run_getObj_map hb, MapKept.run_checkKey hk (K.key q), MapKept.run_findKey hk p1, MapKept.run_setObj_map _ hb, Result.andThen, Go.ChangeMaps.setBlock]
    · rw [p4]; simp [hm]
  · have hj : es[j]? = some e' := by simpa using p2
    have hkey : ∀ x, es[j]? = some x → ({ x with key := enc q, val := v } : MapEntry).key = x.key := fun x hx => by rw [hj] at hx; cases hx; exact p3.symm
    refine ⟨.map (es.modify j fun x => { x with key := enc q, val := v }) clock, ?_, _, _, heap_setBlock_same hb _, stamped_modify hs j _ (fun _ _ => rfl) (fun x _ hx => hkey x hx), ?_⟩
    · simp [Instr.mapUpdate, run_underlying ht, MapKept.run_getObj_map hb, MapKept.run_checkKey hk (K.key q), MapKept.run_findKey hk p1, hj, p3, MapKept.run_keyThatStays (K.key q), MapKept.run_setObj_map _ hb, Result.andThen, Go.ChangeMaps.setBlock]
    · rw [p7]
      apply List.ext_getElem?
      intro i
      have hm' := congrArg (fun l => l[i]?) hm
      simp only [List.getElem?_map] at hm'
      simp only [List.getElem?_map, Array.getElem?_toList, Array.getElem?_modify, List.getElem?_set]
      by_cases e : j = i
      · subst e
        have hl : j < kv.length := (List.getElem?_eq_some_iff.1 p5).1
        simp [hj, hl]
      · rw [if_neg e, if_neg e]
        simpa using hm'

/-! the laws at the operation -/
variable {ops : Array Oper} {rest : List Oper} {o : Oper} {a : Act} {Q : Exit → Act → World → Prop}
theorem wpList_lookup_is (hg : o.guard = none) {m x : Operand} (t : TypeId) (hop : o.op = .lookup t m x false) (K : KeyEnc d enc) (ht : P.underlying t = some (.map k e)) (hk : P.underlying k = some d) {z : Value}
    (hz : (zeroValue e).run P w = .ok z w) (q : κ) (hm : a.eval m = .map (some b)) (hx : a.eval x = enc q) (h : MapIs enc w b kv) (v : Value) (hv : (aget kv q).getD z = v)
    (hK : wpList P ops Q rest (a.put o.dst v) w) : wpList P ops Q (o :: rest) a w := by
  refine wpList_plain hg fun K' hK' => ?_
  unfold Oper.wp
  simp only [execOp, hop, hm, hx, h.lookup K ht hk hz q false, Sem.run_bind, Sem.run_pure, Result.andThen_ok, hv]
  exact hK' _ _ hK
theorem wpList_lookup_ok_is (hg : o.guard = none) {m x : Operand} (t : TypeId) (hop : o.op = .lookup t m x true) (K : KeyEnc d enc) (ht : P.underlying t = some (.map k e)) (hk : P.underlying k = some d) {z : Value}
    (hz : (zeroValue e).run P w = .ok z w) (q : κ) (hm : a.eval m = .map (some b)) (hx : a.eval x = enc q) (h : MapIs enc w b kv) (v : Value) (is : Bool) (hv : (aget kv q).getD z = v) (hi : (aget kv q).isSome = is)
    (hK : wpList P ops Q rest (a.put o.dst (.tuple #[v, .bool is])) w) : wpList P ops Q (o :: rest) a w := by
  refine wpList_plain hg fun K' hK' => ?_
  unfold Oper.wp
  simp only [execOp, hop, hm, hx, h.lookup K ht hk hz q true, Sem.run_bind, Sem.run_pure, Result.andThen_ok, hv, hi]
  exact hK' _ _ hK
theorem wpList_update_is (hg : o.guard = none) {m x v : Operand} (t : TypeId) (hop : o.op = .mapUpdate t m x v) (K : KeyEnc d enc) (ht : P.underlying t = some (.map k e)) (hk : P.underlying k = some d)
    (q : κ) (val : Value) (hm : a.eval m = .map (some b)) (hx : a.eval x = enc q) (hv : a.eval v = val) (h : MapIs enc w b kv)
    (hK : ∀ w', MapIs enc w' b (aput kv q val) → Only [b] w w' → wpList P ops Q rest (a.put o.dst undef) w') : wpList P ops Q (o :: rest) a w := by
  refine wpList_plain hg fun K' hK' => ?_
  obtain ⟨o', hrun, r1⟩ := h.update K ht hk q val
  unfold Oper.wp
  simp [execOp, hop, hm, hx, hv, hrun, Result.andThen]
  exact hK' _ _ (hK _ r1 ((Only.refl _ w).setBlock (.inl (by simp)) _))
end
end
end Go.Proofs.YteinoiicnmemhaaGreatDoor
namespace Go.Proofs.YteinoiicnmemhaaGreatDoor.J
section
open Go.RowKit

/-- A file of the disk. -/
structure File where
  b : ByteArray
  lasts : Int
  known : Bool
def File.zero : File := ⟨⟨#[]⟩, 0, false⟩
def File.val (f : File) : Value := .agg #[.string f.b, .int .i64 f.lasts, .bool f.known]
abbrev Files := List (ByteArray × File)
/-- A disk. -/
structure DS where
  on : Bool
  room : Int
  fs : Files
  armed : Bool
  left : Int
  keep : List Int

/-- A name that can't be. -/
def badName (s : ByteArray) : Bool := decide (s.size < 1) || decide (40 < s.size)
def mayAll : List ByteArray → Int
  | [] => 0
  | s :: l => if badName s then 1 else mayAll l
namespace DS
def new (room : Int) : DS := ⟨true, room, [], false, 0, []⟩
def may (d : DS) (l : List ByteArray) : Int := if d.on then mayAll l else 14
def get (d : DS) (n : ByteArray) : File := (aget d.fs n).getD File.zero
def find (d : DS) (n : ByteArray) : File × Int :=
  if d.may [n] = 0 then (if (aget d.fs n).isSome then (d.get n, 0) else (File.zero, 8)) else (File.zero, d.may [n])
def names (d : DS) : List ByteArray := ((d.fs.map fun p => p.1.data.toList).mergeSort (fun x y => decide (x ≤ y))).map fun l => ⟨l.toArray⟩
def size (d : DS) (n : ByteArray) : Int × Int := ((d.find n).1.b.size, (d.find n).2)
def list (d : DS) (p : ByteArray) : List ByteArray := if d.on then d.names.filter (fun s => p.data.toList.isPrefixOf s.data.toList) else []

end DS
end
section
open Go.RowKit

def sizes (l : List (ByteArray × File)) : Nat := (l.map fun p => p.2.b.size).sum
/-- What keeps a list of files small. -/
structure Fs (fs : Files) (M : Nat) : Prop where
  files : ∀ p ∈ fs, 0 ≤ p.2.lasts ∧ p.2.lasts ≤ p.2.b.size
  bytes : sizes fs ≤ M
  few : fs.length ≤ 200
  nodup : ANodup fs
  short : ∀ p ∈ fs, p.1.size ≤ 40
namespace DS
end DS
namespace DS
end DS
end
end Go.Proofs.YteinoiicnmemhaaGreatDoor.J
namespace Go.Proofs.YteinoiicnmemhaaGreatDoor
section
open Go.RowKit

structure EventR where
  id : Int
  type : ByteArray
  data : ByteArray
  value : Nat
structure MetaR where
  maxCount : Int
  maxAge : Int
  before : Int
deriving DecidableEq
structure Cmd where
  kind : Int
  time : Int
  stream : ByteArray
  expected : Int
  events : List EventR
  mt : MetaR
structure StoredR where
  ev : EventR
  stream : ByteArray
  version : Int
  position : Int
  time : Int
structure StreamR where
  places : List Int
  mt : MetaR
  floor : Int
  deleted : Bool
structure MS where
  all : List StoredR
  m : List (ByteArray × StreamR)
  done : Int
  now : Int
structure Ans where
  err : Int
  version : Int
  position : Int
  again : Bool
deriving DecidableEq
def MetaR.zero : MetaR := ⟨0, 0, 0⟩
def StreamR.zero : StreamR := ⟨[], MetaR.zero, 0, false⟩
def EventR.cells (e : EventR) : List Value := [.int .i64 e.id, .string e.type, .string e.data, .float .f64 e.value]
def StoredR.cells (s : StoredR) : List Value := s.ev.cells ++ [.string s.stream, .int .i64 s.version, .int .i64 s.position, .int .i64 s.time]
def MetaR.cells (m : MetaR) : List Value := [.int .i64 m.maxCount, .int .i64 m.maxAge, .int .i64 m.before]
def StreamR.val (x : StreamR) (pv : Value) : Value := .agg #[pv, .int .i64 x.mt.maxCount, .int .i64 x.mt.maxAge, .int .i64 x.mt.before, .int .i64 x.floor, .bool x.deleted]
def Cmd.val (c : Cmd) (ev : Value) : Value := .agg #[.int .i64 c.kind, .int .i64 c.time, .string c.stream, .int .i64 c.expected, ev, .int .i64 c.mt.maxCount, .int .i64 c.mt.maxAge, .int .i64 c.mt.before]
def Ans.val (a : Ans) : Value := .agg #[.int .i64 a.err, .int .i64 a.version, .int .i64 a.position, .bool a.again]
def EventR.val (e : EventR) : Value := .agg #[.int .i64 e.id, .string e.type, .string e.data, .float .f64 e.value]
def MetaR.val (m : MetaR) : Value := .agg #[.int .i64 m.maxCount, .int .i64 m.maxAge, .int .i64 m.before]

/-! ## which commands may be -/
def okByte (b : UInt8) : Bool := !(decide ((b.toNat : Int) < 33) || decide (126 < (b.toNat : Int)) || decide ((b.toNat : Int) = 64))
def nameOk (s : ByteArray) : Bool := decide (1 ≤ s.size) && decide (s.size ≤ 60) && s.data.toList.all okByte
def within (n : Int) : Bool := decide (0 ≤ n) && decide (n ≤ 1099511627776)
def expects (n : Int) : Bool := within n || decide (n = -1) || decide (n = -2) || decide (n = -4)
def MetaR.ok (m : MetaR) : Bool := within m.maxCount && within m.maxAge && within m.before
def EventR.ok (e : EventR) : Bool := decide (1 ≤ e.id) && nameOk e.type && decide (e.data.size ≤ 200)
def eventsE (l : List EventR) : Int := if l.length = 0 then 1 else if 8 < l.length then 2 else if l.all EventR.ok then 0 else 1
def Cmd.spare (c : Cmd) : Bool :=
  (decide (c.kind ≠ 1 ∧ c.kind ≠ 2 ∧ c.kind ≠ 3) && decide (c.stream.toList ≠ [])) || (decide (c.kind ≠ 1 ∧ c.kind ≠ 3) && decide (c.expected ≠ 0)) ||
    (decide (c.kind ≠ 1) && decide (0 < c.events.length)) || (decide (c.kind ≠ 2) && decide (c.mt ≠ MetaR.zero))
def Cmd.check (c : Cmd) : Int :=
  if c.kind < 1 ∨ 5 < c.kind ∨ within c.time = false then 1
  else if c.kind ≤ 3 ∧ nameOk c.stream = false then 1
  else if c.kind = 1 ∧ eventsE c.events ≠ 0 then eventsE c.events
  else if (c.kind = 1 ∨ c.kind = 3) ∧ expects c.expected = false then 1
  else if c.kind = 2 ∧ c.mt.ok = false then 1
  else if c.spare then 1 else 0

/-! ## what is seen -/
def young (age now : Int) : List Int → Int
  | [] => 0
  | t :: l => if now - age < t then 0 else 1 + young age now l
def floorE (m : MetaR) (floor now : Int) (times : List Int) : Int :=
  let o1 := max (max floor 0) m.before
  let o2 := if 0 < m.maxCount then max o1 (times.length - m.maxCount) else o1
  let o3 := if 0 < m.maxAge then max o2 (young m.maxAge now times) else o2
  min o3 times.length
def timeAt (all : List StoredR) (p : Int) : Int := ((all[p.toNat]?).map (·.time)).getD 0
def idAt (all : List StoredR) (p : Int) : Int := ((all[p.toNat]?).map (·.ev.id)).getD 0
def times (all : List StoredR) (x : StreamR) : List Int := x.places.map (timeAt all)
namespace MS
def new : MS := ⟨[], [], 0, 0⟩
def find (s : MS) (n : ByteArray) : StreamR := (aget s.m n).getD StreamR.zero
def floorOf (s : MS) (x : StreamR) : Int := floorE x.mt x.floor s.now (times s.all x)
def put (s : MS) (n : ByteArray) (x : StreamR) : MS := { s with m := aput s.m n x }
def keep (s : MS) (n : ByteArray) (x : StreamR) : MS := s.put n { x with floor := s.floorOf x }
end MS
def expected (want count : Int) : Bool := if want = -2 then true else if want = -1 then decide (count = 0) else if want = -4 then decide (0 < count) else decide (want = count - 1)
def wrong (x : StreamR) : Ans := ⟨22, x.places.length - 1, 0, false⟩
def firstOf (all : List StoredR) (id : Int) : List Int → Int → Int
  | [], _ => -1
  | p :: l, k => if idAt all p = id then k else firstOf all id l (k + 1)
def MS.first (s : MS) (x : StreamR) (id : Int) : Int := firstOf s.all id x.places 0
def fitsAgain (c : Cmd) (v : Int) : Bool := decide (c.expected = -2) || decide (c.expected = -4) || (decide (c.expected = v - 1) && decide (0 < v)) || (decide (c.expected = -1) && decide (v = 0))
def sameIds (all : List StoredR) : List EventR → List Int → Bool
  | [], _ => true
  | _ :: _, [] => false
  | e :: l, p :: ps => decide (idAt all p = e.id) && sameIds all l ps
def MS.again (s : MS) (c : Cmd) (x : StreamR) (v : Int) : Ans :=
  if fitsAgain c v = false ∨ x.places.length - v < c.events.length then wrong x
  else if sameIds s.all c.events (x.places.drop v.toNat) then ⟨0, v, (x.places[(v + c.events.length - 1).toNat]?).getD 0, true⟩ else wrong x
def isNaN (b : Nat) : Bool := FloatKind.f64.format.order b b != some Ordering.eq
def canon (b : Nat) : Nat := if isNaN b then 9221120237041090560 else b
def EventR.canon (e : EventR) : EventR := { e with value := Proofs.YteinoiicnmemhaaGreatDoor.canon e.value }
/-- The events as they are stored: behind all, in the stream. -/
def storedOf (stream : ByteArray) (now : Int) : List EventR → Int → Int → List StoredR
  | [], _, _ => []
  | e :: l, v, at_ => ⟨e.canon, stream, v, at_, now⟩ :: storedOf stream now l (v + 1) (at_ + 1)
def rangeFrom : Nat → Int → List Int
  | 0, _ => []
  | n + 1, a => a :: rangeFrom n (a + 1)
def MS.append (s : MS) (c : Cmd) (x : StreamR) : Ans × StreamR × MS :=
  (⟨0, x.places.length, s.all.length + c.events.length - 1, false⟩, { x with places := x.places ++ rangeFrom c.events.length s.all.length },
    { s with all := s.all ++ storedOf c.stream s.now c.events x.places.length s.all.length })
def MS.act (s : MS) (c : Cmd) (x : StreamR) : Ans × StreamR × MS :=
  let here : Ans := ⟨0, x.places.length, s.all.length, false⟩
  if c.kind = 2 then (here, { x with mt := c.mt }, s)
  else if c.kind = 3 then (if expected c.expected x.places.length then (here, { x with deleted := true }, s) else (wrong x, x, s))
  else
    let v := s.first x ((c.events.head?).map (·.id) |>.getD 0)
    if 0 ≤ v then (s.again c x v, x, s)
    else if expected c.expected x.places.length then s.append c x else (wrong x, x, s)
def MS.tick (s : MS) (t : Int) : MS := { s with now := max s.now t, done := s.done + 1 }
def MS.do (s : MS) (c : Cmd) : Ans × MS :=
  if c.check ≠ 0 then (⟨c.check, 0, 0, false⟩, s)
  else
    let s1 := s.tick c.time
    if c.kind = 4 ∨ c.kind = 5 then (⟨0, 0, s.all.length, false⟩, s1)
    else
      let x := s1.find c.stream
      if x.deleted then (⟨23, 0, 0, false⟩, s1)
      else
        let r := s1.act c { x with floor := s1.floorOf x }
        (r.1, r.2.2.keep c.stream r.2.1)
end
end Go.Proofs.YteinoiicnmemhaaGreatDoor
