/- Proved here: contracts of functions and plain laws, part 11 of one proof. Conditions: each theorem names its own. -/
import Derived.Test.YteinoiicnmemhaaGreatDoorZ2
import Derived.Test.YteinoiicnmemhaaGreatDoorProg
import Derived.ProofKit
import Derived.OpenShut
import Derived.ChangeMaps5
import Derived.SliceStrings
import Derived.Deep.Slices
import Derived.ChangeArms
import Derived.DataReads
set_option linter.unusedSimpArgs false
set_option linter.unusedVariables false
namespace Go.Proofs.YteinoiicnmemhaaGreatDoor
section
open Go.ChangeShapes Go.WideShapes Go.ChangeAt Go.RowKit Go.WideElems Go.ChangeMaps Go.Deep
theorem own : ownKnob Tryz.prog.godebug = none := by kernel_rfl
theorem laidOut : laidOutB Tryz.prog = true := by kernel_rfl
theorem addr_add (b off j : Nat) : (⟨b, off, none⟩ : Addr).add j = ⟨b, off + j, none⟩ := by
  cases j <;> simp [Addr.add]
section
variable {H : Type} {enc : TypeId × Value → H} {P : Program} {W : World} {base : Nat} {t e : TypeId} {v : Value} {d : DataW H} {ps : List MemPlace}
theorem open_intz (ht : P.underlying t = some (.slice e)) (he : P.underlying e = some (.int .i64)) (hc : P.cellsOf e = 1)
    (hval : Value.okWide P W .any base t v) (hd : DataW.Trod enc P W 0 (fun _ => true) true t v d ps) (hlt : ∀ x ∈ ps, x.block < W.heap.size) :
    ∃ zs : List Int, Slc W 1 v zs.length (ints zs) ∧ (∀ z ∈ zs, (Lit.int .i64 z).wf = true) ∧ ∀ g, v.ownBlock = some g → g < W.heap.size ∨ zs = [] := by
  obtain ⟨fuel, hf⟩ := hd
  obtain ⟨a0, len, cap, rfl⟩ := okWide_slice ht hval
  rcases open_ints ht he hc hf with ⟨hcs, hx⟩ | ⟨a, len', cap', ss, hcs, _, hl, hm, hz, hx, hcell, hwz⟩
  · simp [Value.cells] at hcs
    obtain ⟨rfl, rfl, rfl⟩ := hcs
    exact ⟨[], Slc.nil W 1, by simp, fun g hg => .inr rfl⟩
  · simp [Value.cells] at hcs
    obtain ⟨rfl, rfl, rfl⟩ := hcs
    simp only [if_true] at hz
    obtain ⟨b, off, spot⟩ := a
    have htl : (ss.take len).length = len := by simp; omega
    have hb : 0 < len → b < W.heap.size ∧ spot = none := by
      intro h0
      have := hcell 0 (by omega)
      exact ⟨block_lt_of_cell this, by simpa [Addr.add] using World.cell?_spot this⟩
    refine ⟨ss.take len, ?_, fun s hs => hwz s (List.mem_of_mem_take hs), fun g hg => ?_⟩
    · rw [htl]
      refine ⟨_, _, rfl, by simp [ints]; omega, hl, hm, fun h0 => ?_⟩
      obtain ⟨q1, rfl⟩ := hb h0
      refine ⟨b, off, rfl, q1, fun j hj => ?_⟩
      have hj' : j < len := by simp [ints] at hj; omega
      have := hcell j (by omega)
      rw [addr_add] at this
      rw [this]
      simp [ints, hj', List.getD]
      rw [List.getElem?_eq_getElem (by omega)]
      rfl
    · by_cases h0 : 0 < len
      · have e : g = b := by
          have : some b = some g := hg
          simpa using this.symm
        rw [e]; exact .inl (hb h0).1
      · right
        have : len = 0 := by omega
        rw [this]; simp
end
section
variable {H : Type} {enc : TypeId × Value → H} {P : Program} {W : World} {t e : TypeId}
theorem list_of {E : Type} (Q : Nat → E → Prop) : ∀ len, (∀ i, i < len → ∃ o, Q i o) → ∃ os : List E, os.length = len ∧ ∀ i (h : i < os.length), Q i os[i]
  | 0, _ => ⟨[], rfl, fun i h => absurd h (Nat.not_lt_zero _)⟩
  | len + 1, h => by
    obtain ⟨os, h1, h2⟩ := list_of Q len (fun i hi => h i (by omega))
    obtain ⟨o, ho⟩ := h len (by omega)
    refine ⟨os ++ [o], by simp [h1], fun i hi => ?_⟩
    by_cases hl : i < os.length
    · rw [List.getElem_append_left hl]; exact h2 i hl
    · have : i = len := by simp at hi; omega
      subst this
      rw [List.getElem_append_right (by omega)]
      simpa [h1] using ho
/-- The slice whose cells read so, as a list of its elements. -/
theorem open_rows_at {fuel k : Nat} {cs : List Value} {x : DataW H × List MemPlace} (ht : P.underlying t = some (.slice e)) (hc : P.cellsOf e = k) (hk : 0 < k) {E : Type} (cells : E → List Value) (okE : E → Prop)
    (hel : ∀ n cs x, DataW.trod enc P W 0 (fun _ => true) true n e cs = some x → (∀ y ∈ x.2, y.block < W.heap.size) → ∃ o, cs = cells o ∧ okE o)
    (hd : DataW.trod enc P W 0 (fun _ => true) true fuel t cs = some x) (hlt : ∀ y ∈ x.2, y.block < W.heap.size) :
    ∃ (v : Value) (os : List E), cs = [v] ∧ Slc W k v os.length (os.flatMap cells) ∧ (∀ o ∈ os, okE o ∧ (cells o).length = k) ∧ ∀ g, v.ownBlock = some g → g < W.heap.size ∨ os = [] := by
  rcases open_slice ht hd with ⟨hcs, hx⟩ | ⟨a, len, cap, m, n, D, Pl, hcs, _, hl, hm, hmm, hx, hel0⟩
  · exact ⟨_, [], hcs, Slc.nil W k, by simp, fun g hg => .inr rfl⟩
  · simp only [if_true] at hmm
    subst hmm
    have hpl : ∀ i, i < m → ∀ y ∈ Pl i, y.block < W.heap.size := fun i hi y hy => hlt y (by
      rw [hx]
      exact List.mem_append_right _ (List.mem_flatMap.2 ⟨i, List.mem_range.2 hi, hy⟩))
    obtain ⟨os, h1, h2⟩ := list_of (E := E) (fun i o => W.cells? 0 (a.add (i * P.cellsOf e)) (P.cellsOf e) = some (cells o) ∧ okE o) len (fun i hi => by
      obtain ⟨cs', hc', ht'⟩ := hel0 i (by omega)
      obtain ⟨o, rfl, ho⟩ := hel n cs' _ ht' (hpl i (by omega))
      exact ⟨o, hc', ho⟩)
    have hlen : ∀ o ∈ os, (cells o).length = k := by
      intro o ho
      obtain ⟨i, hi, rfl⟩ := List.getElem_of_mem ho
      have := (World.cells?_some (h2 i hi).1).2.1
      rw [this, hc]
    obtain ⟨b, off, spot⟩ := a
    have hcell : ∀ i (hi : i < os.length) r, r < k → W.cell? (((⟨b, off, spot⟩ : Addr).add (i * k)).add r) = (cells os[i])[r]? := by
      intro i hi r hr
      have := (World.cells?_some (h2 i hi).1).2.2 r (by rw [hc]; exact hr)
      rwa [hc] at this
    have hb : 0 < len → b < W.heap.size ∧ spot = none := by
      intro h0
      have h00 := hcell 0 (by omega) 0 hk
      have hs : (cells os[0])[0]? = some ((cells os[0])[0]'(by rw [hlen _ (List.getElem_mem _)]; exact hk)) := List.getElem?_eq_getElem _
      rw [hs] at h00
      generalize (cells os[0])[0]'(by rw [hlen _ (List.getElem_mem _)]; exact hk) = u at h00
      have h01 : W.cell? ⟨b, off, spot⟩ = some u := by simpa [Addr.add] using h00
      exact ⟨block_lt_of_cell h01, by simpa using World.cell?_spot h01⟩
    refine ⟨_, os, hcs, ?_, fun o ho => ⟨?_, hlen o ho⟩, fun g hg => ?_⟩
    · refine ⟨_, _, by rw [h1], by rw [flat_len cells k os hlen], by omega, hm, fun h0 => ?_⟩
      obtain ⟨q1, rfl⟩ := hb (by omega)
      refine ⟨b, off, rfl, q1, fun j hj => ?_⟩
      rw [flat_len cells k os hlen] at hj
      have hi : j / k < os.length := Nat.div_lt_of_lt_mul (by rw [Nat.mul_comm]; exact hj)
      have hr : j % k < k := Nat.mod_lt _ hk
      have hjk : j / k * k + j % k = j := by rw [Nat.mul_comm]; exact Nat.div_add_mod j k
      have := hcell (j / k) hi (j % k) hr
      rw [addr_add, addr_add] at this
      have e2 := flat_get cells k os hlen (j / k) (j % k) hi hr
      rw [hjk] at e2
      rw [e2, ← this]
      congr 2
      omega
    · obtain ⟨i, hi, rfl⟩ := List.getElem_of_mem ho
      exact (h2 i hi).2
    · by_cases h0 : 0 < len
      · have e : g = b := by
          have : some b = some g := hg
          simpa using this.symm
        rw [e]; exact .inl (hb h0).1
      · right
        exact List.eq_nil_of_length_eq_zero (by omega)
theorem open_rows {k : Nat} {base : Nat} {v : Value} {d : DataW H} {ps : List MemPlace} (ht : P.underlying t = some (.slice e)) (hc : P.cellsOf e = k) (hk : 0 < k) {E : Type} (cells : E → List Value) (okE : E → Prop)
    (hel : ∀ n cs x, DataW.trod enc P W 0 (fun _ => true) true n e cs = some x → (∀ y ∈ x.2, y.block < W.heap.size) → ∃ o, cs = cells o ∧ okE o)
    (hval : Value.okWide P W .any base t v) (hd : DataW.Trod enc P W 0 (fun _ => true) true t v d ps) (hlt : ∀ x ∈ ps, x.block < W.heap.size) :
    ∃ os : List E, Slc W k v os.length (os.flatMap cells) ∧ (∀ o ∈ os, okE o ∧ (cells o).length = k) ∧ ∀ g, v.ownBlock = some g → g < W.heap.size ∨ os = [] := by
  obtain ⟨fuel, hf⟩ := hd
  obtain ⟨a0, len, cap, rfl⟩ := okWide_slice ht hval
  obtain ⟨v', os, h1, h2, h3, h4⟩ := open_rows_at ht hc hk cells okE hel hf hlt
  have : v' = .slice a0 len cap := by
    simp [Value.cells] at h1
    exact h1.symm
  subst this
  exact ⟨os, h2, h3, h4⟩
end
end
end Go.Proofs.YteinoiicnmemhaaGreatDoor
