/- Opening a law's arguments: slices of strings and of integers as plain lists. -/
import Derived.Test.YtgahjdfjlfoioaaDk1
import Derived.Test.YtgahjdfjlfoioaaDk3
import Derived.ProofKit
import Derived.OpenShut
import Derived.ChangeMaps5
import Derived.SliceStrings
set_option linter.unusedVariables false
namespace Go.Proofs.Ytgahjdfjlfoioaa
open Go.ChangeShapes Go.WideShapes Go.ChangeAt Go.RowKit Go.WideElems Go.ChangeMaps
theorem own : ownKnob Try.prog.godebug = none := by kernel_rfl
theorem laidOut : laidOutB Try.prog = true := by kernel_rfl
theorem addr_add (b off j : Nat) : (⟨b, off, none⟩ : Addr).add j = ⟨b, off + j, none⟩ := by
  cases j <;> simp [Addr.add]
section
variable {H : Type} {enc : TypeId × Value → H} {P : Program} {W : World} {base : Nat} {t e : TypeId} {v : Value} {d : DataW H} {ps : List MemPlace}
theorem open_strs (ht : P.underlying t = some (.slice e)) (he : P.underlying e = some .string) (hc : P.cellsOf e = 1)
    (hval : Value.okWide P W .any base t v) (hd : DataW.Trod enc P W 0 (fun _ => true) true t v d ps) (hlt : ∀ x ∈ ps, x.block < W.heap.size) :
    ∃ ss : List ByteArray, Slc W 1 v ss.length (strs ss) ∧ (∀ s ∈ ss, s.size ≤ maxLen) ∧ ∀ g, v.ownBlock = some g → g < W.heap.size ∨ ss = [] := by
  obtain ⟨fuel, hf⟩ := hd
  obtain ⟨a0, len, cap, rfl⟩ := okWide_slice ht hval
  rcases open_strings ht he hc hf with ⟨hcs, hx⟩ | ⟨a, len', cap', ss, hcs, _, hl, hm, hz, hx, hcell, hwz⟩
  · simp [Value.cells] at hcs
    obtain ⟨rfl, rfl, rfl⟩ := hcs
    exact ⟨[], Slc.nil W 1, by simp, fun g hg => .inr rfl⟩
  · simp [Value.cells] at hcs
    obtain ⟨rfl, rfl, rfl⟩ := hcs
    simp only [if_true] at hz
    obtain ⟨b, off, spot⟩ := a
    have htl : (ss.take len).length = len := by simp; omega
    have hb : 0 < len → b < W.heap.size ∧ spot = none := by
      intro h0
      have := hcell 0 (by omega)
      exact ⟨block_lt_of_cell this, by simpa [Addr.add] using World.cell?_spot this⟩
    refine ⟨ss.take len, ?_, fun s hs => hwz s (List.mem_of_mem_take hs), fun g hg => ?_⟩
    · rw [htl]
      refine ⟨_, _, rfl, by simp [strs]; omega, hl, hm, fun h0 => ?_⟩
      obtain ⟨q1, rfl⟩ := hb h0
      refine ⟨b, off, rfl, q1, fun j hj => ?_⟩
      have hj' : j < len := by simp [strs] at hj; omega
      have := hcell j (by omega)
      rw [addr_add] at this
      rw [this]
      simp [strs, hj', List.getD]
      rw [List.getElem?_eq_getElem (by omega)]
      rfl
    · by_cases h0 : 0 < len
      · have e : g = b := by
          have : some b = some g := hg
          simpa using this.symm
        rw [e]; exact .inl (hb h0).1
      · right
        have : len = 0 := by omega
        rw [this]; simp
theorem open_intz (ht : P.underlying t = some (.slice e)) (he : P.underlying e = some (.int .i64)) (hc : P.cellsOf e = 1)
    (hval : Value.okWide P W .any base t v) (hd : DataW.Trod enc P W 0 (fun _ => true) true t v d ps) (hlt : ∀ x ∈ ps, x.block < W.heap.size) :
    ∃ zs : List Int, Slc W 1 v zs.length (ints zs) ∧ (∀ z ∈ zs, (Lit.int .i64 z).wf = true) ∧ ∀ g, v.ownBlock = some g → g < W.heap.size ∨ zs = [] := by
  obtain ⟨fuel, hf⟩ := hd
  obtain ⟨a0, len, cap, rfl⟩ := okWide_slice ht hval
  rcases open_ints ht he hc hf with ⟨hcs, hx⟩ | ⟨a, len', cap', ss, hcs, _, hl, hm, hz, hx, hcell, hwz⟩
  · simp [Value.cells] at hcs
    obtain ⟨rfl, rfl, rfl⟩ := hcs
    exact ⟨[], Slc.nil W 1, by simp, fun g hg => .inr rfl⟩
  · simp [Value.cells] at hcs
    obtain ⟨rfl, rfl, rfl⟩ := hcs
    simp only [if_true] at hz
    obtain ⟨b, off, spot⟩ := a
    have htl : (ss.take len).length = len := by simp; omega
    have hb : 0 < len → b < W.heap.size ∧ spot = none := by
      intro h0
      have := hcell 0 (by omega)
      exact ⟨block_lt_of_cell this, by simpa [Addr.add] using World.cell?_spot this⟩
    refine ⟨ss.take len, ?_, fun s hs => hwz s (List.mem_of_mem_take hs), fun g hg => ?_⟩
    · rw [htl]
      refine ⟨_, _, rfl, by simp [ints]; omega, hl, hm, fun h0 => ?_⟩
      obtain ⟨q1, rfl⟩ := hb h0
      refine ⟨b, off, rfl, q1, fun j hj => ?_⟩
      have hj' : j < len := by simp [ints] at hj; omega
      have := hcell j (by omega)
      rw [addr_add] at this
      rw [this]
      simp [ints, hj', List.getD]
      rw [List.getElem?_eq_getElem (by omega)]
      rfl
    · by_cases h0 : 0 < len
      · have e : g = b := by
          have : some b = some g := hg
          simpa using this.symm
        rw [e]; exact .inl (hb h0).1
      · right
        have : len = 0 := by omega
        rw [this]; simp
end
end Go.Proofs.Ytgahjdfjlfoioaa
