/- Light; run: steps of a disk. -/
import Derived.Test.YtgahjdfjlfoioaaDl8
import Derived.Test.YtgahjdfjlfoioaaRegion
import Derived.Lib.QuietBelow
import Derived.Deep.QuietTactic
import Derived.BigQuiet
set_option linter.unusedVariables false
namespace Go.Proofs.Ytgahjdfjlfoioaa
open Go.RowKit Go.Sort
/-- The steps lie in v, and what they keep; all is older than B. -/
structure OpsAt (W : World) (B : Nat) (v : Value) (os : List OpR) : Prop where
  slc : Slc W 6 v os.length (os.flatMap OpR.cells)
  ok : ∀ o ∈ os, (Lit.int .i64 o.kind).wf = true ∧ (Lit.int .i64 o.n).wf = true ∧ o.name.size ≤ maxLen ∧ o.to.size ≤ maxLen ∧ o.data.size ≤ maxLen ∧ Slc W 1 o.keepV o.keep.length (ints o.keep) ∧ ∀ g, o.keepV.ownBlock = some g → g < B ∨ o.keep = []
  own : ∀ g, v.ownBlock = some g → g < B ∨ os = []
  big : B ≤ W.heap.size
theorem OpsAt.cells {W : World} {B : Nat} {v : Value} {os : List OpR} (h : OpsAt W B v os) {j : Nat} (hj : j < os.length) :
    ∃ b off cap, v = .slice (some ⟨b, off, none⟩) os.length cap ∧ os.length ≤ cap ∧ cap ≤ maxLen ∧ b < B ∧ ∀ r, r < 6 → W.cell? ⟨b, off + j * 6 + r, none⟩ = (os[j].cells)[r]? := by
  obtain ⟨A, cap, hv, h1, h2, h3, h4⟩ := h.slc
  obtain ⟨b, off, rfl, hb, hc⟩ := h4 (by omega)
  refine ⟨b, off, cap, hv, h2, h3, ?_, fun r hr => ?_⟩
  · rcases h.own b (by rw [hv]; rfl) with q | q
    · exact q
    · rw [q] at hj; simp at hj
  · have hjr : j * 6 + r < os.length * 6 := by omega
    rw [Nat.add_assoc, hc _ (by rw [h1]; exact hjr)]
    exact flat_get OpR.cells 6 os (fun o _ => rfl) j r hj hr
theorem OpsAt.only {W W' : World} {B : Nat} {v : Value} {os : List OpR} {S : List Nat} (h : OpsAt W B v os) (k : Only S W W') (hS : ∀ g ∈ S, B ≤ g) : OpsAt W' B v os := by
  have hn : ∀ g, g < B → g ∉ S := fun g hg q => by have := hS g q; omega
  refine ⟨?_, fun o ho => ?_, h.own, Nat.le_trans h.big k.size⟩
  · cases os with
    | nil =>
      obtain ⟨A, cap, hv, h1, h2, h3, h4⟩ := h.slc
      exact ⟨A, cap, hv, h1, h2, h3, fun q => absurd q (by simp)⟩
    | cons o l => exact h.slc.only k (fun g hg => (h.own g hg).elim (hn g) (fun q => by cases q))
  · obtain ⟨a1, a2, a3, a4, a5, a6, a7⟩ := h.ok o ho
    refine ⟨a1, a2, a3, a4, a5, ?_, a7⟩
    cases hk : o.keep with
    | nil =>
      rw [hk] at a6
      obtain ⟨A, cap, hv, h1, h2, h3, h4⟩ := a6
      exact ⟨A, cap, hv, h1, h2, h3, fun q => absurd q (by simp)⟩
    | cons z l =>
      rw [hk] at a6
      exact a6.only k (fun g hg => (a7 g hg).elim (hn g) (fun q => by rw [hk] at q; cases q))
def dataSum (os : List OpR) : Nat := (os.map fun o => o.data.size).sum
theorem slc_four {w : World} {g : Nat} {a b c d : Int} {e : TypeId} (h : w.heap[g]? = some (.cells #[.int .i64 a, .int .i64 b, .int .i64 c, .int .i64 d] e (0, 0))) : Slc w 1 (.slice (some ⟨g, 0, none⟩) 4 4) [a, b, c, d].length (ints [a, b, c, d]) :=
  ⟨_, _, rfl, rfl, Nat.le_refl _, by unfold maxLen; simp, fun _ => ⟨_, 0, rfl, lt_of_block h, fun j hj => by
    rw [Nat.zero_add, cell_of_row _ _ _ _ _ _ h]
    simp [ints]⟩⟩
theorem room4 (w : World) (a b c d : Nat) (q : Int) (hq0 : -1 ≤ q) (hq1 : q ≤ 1000000000) :
    Calls Try.prog 39 #[.int .i64 q, .slice (some ⟨w.heap.size, 0, none⟩) 4 4] (w.alloc (.cells #[.int .i64 (a : Int), .int .i64 (b : Int), .int .i64 (c : Int), .int .i64 (d : Int)] 3)).drew fun e w' =>
      e = .returned (.int .i64 (roomOf q [(a : Int), (b : Int), (c : Int), (d : Int)])) ∧ Only [] w w' := by
  have hb : (w.alloc (.cells #[.int .i64 (a : Int), .int .i64 (b : Int), .int .i64 (c : Int), .int .i64 (d : Int)] 3)).drew.heap[w.heap.size]? = some (.cells #[.int .i64 (a : Int), .int .i64 (b : Int), .int .i64 (c : Int), .int .i64 (d : Int)] 3 (0, 0)) := heap_alloc_new w _
  exact (bRoom_any (zs := [(a : Int), (b : Int), (c : Int), (d : Int)]) (slc_four hb) (by simp) hq0 hq1).mono fun e w' ⟨h1, h2⟩ => ⟨h1, ((Only.refl [] w).alloc _).drew.trans h2⟩
end Go.Proofs.Ytgahjdfjlfoioaa
