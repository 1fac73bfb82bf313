/- Proved here: contracts of functions and plain laws, part 2 of one proof. Conditions: each theorem names its own. -/
import Derived.Test.YteinoiicnmemhaaGreatDoorZ1
import Derived.Laws.AppendOwn
set_option linter.unusedSimpArgs false
set_option linter.unusedVariables false
namespace Go.Proofs.YteinoiicnmemhaaGreatDoor
section
open Go.RowKit
/-! ## slices that are only read -/
/-- v is a slice of n elements, size cells each, that holds the cells cs. -/
def Slc (w : World) (size : Nat) (v : Value) (n : Nat) (cs : List Value) : Prop :=
  ∃ A cap, v = .slice A n cap ∧ cs.length = n * size ∧ n ≤ cap ∧ cap ≤ maxLen ∧ (0 < n → ∃ b off, A = some ⟨b, off, none⟩ ∧ b < w.heap.size ∧ ∀ j, j < cs.length → w.cell? ⟨b, off + j, none⟩ = cs[j]?)
section
variable {w w' : World} {size n : Nat} {v : Value} {cs : List Value}
theorem Slc.keep (h : Slc w size v n cs) (hs : w.heap.size ≤ w'.heap.size) (hk : ∀ g, v.ownBlock = some g → g < w.heap.size → w'.heap[g]? = w.heap[g]?) : Slc w' size v n cs := by
  obtain ⟨A, cap, rfl, h1, h2, h3, h4⟩ := h
  refine ⟨A, cap, rfl, h1, h2, h3, fun hn => ?_⟩
  obtain ⟨b, off, rfl, hb, hc⟩ := h4 hn
  exact ⟨b, off, rfl, by omega, fun j hj => (World.cell?_of_block (hk b rfl hb)).trans (hc j hj)⟩
theorem Slc.only {S : List Nat} (h : Slc w size v n cs) (k : Only S w w') (hn : ∀ g, v.ownBlock = some g → g ∉ S) : Slc w' size v n cs :=
  h.keep k.size fun g hg hl => k.block g hl (hn g hg)
theorem Slc.nil (w : World) (size : Nat) : Slc w size (.slice none 0 0) 0 [] := ⟨none, 0, rfl, by simp, Nat.le_refl _, by simp [maxLen], fun h => absurd h (by omega)⟩
theorem Slc.of_own {base : Nat} {e : TypeId} (h : w.ownsRow base e size v n cs) : Slc w size v n cs ∧ ∀ g, v.ownBlock = some g → base ≤ g ∧ g < w.heap.size := by
  refine ⟨?_, h.lt⟩
  obtain ⟨h1, h2⟩ := h
  rcases h2 with ⟨rfl, rfl⟩ | ⟨g, cap, cur, rfl, hb, hg, hn, hc, hs, ht⟩
  · exact ⟨none, 0, rfl, h1, Nat.le_refl _, by simp [maxLen], fun h => absurd h (by omega)⟩
  · refine ⟨some ⟨g, 0, none⟩, cap, rfl, h1, hn, hc, fun _ => ⟨g, 0, rfl, lt_of_block hg, fun j hj => ?_⟩⟩
    rw [cell_of_row w g _ cur e (0, 0) hg, ← ht]
    have hj2 : j < n * size := by omega
    simp [hj2]
end

theorem Slc.cell {w : World} {size n : Nat} {v : Value} {cs : List Value} (h : Slc w size v n cs) : ∃ A cap, v = .slice A n cap ∧ n ≤ cap ∧ cap ≤ maxLen ∧ cs.length = n * size ∧ (n = 0 ∨ ∃ b off, A = some ⟨b, off, none⟩ ∧ b < w.heap.size ∧ ∀ j, j < cs.length → w.cell? ⟨b, off + j, none⟩ = cs[j]?) := by
  obtain ⟨A, cap, hv, h1, h2, h3, h4⟩ := h
  refine ⟨A, cap, hv, h2, h3, h1, ?_⟩
  rcases Nat.eq_zero_or_pos n with h0 | h0
  · exact .inl h0
  · exact .inr (h4 h0)

def ints (l : List Int) : List Value := l.map (Value.int .i64)
def strs (l : List ByteArray) : List Value := l.map Value.string
theorem flat_len {E : Type} (cells : E → List Value) (k : Nat) : ∀ (os : List E), (∀ o ∈ os, (cells o).length = k) → (os.flatMap cells).length = os.length * k
  | [], _ => by simp
  | o :: os, h => by
    rw [List.flatMap_cons, List.length_append, flat_len cells k os (fun x hx => h x (by simp [hx])), h o (by simp), List.length_cons, Nat.add_mul]
    omega
theorem flat_get {E : Type} (cells : E → List Value) (k : Nat) : ∀ (os : List E), (∀ o ∈ os, (cells o).length = k) → ∀ (i r : Nat) (hi : i < os.length), r < k → (os.flatMap cells)[i * k + r]? = (cells os[i])[r]?
  | [], _, _, _, hi, _ => absurd hi (Nat.not_lt_zero _)
  | o :: os, h, 0, r, _, hr => by
    rw [List.flatMap_cons, Nat.zero_mul, Nat.zero_add, List.getElem?_append_left (by rw [h o (by simp)]; exact hr)]
    rfl
  | o :: os, h, i + 1, r, hi, hr => by
    rw [List.flatMap_cons, List.getElem?_append_right (by rw [h o (by simp), Nat.add_mul]; omega), h o (by simp)]
    have : (i + 1) * k + r - k = i * k + r := by rw [Nat.add_mul]; omega
    rw [this, flat_get cells k os (fun x hx => h x (by simp [hx])) i r (by simpa using hi) hr]
    rfl
theorem own_only {S : List Nat} {w w' : World} {base size n : Nat} {e : TypeId} {v : Value} {xs : List Value} (h : w.ownsRow base e size v n xs) (k : Only S w w') (hn : ∀ g, v.ownBlock = some g → g ∉ S) : w'.ownsRow base e size v n xs := by
  obtain ⟨h1, h2⟩ := h
  rcases h2 with ⟨rfl, rfl⟩ | ⟨g, cap, cur, rfl, hb, hg, q⟩
  · exact ⟨h1, .inl ⟨rfl, rfl⟩⟩
  · exact ⟨h1, .inr ⟨g, cap, cur, rfl, hb, (k.block g (lt_of_block hg) (hn g rfl)).trans hg, q⟩⟩

/-- An opened slice of elements of k cells. -/
theorem Slc.openE {E : Type} {w : World} {v : Value} {k : Nat} {os : List E} (cells : E → List Value) (hk : ∀ o, (cells o).length = k) (h : Slc w k v os.length (os.flatMap cells)) :
    ∃ A cap, v = .slice A os.length cap ∧ os.length ≤ cap ∧ cap ≤ maxLen ∧ ∀ j (hj : j < os.length), ∃ b off, A = some ⟨b, off, none⟩ ∧ b < w.heap.size ∧ ∀ r, r < k → w.cell? ⟨b, off + j * k + r, none⟩ = (cells os[j])[r]? := by
  obtain ⟨A, cap, hv, h2, h3, h4, h5⟩ := h.cell
  refine ⟨A, cap, hv, h2, h3, fun j hj => ?_⟩
  rcases h5 with h5 | ⟨b, off, h5, h6, h7⟩
  · omega
  · refine ⟨b, off, h5, h6, fun r hr => ?_⟩
    have hlt : j * k + r < os.length * k := by
      have : (j + 1) * k ≤ os.length * k := Nat.mul_le_mul_right k hj
      rw [Nat.add_mul] at this
      omega
    rw [Nat.add_assoc, h7 _ (by rw [h4]; exact hlt)]
    exact flat_get cells k os (fun o _ => hk o) j r hj hr
theorem Slc.openI {w : World} {v : Value} {zs : List Int} (h : Slc w 1 v zs.length (ints zs)) :
    ∃ A cap, v = .slice A zs.length cap ∧ zs.length ≤ cap ∧ cap ≤ maxLen ∧ ∀ j (hj : j < zs.length), ∃ b off, A = some ⟨b, off, none⟩ ∧ b < w.heap.size ∧ w.cell? ⟨b, off + j, none⟩ = some (.int .i64 zs[j]) := by
  obtain ⟨A, cap, hv, h2, h3, h4, h5⟩ := h.cell
  refine ⟨A, cap, hv, h2, h3, fun j hj => ?_⟩
  rcases h5 with h5 | ⟨b, off, h5, h6, h7⟩
  · omega
  · refine ⟨b, off, h5, h6, ?_⟩
    rw [h7 j (by simpa [ints] using hj)]
    simp [ints, hj]
theorem Slc.openS {w : World} {v : Value} {ss : List ByteArray} (h : Slc w 1 v ss.length (strs ss)) :
    ∃ A cap, v = .slice A ss.length cap ∧ ss.length ≤ cap ∧ cap ≤ maxLen ∧ ∀ j (hj : j < ss.length), ∃ b off, A = some ⟨b, off, none⟩ ∧ b < w.heap.size ∧ w.cell? ⟨b, off + j, none⟩ = some (.string ss[j]) := by
  obtain ⟨A, cap, hv, h2, h3, h4, h5⟩ := h.cell
  refine ⟨A, cap, hv, h2, h3, fun j hj => ?_⟩
  rcases h5 with h5 | ⟨b, off, h5, h6, h7⟩
  · omega
  · refine ⟨b, off, h5, h6, ?_⟩
    rw [h7 j (by simpa [strs] using hj)]
    simp [strs, hj]
theorem Slc.only0 {w w' : World} {size n : Nat} {v : Value} {cs : List Value} (h : Slc w size v n cs) (k : Only [] w w') : Slc w' size v n cs := h.only k (by simp)

/-! ## slices in memory that stays: M are the blocks that may turn -/
def Rd (M : List Nat) (w : World) (size : Nat) (v : Value) (n : Nat) (cs : List Value) : Prop := Slc w size v n cs ∧ ∀ g, v.ownBlock = some g → (g ∉ M ∧ g < w.heap.size) ∨ n = 0
section
variable {M M' S : List Nat} {w w' : World} {size n : Nat} {v : Value} {cs : List Value}
theorem Slc.empty {w' : World} (h : Slc w size v 0 cs) : Slc w' size v 0 cs := by
  obtain ⟨A, cap, hv, h1, h2, h3, h4⟩ := h
  exact ⟨A, cap, hv, h1, h2, h3, fun q => absurd q (Nat.lt_irrefl _)⟩
theorem Rd.only (h : Rd M w size v n cs) (k : Only S w w') (hS : ∀ g ∈ S, g ∈ M) : Rd M w' size v n cs := by
  obtain ⟨h1, h2⟩ := h
  rcases Nat.eq_zero_or_pos n with h0 | h0
  · subst h0
    exact ⟨h1.empty, fun g hg => .inr rfl⟩
  · refine ⟨h1.only k fun g hg q => ?_, fun g hg => ?_⟩
    · rcases h2 g hg with q2 | q2
      · exact q2.1 (hS g q)
      · omega
    · rcases h2 g hg with q2 | q2
      · exact .inl ⟨q2.1, Nat.lt_of_lt_of_le q2.2 k.size⟩
      · omega
theorem Rd.only0 (h : Rd M w size v n cs) (k : Only [] w w') : Rd M w' size v n cs := h.only k (by simp)
theorem Rd.ext (h : Rd M w size v n cs) (hm : ∀ g ∈ M', g ∈ M ∨ w.heap.size ≤ g) : Rd M' w size v n cs :=
  ⟨h.1, fun g hg => (h.2 g hg).imp (fun q => ⟨fun q2 => (hm g q2).elim q.1 (fun q3 => by omega), q.2⟩) id⟩
theorem Rd.nil (M : List Nat) (w : World) (size : Nat) : Rd M w size (.slice none 0 0) 0 [] := ⟨Slc.nil w size, fun g hg => by cases hg⟩
end
end
end Go.Proofs.YteinoiicnmemhaaGreatDoor
