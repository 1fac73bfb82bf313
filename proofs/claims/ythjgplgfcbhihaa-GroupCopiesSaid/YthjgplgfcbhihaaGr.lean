/- Rows of numbers that are owned beside each other. No program is named (but the numbers of the types). -/
import Derived.Test.YthjgplgfcbhihaaMr
import Derived.Test.YthjgplgfcbhihaaGs
import Derived.Deep.AppendLies
import Derived.Lib.AppendZeros
import Derived.Lib.OwnBridge
set_option linter.unusedVariables false
set_option linter.unusedSimpArgs false
namespace Go.Proofs.Ythjgplgfcbhihaa
open Go.RowKit
theorem ret_b {a b : Bool} (h : a = b) : Ending.returned (.bool a) = .returned (.bool b) := by rw [h]
theorem ret_i {a b : Int} (h : a = b) : Ending.returned (.int .i64 a) = .returned (.int .i64 b) := by rw [h]
section
variable {w w' : World} {base base' size n : Nat} {e : TypeId} {v : Value} {xs : List Value}
theorem own_form (h : w.ownsRow base e size v n xs) : ∃ A cap, v = .slice A n cap ∧ n ≤ cap ∧ cap ≤ maxLen := by
  obtain ⟨_, h2⟩ := h
  rcases h2 with ⟨rfl, rfl⟩ | ⟨g, cap, cur, rfl, hb, hg, hn, hc, _⟩
  · exact ⟨none, 0, rfl, Nat.le_refl _, Nat.zero_le _⟩
  · exact ⟨_, cap, rfl, hn, hc⟩
theorem own_base (h : w.ownsRow base e size v n xs) (hb : base' ≤ base) : w.ownsRow base' e size v n xs := by
  obtain ⟨h1, h2⟩ := h
  rcases h2 with q | ⟨g, cap, cur, q1, q2, q3⟩
  · exact ⟨h1, .inl q⟩
  · exact ⟨h1, .inr ⟨g, cap, cur, q1, Nat.le_trans hb q2, q3⟩⟩
theorem own_up (h : w.ownsRow base e size v n xs) (hb : ∀ g, v.ownBlock = some g → base' ≤ g) : w.ownsRow base' e size v n xs := by
  obtain ⟨h1, h2⟩ := h
  rcases h2 with q | ⟨g, cap, cur, rfl, q2, q3⟩
  · exact ⟨h1, .inl q⟩
  · exact ⟨h1, .inr ⟨g, cap, cur, rfl, hb g rfl, q3⟩⟩
theorem own_type (h : w.ownsRow base e size v n xs) {g : Nat} (hg : v.ownBlock = some g) : ∃ cur, Blk w g e cur := by
  obtain ⟨_, h2⟩ := h
  rcases h2 with ⟨rfl, rfl⟩ | ⟨g', cap, cur, rfl, hb, hg', _⟩
  · cases hg
  · cases hg; exact ⟨cur, hg'⟩
theorem news_blk {g : Nat} {us : List Value} (hb : Blk w g e us.toArray) : ∀ j x, us[j]? = some x → w.cell? ((⟨g, 0, none⟩ : Addr).add j) = some x := by
  intro j x hx
  rw [Addr.add_lit, Nat.zero_add, hb.cell j]
  simpa using hx
theorem run_append_nothing {P : Program} (w : World) (t e ty : TypeId) (A : Option Addr) (size n cap c : Nat) (ht : P.underlying t = some (.slice e)) (hs : (Go.sizeOf e).run P w = .ok size w) (hnc : n ≤ cap) :
    (Builtin.append_ #[t, t] ty #[.slice A n cap, .slice none 0 c]).run P w = .ok (.slice A n cap) w := by
  cases A <;> simp [Builtin.append_, run_underlying ht, hs, hnc, Builtin.lenOf, Builtin.firstCells, storeCells]
theorem run_append_none {P : Program} (w : World) (t e ty : TypeId) (A : Option Addr) (size n cap m c : Nat) (ht : P.underlying t = some (.slice e)) (hs : (Go.sizeOf e).run P w = .ok size w) (hnc : n ≤ cap) (hm : m = 0) :
    (Builtin.append_ #[t, t] ty #[.slice A n cap, .slice none m c]).run P w = .ok (.slice A n cap) w := by
  subst hm
  exact run_append_nothing w t e ty A size n cap c ht hs hnc
end
section
variable {w : World} {g : Nat} {t : TypeId} {cs : Array Value}
theorem Blk.sets : ∀ (zs : List Value) (o : Nat) {w : World} {cs : Array Value} (h : Blk w g t cs), ∃ cs', Blk (w.setCells g o zs) g t cs' ∧ cs'.size = cs.size ∧ (∀ j, j < o → cs'[j]? = cs[j]?) ∧ (∀ j, o + zs.length ≤ j → cs'[j]? = cs[j]?) ∧ ∀ j, j < zs.length → o + j < cs.size → cs'[o + j]? = zs[j]?
  | [], _, _, cs, h => ⟨cs, h, rfl, fun _ _ => rfl, fun _ _ => rfl, fun j hj => absurd hj (Nat.not_lt_zero _)⟩
  | z :: zs, o, _, cs, h => by
    obtain ⟨cs', h1, h2, h3, h4, h5⟩ := Blk.sets zs (o + 1) (h.set o z)
    refine ⟨cs', h1, by rw [h2]; simp, fun j hj => ?_, fun j hj => ?_, fun j hj hs => ?_⟩
    · rw [h3 j (by omega), Array.getElem?_setIfInBounds, if_neg (by omega)]
    · rw [h4 j (by simp at hj; omega), Array.getElem?_setIfInBounds, if_neg (by simp at hj; omega)]
    · cases j with
      | zero =>
        rw [Nat.add_zero, h3 o (by omega), Array.getElem?_setIfInBounds, if_pos rfl]
        simp at hs
        simp [hs]
      | succ j =>
        have := h5 j (by simpa using hj) (by simp; omega)
        rw [show o + (j + 1) = o + 1 + j by omega, this]
        simp
theorem Only.setCells {S : List Nat} {a : World} {g : Nat} (hg : g ∈ S ∨ a.heap.size ≤ g) : ∀ (zs : List Value) (o : Nat) {w : World}, Only S a w → Only S a (w.setCells g o zs)
  | [], _, _, h => h
  | z :: zs, o, _, h => Only.setCells hg zs (o + 1) (h.setCell hg z)
end
/-- A row of numbers of one's own. -/
def Own (w : World) (v : Value) (xs : List Int) : Prop := w.ownsRow 0 3 1 v xs.length (ints xs)
/-- The row turned to another one: in place, or into a new block. -/
structure RowTo (w : World) (v : Value) (w' : World) (v' : Value) (ys : List Int) : Prop where
  own : Own w' v' ys
  only : Only v.ownBlock.toList w w'
  blk : ∀ g, v'.ownBlock = some g → v.ownBlock = some g ∨ w.heap.size ≤ g
section
variable {w w' w'' : World} {v v' v'' : Value} {xs ys zs : List Int}
theorem Own.slc (h : Own w v xs) : Slc w 1 v xs.length (ints xs) := (Slc.of_own h).1
theorem Own.lt (h : Own w v xs) : ∀ g, v.ownBlock = some g → g < w.heap.size := fun g hg => (World.ownsRow.lt h g hg).2
theorem Own.only {S : List Nat} (h : Own w v xs) (k : Only S w w') (hn : ∀ g, v.ownBlock = some g → g ∉ S) : Own w' v xs := own_only h k hn
theorem Own.only0 (h : Own w v xs) (k : Only [] w w') : Own w' v xs := h.only k (by simp)
theorem Own.nil (w : World) : Own w (.slice none 0 0) [] := World.ownsRow_nil _ _ _ _
theorem RowTo.same (h : Own w v xs) (k : Only [] w w') : RowTo w v w' v xs := ⟨h.only0 k, k.of_nil, fun g hg => .inl hg⟩
theorem RowTo.trans (h : RowTo w v w' v' ys) (k : RowTo w' v' w'' v'' zs) : RowTo w v w'' v'' zs := by
  refine ⟨k.own, h.only.step k.only (fun g hg => ?_), fun g hg => ?_⟩
  · have hg' : v'.ownBlock = some g := by simpa using hg
    rcases h.blk g hg' with q | q
    · exact .inl (by simp [q])
    · exact .inr q
  · rcases k.blk g hg with q | q
    · exact h.blk g q
    · exact .inr (Nat.le_trans h.only.size q)
theorem RowTo.then0 (h : RowTo w v w' v' ys) (k : Only [] w' w'') : RowTo w v w'' v' ys := ⟨h.own.only0 k, h.only.trans k.of_nil, h.blk⟩
theorem RowTo.first0 (k : Only [] w w') (h : RowTo w' v w'' v' ys) : RowTo w v w'' v' ys := ⟨h.own, k.of_nil.trans h.only, fun g hg => (h.blk g hg).imp id (fun q => Nat.le_trans k.size q)⟩
end
/-! ## many of them beside each other -/
def blocksOf (L : List (Value × List Int)) : List Nat := L.flatMap fun p => p.1.ownBlock.toList
structure Rows (w : World) (L : List (Value × List Int)) : Prop where
  own : ∀ p ∈ L, Own w p.1 p.2
  nodup : (blocksOf L).Nodup
section
variable {w w' : World} {L L' : List (Value × List Int)} {v v' : Value} {xs ys : List Int} {S : List Nat}
theorem mem_blocksOf {g : Nat} : g ∈ blocksOf L ↔ ∃ p ∈ L, p.1.ownBlock = some g := by simp [blocksOf]
theorem Rows.only (h : Rows w L) (k : Only S w w') (hn : ∀ g ∈ blocksOf L, g ∉ S) : Rows w' L :=
  ⟨fun p hp => (h.own p hp).only k (fun g hg => hn g (mem_blocksOf.2 ⟨p, hp, hg⟩)), h.nodup⟩
theorem Rows.only0 (h : Rows w L) (k : Only [] w w') : Rows w' L := h.only k (by simp)
theorem Rows.lt (h : Rows w L) : ∀ g ∈ blocksOf L, g < w.heap.size := fun g hg => by
  obtain ⟨p, hp, q⟩ := mem_blocksOf.1 hg
  exact (h.own p hp).lt g q
theorem Rows.perm (h : Rows w L) (p : L.Perm L') : Rows w L' := by
  refine ⟨fun q hq => h.own q (p.mem_iff.2 hq), ?_⟩
  have := p.flatMap_right (fun q => q.1.ownBlock.toList)
  exact (this.nodup_iff).1 h.nodup
theorem Rows.nil (w : World) : Rows w [] := ⟨fun p hp => (by cases hp), List.nodup_nil⟩
theorem Rows.head (h : Rows w ((v, xs) :: L)) : Own w v xs := h.own (v, xs) (by simp)
theorem Rows.tail (h : Rows w ((v, xs) :: L)) : Rows w L := ⟨fun p hp => h.own p (by simp [hp]), by
  have := h.nodup
  unfold blocksOf at this
  rw [List.flatMap_cons] at this
  exact (List.nodup_append.1 this).2.1⟩
theorem Rows.apart (h : Rows w ((v, xs) :: L)) : ∀ g, v.ownBlock = some g → g ∉ blocksOf L := by
  intro g hg hm
  have := h.nodup
  unfold blocksOf at this
  rw [List.flatMap_cons] at this
  exact (List.nodup_append.1 this).2.2 g (by simp [hg]) g hm rfl
/-- The first one turned. -/
theorem Rows.turn (h : Rows w ((v, xs) :: L)) (k : RowTo w v w' v' ys) : Rows w' ((v', ys) :: L) := by
  have ht := h.tail.only k.only (fun g hg q => h.apart g (by simpa using q) hg)
  refine ⟨fun p hp => ?_, ?_⟩
  · rcases List.mem_cons.1 hp with rfl | hp
    · exact k.own
    · exact ht.own p hp
  · unfold blocksOf
    rw [List.flatMap_cons]
    refine List.nodup_append.2 ⟨?_, ht.nodup, fun g hg i hi e => ?_⟩
    · cases v'.ownBlock <;> simp
    · subst e
      have hg' : v'.ownBlock = some g := by simpa using hg
      rcases k.blk g hg' with q | q
      · exact h.apart g q hi
      · have := h.tail.lt g hi
        omega
/-- A new one beside them. -/
theorem Rows.add (h : Rows w L) (k : Only [] w w') (ho : Own w' v xs) (hb : ∀ g, v.ownBlock = some g → w.heap.size ≤ g) : Rows w' ((v, xs) :: L) := by
  have ht := h.only0 k
  refine ⟨fun p hp => ?_, ?_⟩
  · rcases List.mem_cons.1 hp with rfl | hp
    · exact ho
    · exact ht.own p hp
  · unfold blocksOf
    rw [List.flatMap_cons]
    refine List.nodup_append.2 ⟨?_, ht.nodup, fun g hg i hi e => ?_⟩
    · cases v.ownBlock <;> simp
    · subst e
      have hg' : v.ownBlock = some g := by simpa using hg
      have := hb g hg'
      have := h.lt g hi
      omega
end
end Go.Proofs.Ythjgplgfcbhihaa
