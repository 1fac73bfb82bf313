/- Contracts: Twin, List. -/
import Derived.Test.YtgahjdfjlfoioaaDk12
namespace Go.Proofs.Ytgahjdfjlfoioaa
open Go.RowKit Go.Sort

theorem twin_nil (w : World) : Calls Try.prog 27 #[.pointer none] w fun e w' => e = .returned (.pointer none) ∧ w = w' := by
  go_enter Try.func27, Try.ntmps27
  go_wp2
  go_ret
  exact ⟨rfl, rfl⟩

theorem cloneMap_any {w : World} {b : Nat} {kv : List (ByteArray × Value)} (h : MapIs Value.string w b kv) :
    Calls Try.prog 43 #[.map (some b)] w fun e w' => ∃ o, e = .returned (.map (some w.heap.size)) ∧ w' = w.alloc o ∧ MapIs Value.string w' w.heap.size kv := by
  obtain ⟨es, clock, hb, hs, hm⟩ := h
  refine (AnyW.maps_Clone Try.cloneM b es clock w hb).mono fun e w' ⟨he, hw⟩ => ?_
  subst hw
  exact ⟨_, he, rfl, es, clock, heap_alloc_new w _, hs, hm⟩

set_option maxHeartbeats 1000000 in
theorem twin_any {w : World} {db mb : Nat} {d : DS} {kv : Value} (h : DiskAt w db mb d kv) (hb : d.keep.length * 8 ≤ 140737488355328) :
    Calls Try.prog 27 #[.pointer (some ⟨db, 0, none⟩)] w fun e w' => ∃ db' mb' kv', e = .returned (.pointer (some ⟨db', 0, none⟩)) ∧ DiskAt w' db' mb' d kv' ∧ w.heap.size ≤ db' ∧ w.heap.size ≤ mb' ∧ (∀ g, kv'.ownBlock = some g → w.heap.size ≤ g) ∧ Only [] w w' := by
  have hs := h.slc
  obtain ⟨A, cap, rfl, _⟩ := hs.cell
  have c0 : w.cell? ⟨db, 0, none⟩ = some (.bool d.on) := h.blk.cell 0
  have c1 : w.cell? ⟨db, 1, none⟩ = some (.int .i64 d.room) := h.blk.cell 1
  have c2 : w.cell? ⟨db, 2, none⟩ = some (.map (some mb)) := h.blk.cell 2
  have c3 : w.cell? ⟨db, 3, none⟩ = some (.bool d.armed) := h.blk.cell 3
  have c4 : w.cell? ⟨db, 4, none⟩ = some (.int .i64 d.left) := h.blk.cell 4
  have c5 : w.cell? ⟨db, 5, none⟩ = some (.slice A d.keep.length cap) := h.blk.cell 5
  go_enter Try.func27, Try.ntmps27
  go_wp2
  have hW : ∀ o, Only [] w (w.alloc o).drew := fun o => ((Only.refl [] w).alloc o).drew
  have hW2 : ∀ o o', Only [] w ((w.alloc o).alloc o').drew := fun o o' => (((Only.refl [] w).alloc o).alloc o').drew
  have hM0 : ∀ o, MapIs Value.string (w.alloc o).drew mb (d.fs.map fun p => (p.1, p.2.val)) := fun o => h.map.only (hW o) (by simp)
  have hS0 : ∀ o o', Slc ((w.alloc o).alloc o').drew 1 (.slice A d.keep.length cap) d.keep.length (ints d.keep) := fun o o' => hs.only (hW2 o o') (by simp)
  have e2 : ∀ o, (w.alloc o).drew.cell? ⟨db, 2, none⟩ = some (.map (some mb)) := fun o => (h.only0 (hW o)).blk.cell 2
  have e5 : ∀ o, (w.alloc o).drew.cell? ⟨db, 5, none⟩ = some (.slice A d.keep.length cap) := fun o => (h.only0 (hW o)).blk.cell 5
  have e55 : ∀ o o', ((w.alloc o).alloc o').cell? ⟨db, 5, none⟩ = some (.slice A d.keep.length cap) := fun o o' => (h.only0 (((Only.refl [] w).alloc o).alloc o')).blk.cell 5
  have hX : ∀ x o', Blk ((w.alloc (.cells x 57)).alloc o').drew w.heap.size 57 x := fun x o' => (Blk.new w 57 x).of_eq (Below.heap_alloc _ _ _ (by simp))
  go_region_with (first
    | (go_at_call 43; refine (cloneMap_any (hM0 _)).mono ?_; rintro e w1 ⟨o1, rfl, rfl, hm1⟩)
    | (go_at_call 37; refine (cloneInts_any (hS0 _ _) hb).mono ?_; rintro e w2 ⟨v2, rfl, hs2, hf2, ho2⟩; obtain ⟨A2, cap2, hv2, _⟩ := hs2.cell; rw [hv2]; have hbx := ho2.blk (hX _ _) (by simp); have k2 := hbx.cell 2; have k5 := hbx.cell 5; have q2 := hbx.free 2; have q5 := hbx.free 5))
  all_goals
    go_wp2
    go_ret
    have hT : Only [w.heap.size] w2 ((w2.setCell ⟨w.heap.size, 2, none⟩ (.map (some (w.heap.size + 1)))).setCell ⟨w.heap.size, 5, none⟩ (.slice A2 d.keep.length cap2)) :=
      ((Only.refl [w.heap.size] w2).setCell (p := ⟨w.heap.size, 2, none⟩) (.inl (by simp)) _).setCell (p := ⟨w.heap.size, 5, none⟩) (.inl (by simp)) _
    have hm1' : MapIs Value.string w2 (w.heap.size + 1) (d.fs.map fun p => (p.1, p.2.val)) := by
      have := MapIs.only (w' := w2) hm1 (S := []) ho2 (by simp)
      simpa using this
    have hf3 : ∀ g, (Value.slice A2 d.keep.length cap2).ownBlock = some g → w.heap.size + 1 < g ∧ g < w2.heap.size := by
      intro g hg
      have := hf2 g (by rw [hv2]; exact hg)
      simp at this
      omega
    have hs3 : Slc w2 1 (.slice A2 d.keep.length cap2) d.keep.length (ints d.keep) := by rw [← hv2]; exact hs2
    refine ⟨w.heap.size, w.heap.size + 1, .slice A2 d.keep.length cap2, rfl, ⟨(hbx.set 2 _).set 5 _, hm1'.only hT (by simp), hs3.only hT ?_, ?_, h.left, h.room, ?_⟩, Nat.le_refl _, Nat.le_succ _, ?_, ?_⟩
    · intro g hg; have := hf3 g hg; simp; omega
    · intro g hg; have := hf3 g hg; omega
    · intro g hg; have := hf3 g hg; simpa [World.setCell] using this.2
    · intro g hg; have := hf3 g hg; omega
    · exact ((hW2 _ _).trans ho2).step hT (by simp)
end Go.Proofs.Ytgahjdfjlfoioaa
