/- Contracts of the small methods of simdisk: On, goes, Clone, Arm, may, Room, Restore. -/
import Derived.Test.YtgahjdfjlfoioaaRows
import Derived.Test.YtgahjdfjlfoioaaDp
import Derived.Test.YtgahjdfjlfoioaaShelf
namespace Go.Proofs.Ytgahjdfjlfoioaa
open Go.RowKit

/-! ## slices that are only read -/
/-- v is a slice of n elements, size cells each, that holds the cells cs. -/
def Slc (w : World) (size : Nat) (v : Value) (n : Nat) (cs : List Value) : Prop :=
  ∃ A cap, v = .slice A n cap ∧ cs.length = n * size ∧ n ≤ cap ∧ cap ≤ maxLen ∧ (0 < n → ∃ b off, A = some ⟨b, off, none⟩ ∧ b < w.heap.size ∧ ∀ j, j < cs.length → w.cell? ⟨b, off + j, none⟩ = cs[j]?)
section
variable {w w' : World} {size n : Nat} {v : Value} {cs : List Value}
theorem Slc.keep (h : Slc w size v n cs) (hs : w.heap.size ≤ w'.heap.size) (hk : ∀ g, v.ownBlock = some g → g < w.heap.size → w'.heap[g]? = w.heap[g]?) : Slc w' size v n cs := by
  obtain ⟨A, cap, rfl, h1, h2, h3, h4⟩ := h
  refine ⟨A, cap, rfl, h1, h2, h3, fun hn => ?_⟩
  obtain ⟨b, off, rfl, hb, hc⟩ := h4 hn
  exact ⟨b, off, rfl, by omega, fun j hj => (World.cell?_of_block (hk b rfl hb)).trans (hc j hj)⟩
theorem Slc.only {S : List Nat} (h : Slc w size v n cs) (k : Only S w w') (hn : ∀ g, v.ownBlock = some g → g ∉ S) : Slc w' size v n cs :=
  h.keep k.size fun g hg hl => k.block g hl (hn g hg)
theorem Slc.nil (w : World) (size : Nat) : Slc w size (.slice none 0 0) 0 [] := ⟨none, 0, rfl, by simp, Nat.le_refl _, by simp [maxLen], fun h => absurd h (by omega)⟩
theorem Slc.of_own {base : Nat} {e : TypeId} (h : w.ownsRow base e size v n cs) : Slc w size v n cs ∧ ∀ g, v.ownBlock = some g → base ≤ g ∧ g < w.heap.size := by
  refine ⟨?_, h.lt⟩
  obtain ⟨h1, h2⟩ := h
  rcases h2 with ⟨rfl, rfl⟩ | ⟨g, cap, cur, rfl, hb, hg, hn, hc, hs, ht⟩
  · exact ⟨none, 0, rfl, h1, Nat.le_refl _, by simp [maxLen], fun h => absurd h (by omega)⟩
  · refine ⟨some ⟨g, 0, none⟩, cap, rfl, h1, hn, hc, fun _ => ⟨g, 0, rfl, lt_of_block hg, fun j hj => ?_⟩⟩
    rw [cell_of_row w g _ cur e (0, 0) hg, ← ht]
    have hj2 : j < n * size := by omega
    simp [hj2]
end

/-! ## the disk in memory -/
def DS.cells (d : DS) (mb : Nat) (kv : Value) : Array Value := #[.bool d.on, .int .i64 d.room, .map (some mb), .bool d.armed, .int .i64 d.left, kv]
def ints (l : List Int) : List Value := l.map (Value.int .i64)
/-- The disk d lies in block db, its files in the map mb. -/
structure DiskAt (w : World) (db mb : Nat) (d : DS) (kv : Value) : Prop where
  blk : Blk w db 57 (d.cells mb kv)
  map : MapIs Value.string w mb (d.fs.map fun p => (p.1, p.2.val))
  slc : Slc w 1 kv d.keep.length (ints d.keep)
  apart : ∀ g, kv.ownBlock = some g → g ≠ db ∧ g ≠ mb
  left : -9223372036854775808 ≤ d.left ∧ d.left ≤ 9223372036854775807
  room : -9223372036854775808 ≤ d.room ∧ d.room ≤ 9223372036854775807
  old : ∀ g, kv.ownBlock = some g → g < w.heap.size

theorem DiskAt.only {w w' : World} {db mb : Nat} {d : DS} {kv : Value} {S : List Nat} (h : DiskAt w db mb d kv) (k : Only S w w') (hd : db ∉ S) (hm : mb ∉ S) (hk : ∀ g, kv.ownBlock = some g → g ∉ S) : DiskAt w' db mb d kv :=
  ⟨k.blk h.blk hd, h.map.only k hm, h.slc.only k hk, h.apart, h.left, h.room, fun g hg => Nat.lt_of_lt_of_le (h.old g hg) k.size⟩
theorem DiskAt.ne {w : World} {db mb : Nat} {d : DS} {kv : Value} (h : DiskAt w db mb d kv) : mb ≠ db := h.map.ne_blk h.blk

/-! ## On -/
theorem on_any {w : World} {db mb : Nat} {d : DS} {kv : Value} (h : DiskAt w db mb d kv) :
    Calls Try.prog 16 #[.pointer (some ⟨db, 0, none⟩)] w fun e w' => e = .returned (.bool d.on) ∧ w = w' := by
  have c0 : w.cell? ⟨db, 0, none⟩ = some (.bool d.on) := h.blk.cell 0
  go_enter Try.func16, Try.ntmps16
  go_wp2
  go_ret
  exact ⟨rfl, rfl⟩
theorem on_nil (w : World) : Calls Try.prog 16 #[.pointer none] w fun e w' => e = .returned (.bool false) ∧ w = w' := by
  go_enter Try.func16, Try.ntmps16
  go_wp2
  go_ret
  exact ⟨rfl, rfl⟩

/-! ## goes -/
theorem goes_any {w : World} {db mb : Nat} {d : DS} {kv : Value} (h : DiskAt w db mb d kv) (hl : d.armed = true → 0 ≤ d.left) :
    Calls Try.prog 45 #[.pointer (some ⟨db, 0, none⟩)] w fun e w' => e = .returned (.bool d.goes) ∧ DiskAt w' db mb d.tick kv ∧ Only [db] w w' := by
  have c3 : w.cell? ⟨db, 3, none⟩ = some (.bool d.armed) := h.blk.cell 3
  have c4 : w.cell? ⟨db, 4, none⟩ = some (.int .i64 d.left) := h.blk.cell 4
  have f4 : w.frozen? ⟨db, 4, none⟩ = false := h.blk.free 4
  obtain ⟨b1, b2⟩ := h.left
  by_cases ha : d.armed = true
  · have hl0 := hl ha
    rw [ha] at c3
    have hg : d.goes = decide (d.left - 1 < 0) := by simp only [DS.goes, ha, Bool.true_and, decide_eq_decide]; omega
    have ht : d.tick = { d with left := d.left - 1 } := by simp [DS.tick, ha]
    have hfin : DiskAt (w.setCell ⟨db, 4, none⟩ (.int .i64 (d.left - 1))) db mb d.tick kv ∧ Only [db] w (w.setCell ⟨db, 4, none⟩ (.int .i64 (d.left - 1))) := by
      have ho : Only [db] w (w.setCell ⟨db, 4, none⟩ (.int .i64 (d.left - 1))) := (Only.refl _ w).setCell (.inl (by simp)) _
      refine ⟨⟨?_, ?_, ?_, ?_, ?_, ?_, fun g hg => Nat.lt_of_lt_of_le (h.old g hg) ho.size⟩, ho⟩
      · rw [ht]; exact h.blk.set 4 _
      · rw [ht]; exact h.map.only ho (by simp; exact h.ne)
      · rw [ht]; exact h.slc.only ho (fun g hg => by have := h.apart g hg; simp [this.1])
      · exact h.apart
      · rw [ht]; exact ⟨by show _ ≤ d.left - 1; omega, by show d.left - 1 ≤ _; omega⟩
      · rw [ht]; exact h.room
    have HG := Lib.hid hg
    clear hg ht ha
    go_enter Try.func45, Try.ntmps45
    go_wp2
    all_goals
      go_ret
      refine ⟨?_, hfin⟩
      rw [HG.out]
      rfl
  · have ha' : d.armed = false := by simpa using ha
    rw [ha'] at c3
    have hg : d.goes = false := by simp [DS.goes, ha']
    have ht : d.tick = d := by simp [DS.tick, ha']
    rw [ht, hg]
    clear hg ht ha ha'
    go_enter Try.func45, Try.ntmps45
    go_wp2
    go_ret
    exact ⟨rfl, h, Only.refl _ _⟩
end Go.Proofs.Ytgahjdfjlfoioaa
