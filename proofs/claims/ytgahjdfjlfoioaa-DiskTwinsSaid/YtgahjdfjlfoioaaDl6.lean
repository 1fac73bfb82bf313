/- chroniclebook.Room and Short. -/
import Derived.Test.YtgahjdfjlfoioaaDl1
import Derived.Test.YtgahjdfjlfoioaaDk14
set_option linter.unusedVariables false
namespace Go.Proofs.Ytgahjdfjlfoioaa
open Go.RowKit Go.Sort
/-- How much room is left. -/
def roomOf : Int → List Int → Int
  | r, [] => r
  | r, z :: l => if r < 0 ∨ z > r then -1 else roomOf (r - z) l
theorem roomOf_neg (l : List Int) : ∀ r, r < 0 → roomOf r l = if l = [] then r else -1 := by
  intro r hr
  cases l <;> simp [roomOf, hr]
theorem roomOf_le : ∀ (l : List Int) (r : Int), (∀ z ∈ l, 0 ≤ z) → 0 ≤ roomOf r l → l.sum ≤ r - roomOf r l ∧ roomOf r l ≤ r
  | [], r, _, _ => by simp [roomOf]
  | z :: l, r, hz, h => by
    unfold roomOf at h ⊢
    split at h
    · omega
    · rename_i hc
      rw [if_neg hc]
      have := roomOf_le l (r - z) (fun y hy => hz y (by simp [hy])) h
      have := hz z (by simp)
      rw [List.sum_cons]
      omega
theorem roomOf_bd : ∀ (l : List Int) (r : Int), (∀ z ∈ l, 0 ≤ z) → -1 ≤ r → -1 ≤ roomOf r l ∧ roomOf r l ≤ max r (-1)
  | [], r, _, h => by simp [roomOf]; omega
  | z :: l, r, hz, h => by
    unfold roomOf
    split
    · omega
    · rename_i hc
      have h0 := hz z (by simp)
      have := roomOf_bd l (r - z) (fun y hy => hz y (by simp [hy])) (by omega)
      omega
theorem bRoom_any {w : World} {v : Value} {zs : List Int} {r : Int} (hv : Slc w 1 v zs.length (ints zs)) (hz : ∀ z ∈ zs, 0 ≤ z) (hr : -1 ≤ r) (hr2 : r ≤ 1000000000) :
    Calls Try.prog 39 #[.int .i64 r, v] w fun e w' => e = .returned (.int .i64 (roomOf r zs)) ∧ Only [] w w' := by
  obtain ⟨A1, cap1, rfl, hnc1, hcm1, hl1, hc1⟩ := hv.cell
  unfold maxLen at hcm1
  go_enter Try.func39, Try.ntmps39
  go_wp2
  go_loopw [0, 5] (fun u i wr => ∃ (j : Nat) (q : Int), j ≤ zs.length ∧ i = .int .i64 j ∧ u = .int .i64 q ∧ -1 ≤ q ∧ q ≤ 1000000000 ∧ Hid (roomOf r zs = roomOf q (zs.drop j)) ∧ Only [] w wr) (fun _ i _ => zs.length - (intOf i).toNat)
  case atStart => exact ⟨0, r, Nat.zero_le _, rfl, rfl, hr, hr2, by unfold Hid; simp, Only.refl _ _⟩
  case round =>
    obtain ⟨j, q, hj, rfl, rfl, hq0, hq1, HR, hO⟩ := hrel
    by_cases hlt : j < zs.length
    case neg =>
      have hjn : j = zs.length := by omega
      have hf : Hid (roomOf r zs = q) := by
        have := HR.out
        rw [hjn, List.drop_length] at this
        exact this
      clear hjn
      go_wp2
      go_ret
      exact ⟨by rw [hf.out]; rfl, hO⟩
    case pos =>
      obtain ⟨b, off, rfl, hb, hcc⟩ : ∃ b off, A1 = some ⟨b, off, none⟩ ∧ b < w.heap.size ∧ ∀ j, j < (ints zs).length → w.cell? ⟨b, off + j, none⟩ = (ints zs)[j]? := by
        rcases hc1 with q | q
        · omega
        · exact q
      obtain ⟨z, hze⟩ : ∃ z, z = zs[j] := ⟨_, rfl⟩
      have cz : wr.cell? ⟨b, off + j, none⟩ = some (.int .i64 z) := by
        rw [hO.cell hb (by simp), hcc j (by simpa [ints] using hlt), hze]
        simp [ints, hlt]
      have hz0 : 0 ≤ z := by rw [hze]; exact hz _ (List.getElem_mem hlt)
      have hd : Hid (roomOf r zs = if q < 0 ∨ z > q then -1 else roomOf (q - z) (zs.drop (j + 1))) := by
        have := HR.out
        rw [List.drop_eq_getElem_cons hlt, ← hze] at this
        exact this
      clear hcc hc1 hze
      by_cases h1 : q < 0
      · have hf : Hid (roomOf r zs = -1) := by have := hd.out; rw [if_pos (.inl h1)] at this; exact this
        go_wp2
        go_ret
        exact ⟨by rw [hf.out]; rfl, hO⟩
      · by_cases h2 : z > q
        · have hf : Hid (roomOf r zs = -1) := by have := hd.out; rw [if_pos (.inr h2)] at this; exact this
          go_wp2
          go_ret
          exact ⟨by rw [hf.out]; rfl, hO⟩
        · have hf : Hid (roomOf r zs = roomOf (q - z) (zs.drop (j + 1))) := by have := hd.out; rw [if_neg (by omega)] at this; exact this
          go_wp2
          exact ⟨⟨j + 1, q - z, by omega, by simp, rfl, by omega, by omega, hf, hO⟩, by simp [intOf]; omega⟩
/-- What Short tells of lists that are few. -/
theorem bShort_any {w : World} {v : Value} {ss : List ByteArray} {few room : Int} (hv : Slc w 1 v ss.length (strs ss)) (hz : ∀ s ∈ ss, s.size ≤ maxLen) (hr : -1 ≤ room) (hr2 : room ≤ 1000000000) (hfew : 0 ≤ few) (hf2 : few ≤ 1000000) :
    Calls Try.prog 22 #[.int .i64 few, .int .i64 room, v] w fun e w' => (∃ b : Bool, e = .returned (.bool b) ∧ (b = true → (ss.length : Int) ≤ few)) ∧ Only [] w w' := by
  obtain ⟨A1, cap1, rfl, hnc1, hcm1, hl1, hc1⟩ := hv.cell
  unfold maxLen at hcm1
  by_cases hl : few < ss.length
  · go_enter Try.func22, Try.ntmps22
    go_wp2
    go_ret
    exact ⟨⟨false, rfl, by simp⟩, Only.refl _ _⟩
  go_enter Try.func22, Try.ntmps22
  go_wp2
  go_loopw [1, 7] (fun u i wr => ∃ (j : Nat) (q : Int), j ≤ ss.length ∧ i = .int .i64 j ∧ u = .int .i64 q ∧ -1 ≤ q ∧ q ≤ 1000000000 ∧ Only [] w wr) (fun _ i _ => ss.length - (intOf i).toNat)
  case atStart => exact ⟨0, room, Nat.zero_le _, rfl, rfl, hr, hr2, Only.refl _ _⟩
  case round =>
    obtain ⟨j, q, hj, rfl, rfl, hq0, hq1, hO⟩ := hrel
    by_cases hlt : j < ss.length
    case neg =>
      go_wp2
      go_ret
      exact ⟨⟨_, rfl, fun _ => by omega⟩, hO⟩
    case pos =>
      obtain ⟨b, off, rfl, hb, hcc⟩ : ∃ b off, A1 = some ⟨b, off, none⟩ ∧ b < w.heap.size ∧ ∀ j, j < (strs ss).length → w.cell? ⟨b, off + j, none⟩ = (strs ss)[j]? := by
        rcases hc1 with q | q
        · omega
        · exact q
      obtain ⟨z, hze⟩ : ∃ z, z = ss[j] := ⟨_, rfl⟩
      have cz : wr.cell? ⟨b, off + j, none⟩ = some (.string z) := by
        rw [hO.cell hb (by simp), hcc j (by simpa [strs] using hlt), hze]
        simp [strs, hlt]
      have hzm : z.size ≤ maxLen := by rw [hze]; exact hz _ (List.getElem_mem hlt)
      unfold maxLen at hzm
      clear hcc hc1 hze
      by_cases h1 : q < 0
      · go_wp2
        go_ret
        exact ⟨⟨_, rfl, fun _ => by omega⟩, hO⟩
      · go_wp2_with (go_at_call 39; refine (bRoom_any (zs := [(z.size : Int)]) (slc_int (heap_alloc_new _ _)) (by simp) hq0 hq1).mono ?_; rintro e w2 ⟨rfl, h2⟩)
        have := roomOf_bd [(z.size : Int)] q (by simp) hq0
        exact ⟨⟨j + 1, _, by omega, by simp, rfl, this.1, by omega, (hO.alloc _).trans h2⟩, by simp [intOf]; omega⟩
end Go.Proofs.Ytgahjdfjlfoioaa
