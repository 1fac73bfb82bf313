/- Contracts: slices.Clone at ints, Arm, may, strings.Clone. -/
import Derived.Test.YtgahjdfjlfoioaaDk1
namespace Go.Proofs.Ytgahjdfjlfoioaa
open Go.RowKit

theorem Slc.cell {w : World} {size n : Nat} {v : Value} {cs : List Value} (h : Slc w size v n cs) : ∃ A cap, v = .slice A n cap ∧ n ≤ cap ∧ cap ≤ maxLen ∧ cs.length = n * size ∧ (n = 0 ∨ ∃ b off, A = some ⟨b, off, none⟩ ∧ b < w.heap.size ∧ ∀ j, j < cs.length → w.cell? ⟨b, off + j, none⟩ = cs[j]?) := by
  obtain ⟨A, cap, hv, h1, h2, h3, h4⟩ := h
  refine ⟨A, cap, hv, h2, h3, h1, ?_⟩
  rcases Nat.eq_zero_or_pos n with h0 | h0
  · exact .inl h0
  · exact .inr (h4 h0)

theorem cloneInts_any {w : World} {v : Value} {n : Nat} {zs : List Int} (h : Slc w 1 v n (ints zs)) (hb : n * 8 ≤ 140737488355328) :
    Calls Try.prog 37 #[v] w fun e w' => ∃ v', e = .returned v' ∧ Slc w' 1 v' n (ints zs) ∧ (∀ g, v'.ownBlock = some g → w.heap.size ≤ g ∧ g < w'.heap.size) ∧ Only [] w w' := by
  obtain ⟨A, cap, rfl, hnc, hcm, hl, hc⟩ := h.cell
  have hzl : zs.length = n := by simpa [ints] using hl
  cases A with
  | none =>
    have hn : n = 0 := by
      rcases hc with h0 | ⟨b, off, h0, _⟩
      · exact h0
      · cases h0
    subst hn
    have hz : zs = [] := List.eq_nil_of_length_eq_zero hzl
    subst hz
    refine (Try.slices_Clone_int_nil 0 cap w).mono fun e w' ⟨he, hw⟩ => ?_
    subst hw
    exact ⟨_, he, Slc.nil _ _, by simp [Value.ownBlock], Only.refl _ _⟩
  | some a =>
    rcases hc with h0 | ⟨b, off, h0, hlt, hcell⟩
    · subst h0
      have hz : zs = [] := List.eq_nil_of_length_eq_zero hzl
      subst hz
      refine (Try.slices_Clone_int_zero a cap w).mono fun e w' ⟨v', he, hown, _, hbel⟩ => ?_
      obtain ⟨q1, q2⟩ := Slc.of_own hown
      exact ⟨v', he, q1, q2, Only.of_below hbel (Nat.le_refl _)⟩
    · cases h0
      refine (Try.slices_Clone_int b off n cap zs w (by omega) hb ?_).mono fun e w' ⟨v', he, hown, _, hbel⟩ => ?_
      · intro j hj
        rw [hcell j (by simpa [ints] using hj)]
        simp [ints, hj]
      · rw [← hzl, List.take_length] at hown
        rw [← hzl]
        obtain ⟨q1, q2⟩ := Slc.of_own hown
        exact ⟨v', he, q1, q2, Only.of_below hbel (Nat.le_refl _)⟩

theorem arm_any {w : World} {db mb : Nat} {d : DS} {kv : Value} (h : DiskAt w db mb d kv) {n : Int} (hn : -9223372036854775808 ≤ n ∧ n ≤ 9223372036854775807) {v : Value} {zs : List Int} (hs : Slc w 1 v zs.length (ints zs)) (hb : zs.length * 8 ≤ 140737488355328) :
    Calls Try.prog 15 #[.pointer (some ⟨db, 0, none⟩), .int .i64 n, v] w fun e w' => e = .returned (.tuple #[]) ∧ ∃ kv', DiskAt w' db mb (d.arm n zs) kv' ∧ (∀ g, kv'.ownBlock = some g → w.heap.size ≤ g) ∧ Only [db] w w' := by
  go_enter Try.func15, Try.ntmps15
  go_wp2_with (go_at_call 37; refine (cloneInts_any hs hb).mono ?_; rintro e w1 ⟨v', rfl, hs1, hf1, ho1⟩; have h1 := h.blk.of_eq (ho1.block db h.blk.lt (by simp)); have c3 : w1.cell? ⟨db, 3, none⟩ = some (.bool d.armed) := h1.cell 3; have c4 : w1.cell? ⟨db, 4, none⟩ = some (.int .i64 d.left) := h1.cell 4; have c5 : w1.cell? ⟨db, 5, none⟩ = some kv := h1.cell 5; have f3 := h1.free 3; have f4 := h1.free 4; have f5 := h1.free 5; obtain ⟨A, cap, hv', _⟩ := hs1.cell; rw [hv'])
  go_end0
  have hl := h.blk.lt
  have hml := h.map.lt
  refine ⟨rfl, v', ⟨?_, ?_, ?_, ?_, hn, h.room, fun g hg => by have := (hf1 g hg).2; simpa [World.setCell] using this⟩, fun g hg => (hf1 g hg).1, ?_⟩
  · rw [hv']
    exact ((h1.set 3 _).set 4 _).set 5 _
  · exact h.map.only ((((ho1.of_nil (S := [db])).setCell (.inl (by simp)) _).setCell (.inl (by simp)) _).setCell (.inl (by simp)) _) (by simp; exact h.ne)
  · refine hs1.only ((((Only.refl [db] w1).setCell (.inl (by simp)) _).setCell (.inl (by simp)) _).setCell (.inl (by simp)) _) ?_
    intro g hg
    have := hf1 g hg
    simp
    omega
  · intro g hg
    have := hf1 g hg
    omega
  · exact (((ho1.of_nil (S := [db])).setCell (.inl (by simp)) _).setCell (.inl (by simp)) _).setCell (.inl (by simp)) _
theorem arm_nil {w : World} (n : Int) (v : Value) :
    Calls Try.prog 15 #[.pointer none, .int .i64 n, v] w fun e w' => e = .returned (.tuple #[]) ∧ w = w' := by
  go_enter Try.func15, Try.ntmps15
  go_wp2
  go_end0
  exact ⟨rfl, rfl⟩

theorem strClone_any (s : ByteArray) (w : World) (hlim : s.size ≤ 281474976710656) :
    Calls Try.prog 34 #[.string s] w fun e w' => e = .returned (.string s) ∧ Only [] w w' := by
  go_enter Try.func34, Try.ntmps34
  go_wp2_with (go_at_call 44; refine (Try.stringslite_Clone s _ hlim).mono ?_; rintro e w' ⟨rfl, hb⟩)
  go_ret
  exact ⟨rfl, Only.of_below hb (Nat.le_refl _)⟩
end Go.Proofs.Ytgahjdfjlfoioaa
