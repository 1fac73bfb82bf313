/- Contracts: Checkpoint. -/
import Derived.Test.YthjgplgfcbhihaaGc3
set_option linter.unusedVariables false
set_option linter.unusedSimpArgs false
namespace Go.Proofs.Ythjgplgfcbhihaa
open Go.RowKit Go Go.Sort
section
variable {w : World} {gb fb tb N : Nat} {vw vp va vs : Value} {pf : ByteArray → Value} {g : GS}
set_option maxRecDepth 100000 in
set_option maxHeartbeats 1000000 in
theorem ckpt_any (h : GAt w gb fb tb vw vp va vs pf g) (hok : g.Ok N) (hN : N ≤ 100000) :
    Calls Try.prog 14 #[.pointer (some ⟨gb, 0, none⟩)] w fun e w' => e = .returned (.int .i64 g.checkpoint) ∧ Only [] w w' := by
  have c3 : w.cell? ⟨gb, 3, none⟩ = some (.int .i64 g.next) := h.blk.cell 3
  have c4 : w.cell? ⟨gb, 4, none⟩ = some vw := h.blk.cell 4
  have c5 : w.cell? ⟨gb, 5, none⟩ = some (.map (some fb)) := h.blk.cell 5
  have HN := Lib.hid (none_any h)
  have hrow : ∀ p ∈ g.flight, ∃ A cap, pf p.1 = .slice A p.2.length cap ∧ ∀ (hp : 0 < p.2.length), ∃ b off, A = some ⟨b, off, none⟩ ∧ b < w.heap.size ∧ w.cell? ⟨b, off + 0, none⟩ = some (.int .i64 (p.2[0]'hp)) := fun p hp => by
    obtain ⟨A, cap, e, _, _, hel⟩ := (h.row hp).slc.openI
    exact ⟨A, cap, e, fun hp0 => hel 0 hp0⟩
  have hmap := h.flight
  have hlt := h.flight.lt
  obtain ⟨T, hTe⟩ : ∃ T, T = g.checkpoint := ⟨_, rfl⟩
  rw [← hTe]
  have HT : Hid (T = leastAll g.flight (GS.least g.waiting g.next)) := by unfold Hid; rw [hTe]; rfl
  clear hTe
  obtain ⟨A, cap, rfl, _, _, hel⟩ := h.ownW.slc.openI
  obtain ⟨nx, hnx⟩ : ∃ nx, nx = g.next := ⟨_, rfl⟩
  rw [← hnx] at c3 HT
  clear hnx
  cases hw : g.waiting with
  | nil =>
    rw [hw] at c4 HT
    clear hel hw
    have HT0 : Hid (T = leastAll g.flight (nx)) := HT
    go_enter Try.func14, Try.ntmps14
    go_wp2_with (first
      | (go_at_call 29; refine HN.out.mono ?_; rintro e w1 ⟨rfl, rfl⟩)
      | (at_range; refine wpList_range_is rfl 50 rfl Try.underlying50 rfl hmap ?_; intro o' hit))
    go_frame
    go_loopw [3] (fun n wr => ∃ (s : Int) (left : List (ByteArray × List Int)), n = .int .i64 s ∧ Hid (T = leastAll left s) ∧ (∀ p ∈ left, p ∈ g.flight) ∧ IterIs Value.string wr w.heap.size fb (fvl pf g.flight) (fvl pf left) ∧ Only [] w wr) (fun _ wr => wr.rangeLeft fb w.heap.size)
    case atStart => exact ⟨nx, g.flight, rfl, HT0, fun p hp => hp, hit, (Only.refl _ _).alloc _⟩
    case round =>
      obtain ⟨s, left, rfl, hs, hin, hi, ho⟩ := hrel
      go_wp2_with (at_next; refine wpList_next_fl rfl rfl rfl hi ?_ ?_)
      · intro h0
        have hf : Hid (T = s) := by have := hs.out; rw [h0] at this; exact this
        clear h0 hs
        go_wp2
        go_ret
        exact ⟨by rw [hf.out]; rfl, ho⟩
      · intro l1 qn ql l2 w' hsp hi' ho' hen
        have hq : (qn, ql) ∈ g.flight := hin _ (by rw [hsp]; simp)
        obtain ⟨Aq, cq, hpq, hcq⟩ := hrow _ hq
        have hs2 : Hid (T = leastAll (l1 ++ l2) (GS.least ql s)) := by unfold Hid; rw [hs.out, hsp, leastAll_split]
        have hmu := hi'.left_eq
        have hmu0 := hi.left_eq
        have HL : Hid (w'.rangeLeft fb w.heap.size < wr.rangeLeft fb w.heap.size) := by rw [Hid, hmu, hmu0, hsp]; simp [fvl]
        have hR : Hid (Only [] w w') := ho.step ho' (fun i hi => by simp at hi; subst hi; exact .inr (Nat.le_refl _))
        have hin' : ∀ p ∈ l1 ++ l2, p ∈ g.flight := fun p hp => hin p (by rw [hsp]; rcases List.mem_append.1 hp with q | q <;> simp [q])
        simp only at hpq hen hcq ⊢
        rw [hpq] at hen ⊢
        cases ql with
        | nil =>
          clear hmu hmu0 hs hsp hi ho ho' hin hpq hcq
          go_wp2
          go_roundw
          case rel => exact ⟨s, l1 ++ l2, by go_num, hs2, hin', hi', hR.out⟩
          case measure => exact HL.out
        | cons x xs =>
          obtain ⟨b, off, rfl, hbb, hc0⟩ := hcq (by simp)
          have c0 : w'.cell? ⟨b, off, none⟩ = some (.int .i64 x) := (hR.out.cell hbb (by simp)).trans (by simpa using hc0)
          have hl0 : (0 : Int) < ((x :: xs).length : Int) := by simp
          have hs3 : Hid (T = leastAll (l1 ++ l2) (min s x)) := hs2
          clear hmu hmu0 hs hsp hi ho ho' hin hpq hcq hs2
          obtain ⟨L, hL⟩ : ∃ L, L = (x :: xs).length := ⟨_, rfl⟩
          rw [← hL] at hen hl0 ⊢
          have hLp : 0 < L := by omega
          clear hL hc0
          by_cases hxs : x < s
          · rw [show min s x = x by omega] at hs3
            go_wp2
            go_roundw
            case rel => exact ⟨x, l1 ++ l2, by go_num, hs3, hin', hi', hR.out⟩
            case measure => exact HL.out
          · rw [show min s x = s by omega] at hs3
            go_wp2
            go_roundw
            case rel => exact ⟨s, l1 ++ l2, by go_num, hs3, hin', hi', hR.out⟩
            case measure => exact HL.out
  | cons x0 xs0 =>
    rw [hw] at c4 HT
    obtain ⟨b0, off0, rfl, hbb0, hc0⟩ := hel 0 (by rw [hw]; simp)
    have d0 : w.cell? ⟨b0, off0, none⟩ = some (.int .i64 x0) := by
      rw [Nat.add_zero] at hc0
      rw [hc0]
      simp [hw]
    have HT' : Hid (T = leastAll g.flight (min nx x0)) := HT
    have hl0 : (0 : Int) < ((x0 :: xs0).length : Int) := by simp
    obtain ⟨L0, hL0⟩ : ∃ L, L = (x0 :: xs0).length := ⟨_, rfl⟩
    rw [← hL0] at c4 hl0
    have hLp0 : 0 < L0 := by omega
    clear hel hw HT hc0 hL0
    have HT := HT'
    have HT0 : Hid (T = leastAll g.flight (min nx x0)) := HT
    go_enter Try.func14, Try.ntmps14
    go_wp2_with (first
      | (go_at_call 29; refine HN.out.mono ?_; rintro e w1 ⟨rfl, rfl⟩)
      | (at_range; refine wpList_range_is rfl 50 rfl Try.underlying50 rfl hmap ?_; intro o' hit))
    go_frame
    go_loopw [3] (fun n wr => ∃ (s : Int) (left : List (ByteArray × List Int)), n = .int .i64 s ∧ Hid (T = leastAll left s) ∧ (∀ p ∈ left, p ∈ g.flight) ∧ IterIs Value.string wr w.heap.size fb (fvl pf g.flight) (fvl pf left) ∧ Only [] w wr) (fun _ wr => wr.rangeLeft fb w.heap.size)
    case atStart => exact ⟨min nx x0, g.flight, rfl, HT0, fun p hp => hp, hit, (Only.refl _ _).alloc _⟩
    case round =>
      obtain ⟨s, left, rfl, hs, hin, hi, ho⟩ := hrel
      go_wp2_with (at_next; refine wpList_next_fl rfl rfl rfl hi ?_ ?_)
      · intro h0
        have hf : Hid (T = s) := by have := hs.out; rw [h0] at this; exact this
        clear h0 hs
        go_wp2
        go_ret
        exact ⟨by rw [hf.out]; rfl, ho⟩
      · intro l1 qn ql l2 w' hsp hi' ho' hen
        have hq : (qn, ql) ∈ g.flight := hin _ (by rw [hsp]; simp)
        obtain ⟨Aq, cq, hpq, hcq⟩ := hrow _ hq
        have hs2 : Hid (T = leastAll (l1 ++ l2) (GS.least ql s)) := by unfold Hid; rw [hs.out, hsp, leastAll_split]
        have hmu := hi'.left_eq
        have hmu0 := hi.left_eq
        have HL : Hid (w'.rangeLeft fb w.heap.size < wr.rangeLeft fb w.heap.size) := by rw [Hid, hmu, hmu0, hsp]; simp [fvl]
        have hR : Hid (Only [] w w') := ho.step ho' (fun i hi => by simp at hi; subst hi; exact .inr (Nat.le_refl _))
        have hin' : ∀ p ∈ l1 ++ l2, p ∈ g.flight := fun p hp => hin p (by rw [hsp]; rcases List.mem_append.1 hp with q | q <;> simp [q])
        simp only at hpq hen hcq ⊢
        rw [hpq] at hen ⊢
        cases ql with
        | nil =>
          clear hmu hmu0 hs hsp hi ho ho' hin hpq hcq
          go_wp2
          go_roundw
          case rel => exact ⟨s, l1 ++ l2, by go_num, hs2, hin', hi', hR.out⟩
          case measure => exact HL.out
        | cons x xs =>
          obtain ⟨b, off, rfl, hbb, hc0⟩ := hcq (by simp)
          have c0 : w'.cell? ⟨b, off, none⟩ = some (.int .i64 x) := (hR.out.cell hbb (by simp)).trans (by simpa using hc0)
          have hl0 : (0 : Int) < ((x :: xs).length : Int) := by simp
          have hs3 : Hid (T = leastAll (l1 ++ l2) (min s x)) := hs2
          clear hmu hmu0 hs hsp hi ho ho' hin hpq hcq hs2
          obtain ⟨L, hL⟩ : ∃ L, L = (x :: xs).length := ⟨_, rfl⟩
          rw [← hL] at hen hl0 ⊢
          have hLp : 0 < L := by omega
          clear hL hc0
          by_cases hxs : x < s
          · rw [show min s x = x by omega] at hs3
            go_wp2
            go_roundw
            case rel => exact ⟨x, l1 ++ l2, by go_num, hs3, hin', hi', hR.out⟩
            case measure => exact HL.out
          · rw [show min s x = s by omega] at hs3
            go_wp2
            go_roundw
            case rel => exact ⟨s, l1 ++ l2, by go_num, hs3, hin', hi', hR.out⟩
            case measure => exact HL.out
end
end Go.Proofs.Ythjgplgfcbhihaa
