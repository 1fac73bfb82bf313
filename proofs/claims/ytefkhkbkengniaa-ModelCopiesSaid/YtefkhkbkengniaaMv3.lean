/- Contract: Read, forward. -/
import Derived.Test.YtefkhkbkengniaaMv2
set_option linter.unusedVariables false
set_option linter.unusedSimpArgs false
namespace Go.Proofs.Ytefkhkbkengniaa
open Go.RowKit
def PageRet (w : World) (r : PageR × Int) (e : Ending) (w' : World) : Prop :=
  ∃ pv, e = .returned (.tuple #[.agg #[pv, .int .i64 r.1.next, .bool r.1.isEnd], .int .i64 r.2]) ∧ w'.ownsRow w.heap.size 48 8 pv r.1.events.length (r.1.events.flatMap StoredR.cells) ∧ Only [] w w'
def MS.readOk (n : ByteArray) (f k : Int) : Bool := nameOk n && decide (0 ≤ f) && decide (1 ≤ k) && decide (k ≤ 100)
def MS.readF (s : MS) (n : ByteArray) (f k : Int) : PageR × Int :=
  if MS.readOk n f k = false then (PageR.zero, 1) else if (s.find n).deleted then (PageR.zero, 23) else if (s.find n).places.length = 0 then (PageR.zero, 8) else forwardBy StoredR.version (s.seenL n) f k
section
variable {w : World} {M : List Nat} {sb mb N : Nat} {av : Value} {pf : ByteArray → Value} {s : MS}
set_option maxRecDepth 100000 in
set_option maxHeartbeats 4000000 in
theorem readF_any (h : StAt w M sb mb av pf s) (hs : s.Ok N) (hN : N ≤ 100000) (n : ByteArray) (hn : n.size ≤ maxLen) (f k : Int) (hv : ∀ e ∈ s.seenL n, 0 ≤ e.version ∧ e.version ≤ 1000000000) :
    Calls Try.prog 27 #[.pointer (some ⟨sb, 0, none⟩), .string n, .int .i64 f, .int .i64 k, .bool false] w (PageRet w (s.readF n f k)) := by
  obtain ⟨A, cap, hpv, hcm, hf⟩ := findv h n
  have HF := Lib.hid hf
  have HS := Lib.hid (fun W => stream_any n W hn)
  have hx := hs.xok n
  have hal := hs.all
  have hlb : (s.seenL n).length ≤ 1000000 := by
    unfold MS.seenL
    have := hx.few
    split
    · simp
    · simp; omega
  unfold maxLen at hcm
  have hfew := hx.few
  clear hf hpv hx
  cases hok : MS.readOk n f k with
  | false =>
    have hR : s.readF n f k = (PageR.zero, 1) := by unfold MS.readF; rw [if_pos hok]
    rw [hR]
    clear hR
    cases hnm : nameOk n with
    | false =>
      rw [hnm] at HS
      clear hok hnm
      go_enter Try.func27, Try.ntmps27
      go_wp2_with (go_at_call 46; refine (HS.out _).mono ?_; rintro e w' ⟨rfl, rfl⟩)
      exact bodyPost_ret (v := .tuple #[.agg #[.slice none 0 0, .int .i64 0, .bool false], .int .i64 1]) (by simp [results, Try.results27, go_sem]) rfl ⟨_, rfl, World.ownsRow_nil _ _ _ _, (Only.refl [] w).alloc _⟩
    | true =>
      rw [hnm] at HS
      simp only [MS.readOk, hnm, Bool.true_and, Bool.and_eq_false_iff, decide_eq_false_iff_not] at hok
      clear hnm
      by_cases h1 : f < 0
      · clear hok
        go_enter Try.func27, Try.ntmps27
        go_wp2_with (go_at_call 46; refine (HS.out _).mono ?_; rintro e w' ⟨rfl, rfl⟩)
        exact bodyPost_ret (v := .tuple #[.agg #[.slice none 0 0, .int .i64 0, .bool false], .int .i64 1]) (by simp [results, Try.results27, go_sem]) rfl ⟨_, rfl, World.ownsRow_nil _ _ _ _, (Only.refl [] w).alloc _⟩
      · by_cases h2 : k < 1
        · clear hok
          go_enter Try.func27, Try.ntmps27
          go_wp2_with (go_at_call 46; refine (HS.out _).mono ?_; rintro e w' ⟨rfl, rfl⟩)
          exact bodyPost_ret (v := .tuple #[.agg #[.slice none 0 0, .int .i64 0, .bool false], .int .i64 1]) (by simp [results, Try.results27, go_sem]) rfl ⟨_, rfl, World.ownsRow_nil _ _ _ _, (Only.refl [] w).alloc _⟩
        · have h3 : k > 100 := by omega
          clear hok
          go_enter Try.func27, Try.ntmps27
          go_wp2_with (go_at_call 46; refine (HS.out _).mono ?_; rintro e w' ⟨rfl, rfl⟩)
          exact bodyPost_ret (v := .tuple #[.agg #[.slice none 0 0, .int .i64 0, .bool false], .int .i64 1]) (by simp [results, Try.results27, go_sem]) rfl ⟨_, rfl, World.ownsRow_nil _ _ _ _, (Only.refl [] w).alloc _⟩
  | true =>
    simp only [MS.readOk, Bool.and_eq_true, decide_eq_true_eq] at hok
    obtain ⟨⟨⟨hnm, h1⟩, h2⟩, h3⟩ := hok
    rw [hnm] at HS
    have hok : MS.readOk n f k = true := by simp [MS.readOk, hnm, h1, h2, h3]
    cases hd : (s.find n).deleted with
    | true =>
      have hR : s.readF n f k = (PageR.zero, 23) := by unfold MS.readF; rw [if_neg (by rw [hok]; decide), if_pos hd]
      rw [hR]
      rw [hd] at HF
      clear hR hok hnm hd
      go_enter Try.func27, Try.ntmps27
      go_wp2_with (first
        | (go_at_call 46; refine (HS.out _).mono ?_; rintro e w' ⟨rfl, rfl⟩)
        | (go_at_call 37; refine (HF.out _ ((Only.refl _ _).alloc _)).mono ?_; rintro e w1 ⟨rfl, ho1⟩
           have hf1 := fun o i => (((Only.refl [] w1).alloc o).blk (ho1.blk (Blk.new w 60 _) (by simp)) (by simp)).free i
           have hc1 := fun o i => (((Only.refl [] w1).alloc o).blk (ho1.blk (Blk.new w 60 _) (by simp)) (by simp)).cell i))
      refine bodyPost_ret (v := .tuple #[.agg #[.slice none 0 0, .int .i64 0, .bool false], .int .i64 23]) (by simp [results, Try.results27, go_sem, hc1]) rfl ⟨_, rfl, World.ownsRow_nil _ _ _ _, ?hw⟩
      case hw =>
        iterate 3 (refine Only.setCell ?_ (.inr (Nat.le_refl _)) _)
        exact (((Only.refl [] w).alloc _).trans ho1).alloc _
    | false =>
      rw [hd] at HF
      by_cases h0 : (s.find n).places.length = 0
      · have hR : s.readF n f k = (PageR.zero, 8) := by unfold MS.readF; rw [if_neg (by rw [hok]; decide), if_neg (by rw [hd]; decide), if_pos h0]
        rw [hR]
        rw [h0] at HF
        clear hR hok hnm hd h0
        go_enter Try.func27, Try.ntmps27
        go_wp2_with (first
          | (go_at_call 46; refine (HS.out _).mono ?_; rintro e w' ⟨rfl, rfl⟩)
          | (go_at_call 37; refine (HF.out _ ((Only.refl _ _).alloc _)).mono ?_; rintro e w1 ⟨rfl, ho1⟩
             have hf1 := fun o i => (((Only.refl [] w1).alloc o).blk (ho1.blk (Blk.new w 60 _) (by simp)) (by simp)).free i
             have hc1 := fun o i => (((Only.refl [] w1).alloc o).blk (ho1.blk (Blk.new w 60 _) (by simp)) (by simp)).cell i))
        refine bodyPost_ret (v := .tuple #[.agg #[.slice none 0 0, .int .i64 0, .bool false], .int .i64 8]) (by simp [results, Try.results27, go_sem, hc1]) rfl ⟨_, rfl, World.ownsRow_nil _ _ _ _, ?hw⟩
        case hw =>
          iterate 3 (refine Only.setCell ?_ (.inr (Nat.le_refl _)) _)
          exact (((Only.refl [] w).alloc _).trans ho1).alloc _
      · have hR : s.readF n f k = forwardBy StoredR.version (s.seenL n) f k := by unfold MS.readF; rw [if_neg (by rw [hok]; decide), if_neg (by rw [hd]; decide), if_neg h0]
        rw [hR]
        have h0b : (((s.find n).places.length : Int) == 0) = false := by rw [beq_eq_false_iff_ne]; omega
        have HSn := Lib.hid (fun (W : World) (hw : Only [] w W) => seenL_any (h.only0 hw) hs hN n)
        have HFw := Lib.hid (fun (W : World) (v : Value) (hl : Slc W 8 v (s.seenL n).length ((s.seenL n).flatMap StoredR.cells)) => forwardV_any (f := f) (n := k) hl hlb hv)
        obtain ⟨r, hr⟩ : ∃ r, r = forwardBy StoredR.version (s.seenL n) f k := ⟨_, rfl⟩
        rw [← hr] at HFw ⊢
        obtain ⟨⟨revs, rnx, rend⟩, rerr⟩ := r
        clear hR hok hnm hd h0 hlb hv hr
        go_enter Try.func27, Try.ntmps27
        go_wp2_with (first
          | (go_at_call 46; refine (HS.out _).mono ?_; rintro e w' ⟨rfl, rfl⟩)
          | (go_at_call 37; refine (HF.out _ ((Only.refl _ _).alloc _)).mono ?_; rintro e w1 ⟨rfl, ho1⟩)
          | (go_at_call 49; refine (HSn.out _ ((((Only.refl _ _).alloc _).trans ho1).alloc _)).mono ?_; rintro e w2 ⟨v2, rfl, hown2, ho2⟩)
          | (go_at_call 50; refine (HFw.out _ _ (Slc.of_own hown2).1).mono ?_; rintro e w3 ⟨v3, rfl, hown3, ho3⟩; obtain ⟨A3, cap3, rfl, _, _⟩ := own_form hown3
             have hp := ho3.blk (ho2.blk (((Only.refl [] w1).alloc _).blk (ho1.blk (Blk.new w 60 _) (by simp)) (by simp)) (by simp)) (by simp)
             have hpc := fun i => hp.cell i
             have hpf := fun i => hp.free i))
        have hsz : w.heap.size < w2.heap.size := by have q1 := ho1.size; have q2 := ho2.size; simp at q1 q2; omega
        refine bodyPost_ret (v := .tuple #[.agg #[.slice A3 revs.length cap3, .int .i64 rnx, .bool rend], .int .i64 rerr]) (by simp [results, Try.results27, go_sem, hpc]) rfl ⟨_, rfl, ?own, ?hw⟩
        case own =>
          refine own_only (own_base hown3 (by omega)) (S := [w.heap.size]) ?_ (fun g hg => by have := (hown3.lt g hg).1; simp; omega)
          iterate 3 (refine Only.setCell ?_ (.inl (by simp)) _)
          exact Only.refl _ _
        case hw =>
          iterate 3 (refine Only.setCell ?_ (.inr (Nat.le_refl _)) _)
          exact (((((Only.refl [] w).alloc _).trans ho1).alloc _).trans ho2).trans ho3
end
end Go.Proofs.Ytefkhkbkengniaa
