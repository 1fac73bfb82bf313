/- ModelHides: in; lists that grow beside a state. -/
import Derived.Test.YtefkhkbkengniaaMhd1
import Derived.Test.YtefkhkbkengniaaMl2
set_option linter.unusedVariables false
set_option linter.unusedSimpArgs false
namespace Go.Proofs.Ytefkhkbkengniaa
open Go.RowKit Go.Sort
section
variable {a w w' : World} {R E : List Nat} {sb mb N : Nat} {s : MS}
/-- A list of one's own grows: its block turns, or a new one comes. -/
theorem HasS.grow {S : List Nat} (h : HasS a w R E sb mb s N) (k : Only S w w') (hS : ∀ g ∈ S, g ∈ R) {g : Nat} (h1 : w.heap.size ≤ g) (h2 : g < w'.heap.size) : HasS a w' (g :: R) E sb mb s N := by
  obtain ⟨M, av, pf, q1, q2, q3, q4⟩ := h.st
  have hd : ∀ i ∈ hM sb mb av, i ∉ S := fun i hi q => q4 i hi (hS i q)
  have hSM : ∀ i ∈ S, i ∈ M := fun i hi => q3 i (hS i hi)
  have hst : StAt w' (g :: M) sb mb av pf s :=
    ⟨k.blk q1.blk (hd sb (by simp [hM])), own_only q1.own k (fun i hi => hd i (by simp [hM, hi])), q1.map.only k (hd mb (by simp [hM])),
      fun n x hx => ((q1.pl n x hx).ext (M' := g :: M) (fun i hi => by simp at hi; rcases hi with rfl | hi; exact .inr h1; exact .inl hi)).only k (fun i hi => List.mem_cons_of_mem _ (hSM i hi)),
      ⟨List.mem_cons_of_mem _ q1.inM.1, List.mem_cons_of_mem _ q1.inM.2.1, fun i hi => List.mem_cons_of_mem _ (q1.inM.2.2 i hi)⟩,
      fun i hi => by simp at hi; rcases hi with rfl | hi; exact h2; exact Nat.lt_of_lt_of_le (q1.mlt i hi) k.size⟩
  refine ⟨h.only.step k (fun i hi => .inr (q2 i (hSM i hi)).1), ⟨g :: M, av, pf, hst, fun i hi => ?_, fun i hi => ?_, fun i hi q => ?_⟩, fun i hi => Nat.lt_of_lt_of_le (h.el i hi) k.size, h.ok, h.inv⟩
  · rcases List.mem_cons.1 hi with rfl | hi
    · refine ⟨Nat.le_trans h.only.size h1, fun q => ?_⟩
      have := h.el i q
      omega
    · exact q2 i hi
  · rcases List.mem_cons.1 hi with rfl | hi
    · simp
    · exact List.mem_cons_of_mem _ (q3 i hi)
  · rcases List.mem_cons.1 q with rfl | q
    · have := q1.lt i hi
      omega
    · exact q4 i hi q
/-- An append to a list of one's own. -/
theorem HasS.appended (h : HasS a w R E sb mb s N) {w1 : World} (k1 : Only [] w w1) {v : Value} {g : Nat} (hv : ∀ i, v.ownBlock = some i → i ∈ R) (hg : w1.grownBy w' v.ownBlock) (hl : v.ownBlock = some g ∨ g = w1.heap.size) (hlt : g < w'.heap.size) :
    HasS a w' (g :: R) E sb mb s N := by
  have hO : Only v.ownBlock.toList w w' := ((k1.of_nil).grown hg (fun i hi => .inl (by simp [hi])))
  rcases hl with q | q
  · exact (h.turn hO (fun i hi => hv i (by simpa using hi))).less (fun i hi => by
      rcases List.mem_cons.1 hi with rfl | hi
      · exact hv _ q
      · exact hi) (fun _ q => q)
  · exact h.grow hO (fun i hi => hv i (by simpa using hi)) (by rw [q]; exact k1.size) hlt
end
/-- k is one of them. -/
def isIn (zs : List Int) (k : Int) : Bool := zs.any fun z => decide (z = k)
set_option maxRecDepth 100000 in
set_option maxHeartbeats 1000000 in
theorem in_any {w : World} {v : Value} {zs : List Int} (h : Slc w 1 v zs.length (ints zs)) (hb : zs.length ≤ 1000000) (z : Int) :
    Calls Try.prog 25 #[v, .int .i64 z] w fun e w' => e = .returned (.bool (isIn zs z)) ∧ Only [] w w' := by
  obtain ⟨A, cap, rfl, hnc, hcm, hel⟩ := h.openI
  unfold maxLen at hcm
  go_enter Try.func25, Try.ntmps25
  go_wp2
  go_loopw [5] (fun i wr => ∃ k : Nat, k ≤ zs.length ∧ i = .int .i64 k ∧ Hid (isIn zs z = isIn (zs.drop k) z) ∧ Only [] w wr) (fun i _ => zs.length - (intOf i).toNat)
  case atStart => exact ⟨0, Nat.zero_le _, rfl, rfl, Only.refl _ _⟩
  case round =>
    obtain ⟨k, hk, rfl, hT, hO⟩ := hrel
    by_cases hlt : k < zs.length
    · obtain ⟨b, off, rfl, hbb, hc⟩ := hel k hlt
      have c0 := (hO.cell hbb (by simp)).trans hc
      have hd : isIn (zs.drop k) z = (decide (zs[k] = z) || isIn (zs.drop (k + 1)) z) := by
        rw [List.drop_eq_getElem_cons hlt]
        rfl
      obtain ⟨y, hy⟩ : ∃ y, y = zs[k] := ⟨_, rfl⟩
      rw [← hy] at c0 hd
      clear hc hy hel
      by_cases he : y = z
      · have hR : Hid (isIn zs z = true) := by unfold Hid; rw [hT.out, hd, decide_eq_true he]; rfl
        have heb : (y == z) = true := by rw [beq_iff_eq]; exact he
        clear he hd
        go_wp2
        go_ret
        exact ⟨ret_b (by rw [hR.out]), hO⟩
      · have hR : Hid (isIn zs z = isIn (zs.drop (k + 1)) z) := by unfold Hid; rw [hT.out, hd, decide_eq_false he]; rfl
        have heb : (y == z) = false := by rw [beq_eq_false_iff_ne]; exact he
        clear he hd
        go_wp2
        exact ⟨⟨k + 1, hlt, by simp, hR, hO⟩, by simp [intOf]; omega⟩
    · have hR : Hid (isIn zs z = false) := by unfold Hid; rw [hT.out, List.drop_of_length_le (by omega)]; rfl
      clear hel
      go_wp2
      go_ret
      exact ⟨ret_b (by rw [hR.out]), hO⟩
end Go.Proofs.Ytefkhkbkengniaa
