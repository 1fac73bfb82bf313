/- Contracts: first, again. -/
import Derived.Test.YtefkhkbkengniaaMc7
set_option linter.unusedVariables false
set_option linter.unusedSimpArgs false
namespace Go.Proofs.Ytefkhkbkengniaa
open Go.RowKit
theorem idAt_nat {all : List StoredR} {q : Nat} (h : q < all.length) : idAt all (q : Int) = all[q].ev.id := by simp [idAt, h]
set_option maxRecDepth 100000 in
theorem first1_any {w : World} {M : List Nat} {sb mb b3 b5 : Nat} {av : Value} {pf : ByteArray → Value} {s : MS} {p id : Int} (h : StAt w M sb mb av pf s) (hp : 0 ≤ p ∧ p < s.all.length)
    (h3 : w.cell? ⟨b3, 0, none⟩ = some (.pointer (some ⟨sb, 0, none⟩))) (h5 : w.cell? ⟨b5, 0, none⟩ = some (.int .i64 id)) :
    Calls Try.prog 93 #[.int .i64 p, .pointer (some ⟨b3, 0, none⟩), .pointer (some ⟨b5, 0, none⟩)] w fun e w' => e = .returned (.bool (decide (idAt s.all p = id))) ∧ Only [] w w' := by
  obtain ⟨A2, cap2, rfl, hnc2, hcm2, hel2⟩ := h.cell
  unfold maxLen at hcm2
  obtain ⟨q, rfl⟩ := Int.eq_ofNat_of_zero_le hp.1
  have hq : q < s.all.length := by omega
  obtain ⟨b2, rfl, hb2, hc2⟩ := hel2 q hq
  have c0 : w.cell? ⟨sb, 0, none⟩ = some (.slice (some ⟨b2, 0, none⟩) s.all.length cap2) := h.blk.cell 0
  have ci : w.cell? ⟨b2, q * 8, none⟩ = some (.int .i64 s.all[q].ev.id) := hc2 0 (by omega)
  rw [idAt_nat hq]
  obtain ⟨z, hz⟩ : ∃ z, z = s.all[q].ev.id := ⟨_, rfl⟩
  rw [← hz] at ci ⊢
  have hqi : (q : Int) < s.all.length := by omega
  clear hz hc2 hel2
  by_cases he : z = id
  · have hb : (z == id) = true := by simpa using he
    have HR : Hid (decide (z = id) = true) := by unfold Hid; simpa using he
    clear he
    go_enter Try.func93, Try.ntmps93
    go_wp2
    refine wp_region_stail 11 (by kernel_rfl) (by kernel_rfl) ?_
    simp only [List.take_succ_cons, List.take_zero, List.drop_succ_cons, List.drop_zero]
    repeat still_step
    refine wpStill_nil ?_
    go_wp2
    go_ret
    exact ⟨ret_b (by rw [HR.out]), (Only.refl [] w).drew⟩
  · have hb : (z == id) = false := by simpa using he
    have HR : Hid (decide (z = id) = false) := by unfold Hid; simpa using he
    clear he
    go_enter Try.func93, Try.ntmps93
    go_wp2
    refine wp_region_stail 11 (by kernel_rfl) (by kernel_rfl) ?_
    simp only [List.take_succ_cons, List.take_zero, List.drop_succ_cons, List.drop_zero]
    repeat still_step
    refine wpStill_nil ?_
    go_wp2
    go_ret
    exact ⟨ret_b (by rw [HR.out]), (Only.refl [] w).drew⟩
theorem firstOf_drop (all : List StoredR) (id : Int) (ps : List Int) (k : Nat) (h : k < ps.length) (i : Int) : firstOf all id (ps.drop k) i = if idAt all ps[k] = id then i else firstOf all id (ps.drop (k + 1)) (i + 1) := by
  rw [List.drop_eq_getElem_cons h]
  rfl
theorem idx_any {w : World} {M : List Nat} {sb mb b3 b5 : Nat} {av pv : Value} {pf : ByteArray → Value} {s : MS} {ps : List Int} {id : Int} (h : StAt w M sb mb av pf s) (hp : Slc w 1 pv ps.length (ints ps)) (hx : ∀ p ∈ ps, 0 ≤ p ∧ p < s.all.length)
    (h3 : w.cell? ⟨b3, 0, none⟩ = some (.pointer (some ⟨sb, 0, none⟩))) (h5 : w.cell? ⟨b5, 0, none⟩ = some (.int .i64 id)) :
    Calls Try.prog 92 #[pv, .func (.func 93) #[] #[.pointer (some ⟨b3, 0, none⟩), .pointer (some ⟨b5, 0, none⟩)]] w fun e w' => e = .returned (.int .i64 (firstOf s.all id ps 0)) ∧ Only [] w w' := by
  obtain ⟨A, cap, rfl, hnc, hcm, hel⟩ := hp.openI
  unfold maxLen at hcm
  have l3 := block_lt_of_cell h3
  have l5 := block_lt_of_cell h5
  have HC := Lib.hid (fun (W : World) (hw : Only [] w W) (p : Int) (hp : p ∈ ps) => first1_any (p := p) (id := id) (h.only0 hw) (hx p hp) ((hw.cell l3 (by simp)).trans h3) ((hw.cell l5 (by simp)).trans h5))
  clear h3 h5 hx hp
  go_enter Try.func92, Try.ntmps92
  go_wp2
  go_loopw [8] (fun i wr => ∃ k : Nat, k ≤ ps.length ∧ i = .int .i64 k ∧ Hid (firstOf s.all id ps 0 = firstOf s.all id (ps.drop k) k) ∧ Only [] w wr) (fun i _ => ps.length - (intOf i).toNat)
  case atStart => exact ⟨0, Nat.zero_le _, rfl, rfl, Only.refl _ _⟩
  case round =>
    obtain ⟨k, hk, rfl, hT, hO⟩ := hrel
    by_cases hlt : k < ps.length
    · obtain ⟨b1, off1, rfl, hb1, hc1⟩ := hel k hlt
      rw [← hO.cell hb1 (by simp)] at hc1
      have hd := firstOf_drop s.all id ps k hlt k
      have hcl := HC.out wr hO ps[k] (List.getElem_mem hlt)
      obtain ⟨p, hp⟩ : ∃ p, p = ps[k] := ⟨_, rfl⟩
      rw [← hp] at hc1 hd hcl
      by_cases he : idAt s.all p = id
      · have HR : Hid (firstOf s.all id ps 0 = k) := by unfold Hid; rw [hT.out, hd, if_pos he]
        rw [decide_eq_true he] at hcl
        have HCL := Lib.hid hcl
        clear hcl hd hp he hel
        go_wp2_with (go_at_call 93; refine HCL.out.mono ?_; rintro e w1 ⟨rfl, ho1⟩)
        go_ret
        exact ⟨ret_i (by rw [HR.out]), hO.trans ho1⟩
      · have HR : Hid (firstOf s.all id ps 0 = firstOf s.all id (ps.drop (k + 1)) ((k + 1 : Nat) : Int)) := by unfold Hid; rw [hT.out, hd, if_neg he]; simp
        rw [decide_eq_false he] at hcl
        have HCL := Lib.hid hcl
        clear hcl hd hp he hel
        go_wp2_with (go_at_call 93; refine HCL.out.mono ?_; rintro e w1 ⟨rfl, ho1⟩)
        exact ⟨⟨k + 1, hlt, by simp, HR, hO.trans ho1⟩, by simp [intOf]; omega⟩
    · have HR : Hid (firstOf s.all id ps 0 = -1) := by
        unfold Hid
        rw [hT.out, List.drop_of_length_le (by omega)]
        rfl
      go_wp2
      go_ret
      exact ⟨ret_i (by rw [HR.out]), hO⟩
theorem first_any {w : World} {M : List Nat} {sb mb : Nat} {av pv : Value} {pf : ByteArray → Value} {s : MS} {x : StreamR} (id : Int) (h : StAt w M sb mb av pf s) (hx : XOk s x) (hp : Slc w 1 pv x.places.length (ints x.places)) :
    Calls Try.prog 73 #[.pointer (some ⟨sb, 0, none⟩), x.val pv, .int .i64 id] w fun e w' => e = .returned (.int .i64 (s.first x id)) ∧ Only [] w w' := by
  obtain ⟨A, cap, hpv, _⟩ := hp.openI
  have HI := Lib.hid (fun (W : World) (hw : Only [] w W) (h3 : W.cell? ⟨w.heap.size, 0, none⟩ = some (.pointer (some ⟨sb, 0, none⟩))) (h5 : W.cell? ⟨w.heap.size + 1 + 1, 0, none⟩ = some (.int .i64 id)) => idx_any (id := id) (h.only0 hw) (hp.only0 hw) hx.pl h3 h5)
  unfold MS.first
  subst hpv
  obtain ⟨places, ⟨a, b, d⟩, fl, del⟩ := x
  simp only [StreamR.val] at HI ⊢
  clear hp hx
  have hW : ∀ o1 o2 o3, Only [] w (((w.alloc o1).alloc o2).alloc o3) := fun o1 o2 o3 => (((Only.refl [] w).alloc _).alloc _).alloc _
  have q3 : ∀ v t o2 o3, (((w.alloc (.cells #[v] t)).alloc o2).alloc o3).cell? ⟨w.heap.size, 0, none⟩ = some v := fun v t o2 o3 => ((((Only.refl [] _).alloc o2).alloc o3).blk (Blk.new w t #[v]) (by simp)).cell 0
  have q5 : ∀ v t o1 o2, (((w.alloc o1).alloc o2).alloc (.cells #[v] t)).cell? ⟨w.heap.size + 1 + 1, 0, none⟩ = some v := fun v t o1 o2 => by
    have := (Blk.new ((w.alloc o1).alloc o2) t #[v]).cell 0
    simpa using this
  go_enter Try.func73, Try.ntmps73
  go_wp2_with (go_at_call 92; refine (HI.out _ (hW _ _ _) (q3 _ _ _ _) (q5 _ _ _ _)).mono ?_; rintro e w1 ⟨rfl, ho1⟩)
  go_ret
  exact ⟨rfl, (hW _ _ _).trans ho1⟩
end Go.Proofs.Ytefkhkbkengniaa
