/- Proved here: contracts of functions and plain laws, part 43 of one proof. Conditions: each theorem names its own. -/
import Derived.Test.YteinoiicnmemhaaGreatDoorZ42
set_option linter.unusedSimpArgs false
set_option linter.unusedVariables false
namespace Go.Proofs.YteinoiicnmemhaaGreatDoor
section
open Go.RowKit Go Go.Sort
section
variable {w w' : World} {b wb : Nat} {v : Value} {ns : List (Nat × Nat)}
set_option maxRecDepth 100000 in
set_option maxHeartbeats 4000000 in
theorem aagree_any (h : ClAt b w wb v ns) (hl : ns.length = 2) : Calls Tryz.prog 16 #[.pointer (some ⟨wb, 0, none⟩)] w fun e w' => e = .returned (.bool true) ∧ Only [] w w' := by
  have HN := Lib.hid (anodes_any h hl)
  have HG := Lib.hid (fun (W : World) (k : Only [] w W) (p q : Nat × Nat) (hp : p ∈ ns) (hq : q ∈ ns) => nagree_any (((h.nod p hp).1).keep0 k) (((h.nod q hq).1).keep0 k))
  have HL := Lib.hid hl
  clear h hl
  go_enter Tryz.func16, Tryz.ntmps16
  go_wp2_with fail
  refine HN.out.mono ?_
  rintro e w1 ⟨A, c, rfl, hown, k1⟩
  obtain ⟨_, _, e2, hcl, hnc, hcm, hel⟩ := (Slc.of_own hown).1
  cases e2
  unfold maxLen at hcm
  obtain ⟨g, off, rfl, hg, hcc⟩ := hel (by omega)
  have Hcell := Lib.hid (fun (j : Nat) (hj : j < 2) => show ∃ p ∈ ns, w1.cell? ⟨g, off + j, none⟩ = some (.pointer (some ⟨p.1, 0, none⟩)) from by
    have hjl : j < ns.length := by have := HL.out; omega
    refine ⟨ns[j], List.getElem_mem hjl, ?_⟩
    rw [hcc j (by omega)]
    simp [ptrs, hjl])
  have K1 := Lib.hid k1
  clear hcc hel hown hcl HN k1
  go_wp2_with fail
  go_loopw [12] (fun iv wr => ∃ k : Nat, k ≤ 2 ∧ iv = .int .i64 k ∧ Hid (wr = w1)) (fun iv _ => 2 - (intOf iv).toNat)
  case atStart => exact ⟨0, by omega, rfl, Lib.hid rfl⟩
  case round =>
    obtain ⟨k, hk, rfl, hwr⟩ := hrel
    have hwr' := hwr.out.symm
    clear hwr
    subst hwr'
    have e9 := IntWalk.i64_in ((k : Int) + 1) ⟨by omega, by omega⟩
    by_cases h2 : k < 2
    · have hki : (k : Int) < 2 := by omega
      obtain ⟨p, hp, hc⟩ := Hcell.out k h2
      go_wp2_with fail
      go_loopw [21] (fun jv wq => ∃ j : Nat, j ≤ k ∧ jv = .int .i64 j ∧ Hid (wq = w1)) (fun jv _ => k - (intOf jv).toNat)
      case atStart => exact ⟨0, by omega, rfl, Lib.hid rfl⟩
      case round =>
        obtain ⟨j, hj, rfl, hwq⟩ := hrel
        have hwq' := hwq.out.symm
        clear hwq
        subst hwq'
        have e8 := IntWalk.i64_in ((j : Int) + 1) ⟨by omega, by omega⟩
        by_cases h3 : j < k
        · have hji : (j : Int) < k := by omega
          obtain ⟨q, hq, hc2⟩ := Hcell.out j (by omega)
          have HC := Lib.hid (HG.out w1 K1.out p q hp hq)
          go_wp2_with (go_at_call 44; refine HC.out.mono ?_; rintro e w3 ⟨rfl, rfl⟩)
          exact ⟨⟨j + 1, by omega, by simp, Lib.hid trivial⟩, by simp [intOf]; omega⟩
        · have hji : ¬ (j : Int) < k := by omega
          go_wp2_with fail
          exact ⟨⟨k + 1, by omega, by simp, Lib.hid trivial⟩, by simp [intOf]; omega⟩
    · have hki : ¬ (k : Int) < 2 := by omega
      go_wp2_with fail
      go_ret
      exact ⟨rfl, K1.out⟩
end
end
section
open Go.RowKit Go Go.Sort
section
variable {w w' : World} {b wb nb : Nat} {v : Value} {ns : List (Nat × Nat)}
theorem judge0_any {M : List Nat} {sb mb : Nat} {av : Value} {pf : ByteArray → Value} (h : StAt w M sb mb av pf MS.new) : Calls Tryz.prog 11 #[.pointer (some ⟨sb, 0, none⟩), .slice none 0 0] w fun e w' => e = .returned (.bool true) ∧ Only [] w w' := by
  have := judge_any (l := []) h (MS.new_ok) few_new (by omega) (Slc.nil w 9) (by simp) (by simp)
  rw [show (runE MS.new []).sameQ MS.new = true from sameQ_refl MS.new] at this
  exact this
set_option maxRecDepth 100000 in
theorem asound_nil (w : World) : Calls Tryz.prog 17 #[.pointer none] w fun e w' => e = .returned (.int .i64 1) ∧ w' = w := by
  go_enter Tryz.func17, Tryz.ntmps17
  go_wp2
  go_ret
  exact ⟨rfl, rfl⟩
set_option maxRecDepth 100000 in
set_option maxHeartbeats 4000000 in
theorem asound_any (h : ClAt b w wb v ns) (hl : ns.length = 2) : Calls Tryz.prog 17 #[.pointer (some ⟨wb, 0, none⟩)] w fun e w' => e = .returned (.int .i64 0) ∧ Only [] w w' := by
  have HN := Lib.hid (anodes_any h hl)
  have HNod := Lib.hid (fun (W : World) (k : Only [] w W) (p : Nat × Nat) (hp : p ∈ ns) => ((h.nod p hp).1).keep0 k)
  have HAg := Lib.hid (fun (W : World) (k : Only [] w W) => aagree_any (h.keep0 k) hl)
  have HL := Lib.hid hl
  clear h hl
  go_enter Tryz.func17, Tryz.ntmps17
  go_wp2_with fail
  refine HN.out.mono ?_
  rintro e w1 ⟨A, c, rfl, hown, k1⟩
  obtain ⟨_, _, e2, hcl, hnc, hcm, hel⟩ := (Slc.of_own hown).1
  cases e2
  unfold maxLen at hcm
  obtain ⟨g, off, rfl, hg, hcc⟩ := hel (by omega)
  have Hcell := Lib.hid (fun (W : World) (k : Only [] w1 W) (j : Nat) (hj : j < 2) => show ∃ p ∈ ns, W.cell? ⟨g, off + j, none⟩ = some (.pointer (some ⟨p.1, 0, none⟩)) from by
    have hjl : j < ns.length := by have := HL.out; omega
    refine ⟨ns[j], List.getElem_mem hjl, ?_⟩
    rw [k.cell hg (by simp), hcc j (by omega)]
    simp [ptrs, hjl])
  have K1 := Lib.hid k1
  clear hcc hel hown hcl HN k1
  go_wp2_with fail
  go_loopw [10] (fun iv wr => ∃ k : Nat, k ≤ 2 ∧ iv = .int .i64 k ∧ Hid (Only [] w1 wr)) (fun iv _ => 2 - (intOf iv).toNat)
  case atStart => exact ⟨0, by omega, rfl, Lib.hid (Only.refl _ _)⟩
  case round =>
    obtain ⟨k, hk, rfl, hO⟩ := hrel
    have e9 := IntWalk.i64_in ((k : Int) + 1) ⟨by omega, by omega⟩
    by_cases h2 : k < 2
    · have hki : (k : Int) < 2 := by omega
      obtain ⟨p, hp, hc⟩ := Hcell.out wr hO.out k h2
      have HP := Lib.hid (fun (W : World) (kk : Only [] wr W) => HNod.out W (K1.out.trans (hO.out.trans kk)) p hp)
      have HM := Lib.hid (nmodel_any (HP.out wr (Only.refl _ _)))
      go_wp2_with fail
      refine HM.out.mono ?_
      rintro e w2 ⟨sb, mb, av, M, rfl, hst, k2⟩
      have HC := Lib.hid (ncommit_any (HP.out w2 k2))
      have HE := Lib.hid (nentries_any (HP.out w2 k2) 0)
      have HJ := Lib.hid (judge0_any hst)
      clear hst
      go_wp2_with fail
      refine HC.out.mono ?_
      rintro e w3 ⟨rfl, rfl⟩
      go_wp2_with fail
      refine HE.out.mono ?_
      rintro e w4 ⟨rfl, rfl⟩
      go_wp2_with fail
      refine HJ.out.mono ?_
      rintro e w5 ⟨rfl, k5⟩
      go_wp2_with fail
      exact ⟨⟨k + 1, by omega, by simp, Lib.hid ((hO.out.trans k2).trans k5)⟩, by simp [intOf]; omega⟩
    · have hki : ¬ (k : Int) < 2 := by omega
      have HA := Lib.hid (HAg.out wr (K1.out.trans hO.out))
      go_wp2_with fail
      refine HA.out.mono ?_
      rintro e w5 ⟨rfl, k5⟩
      go_wp2_with fail
      go_ret
      exact ⟨rfl, (K1.out.trans hO.out).trans k5⟩
end
end
section
open Go.RowKit Go Go.Sort
set_option maxRecDepth 100000 in
theorem aordered_nil (w : World) : Calls Tryz.prog 42 #[.slice none 0 0] w fun e w' => e = .returned (.bool true) ∧ w' = w := by
  go_enter Tryz.func42, Tryz.ntmps42
  go_wp2_with fail
  go_loopw [9] (fun iv wr => iv = .int .i64 0 ∧ wr = w) (fun _ _ => 0)
  case atStart => exact ⟨rfl, rfl⟩
  case round =>
    obtain ⟨rfl, hwr⟩ := hrel
    have hwr' := hwr.symm
    subst hwr'
    go_wp2
    go_ret
    exact ⟨rfl, rfl⟩
set_option maxRecDepth 100000 in
set_option maxHeartbeats 2000000 in
theorem aexplain_nil (w : World) : Calls Tryz.prog 15 #[.slice none 0 0, .slice none 0 0] w fun e w' => e = .returned (.bool true) ∧ Only [] w w' := by
  have HN := Lib.hid (fun (W : World) => newAt_any W)
  have HOr := Lib.hid (fun (W : World) => aordered_nil W)
  have hmm := @run_makeMap Tryz.prog
  go_enter Tryz.func15, Tryz.ntmps15
  go_wp2_with fail
  go_loopw [6, 27] (fun ov iv wr => ov = .slice none 0 0 ∧ iv = .int .i64 0 ∧ Hid (Only [] w wr)) (fun _ _ _ => 0)
  case atStart => exact ⟨rfl, rfl, Lib.hid ((Only.refl _ _).alloc _)⟩
  case round =>
    obtain ⟨rfl, rfl, hO⟩ := hrel
    go_wp2_with fail
    refine (HN.out _).mono ?_
    rintro e w2 ⟨rfl, -, k2⟩
    have hO2 := Lib.hid (hO.out.trans k2)
    go_wp2_with fail
    go_loopw [53] (fun iv wq => iv = .int .i64 0 ∧ Hid (Only [] w wq)) (fun _ _ => 0)
    case atStart => exact ⟨rfl, hO2⟩
    case round =>
      rename World => wq
      obtain ⟨rfl, hO3⟩ := hrel
      go_wp2_with fail
      refine (HOr.out _).mono ?_
      rintro e w4 ⟨rfl, rfl⟩
      go_wp2_with fail
      go_ret
      exact ⟨rfl, hO3.out⟩
end
section
open Go.RowKit Go Go.Sort
def mkE : EntV := ⟨0, ⟨⟨4, 0, ⟨#[]⟩, 0, [], MetaR.zero⟩, .slice none 0 0⟩⟩
theorem mkE_not : (runE MS.new [mkE]).sameQ MS.new = false := by kernel_rfl
theorem mkE_ok : CmdOk mkE.x.c := ⟨by decide, fun e he => by simp [mkE] at he⟩
section
variable {w : World} {M : List Nat} {sb mb : Nat} {av : Value} {pf : ByteArray → Value}
theorem judge1_any (h : StAt w M sb mb av pf MS.new) : Calls Tryz.prog 11 #[.pointer (some ⟨sb, 0, none⟩), .slice (some ⟨w.heap.size, 0, none⟩) 1 1] (w.alloc (.cells #[.int .i64 0, .int .i64 4, .int .i64 0, .string ⟨#[]⟩, .int .i64 0, .slice none 0 0, .int .i64 0, .int .i64 0, .int .i64 0] 43)) fun e w' => e = .returned (.bool false) ∧ Only [] w w' := by
  have k := (Only.refl [] w).alloc (.cells mkE.cells.toArray 43)
  have := judge_any (l := [mkE]) (h.only0 k) MS.new_ok few_new (by omega) (by simpa using slc_new1 (w := w) (e := 43) (size := 9) (cs := mkE.cells) rfl) (by simp) (fun e he => by
    simp at he
    subst he
    exact ⟨mkE_ok, Slc.nil _ 4, fun g hg => by cases hg⟩)
  rw [mkE_not] at this
  have this : Calls Tryz.prog 11 #[.pointer (some ⟨sb, 0, none⟩), .slice (some ⟨w.heap.size, 0, none⟩) 1 1] (w.alloc (.cells #[.int .i64 0, .int .i64 4, .int .i64 0, .string ⟨#[]⟩, .int .i64 0, .slice none 0 0, .int .i64 0, .int .i64 0, .int .i64 0] 43)) _ := this
  exact this.mono fun e w' ⟨q1, q2⟩ => ⟨q1, k.trans q2⟩
set_option maxRecDepth 100000 in
set_option maxHeartbeats 4000000 in
theorem alive27_any (w : World) (hT : J.Tab w) : Calls Tryz.prog 7 #[] w fun e w' => e = .returned (.bool true) ∧ Only [] w w' := by
  have HC := Lib.hid (cnew2_any hT)
  have HN := Lib.hid (fun (W : World) => newAt_any W)
  have HX := Lib.hid (fun (W : World) => aexplain_nil W)
  have HSn := Lib.hid (fun (W : World) => asound_nil W)
  clear hT
  go_enter Tryz.func7, Tryz.ntmps7
  go_wp2_with fail
  refine HC.out.mono ?_
  rintro e w1 ⟨wb, v, ns, rfl, hC, hl, k1⟩
  have HCl := Lib.hid hC
  have HL := Lib.hid hl
  clear hC hl HC
  go_wp2_with fail
  refine (HN.out _).mono ?_
  rintro e w2 ⟨rfl, hs, k2⟩
  have HS := Lib.hid hs
  have HA := Lib.hid (aagree_any (HCl.out.keep0 k2) HL.out)
  obtain ⟨sb, hsb⟩ : ∃ sb, w1.heap.size + 1 = sb := ⟨_, rfl⟩
  obtain ⟨smb, hsmb⟩ : ∃ smb, w1.heap.size = smb := ⟨_, rfl⟩
  have HS2 := Lib.hid (show NewAt w2 sb smb from by rw [← hsb, ← hsmb]; exact HS.out)
  rw [hsb]
  clear hs HN HS hsb hsmb
  go_wp2_with fail
  refine HA.out.mono ?_
  rintro e w3 ⟨rfl, k3⟩
  have HSo := Lib.hid (asound_any ((HCl.out.keep0 k2).keep0 k3) HL.out)
  go_wp2_with fail
  refine HSo.out.mono ?_
  rintro e w4 ⟨rfl, k4⟩
  go_wp2_with fail
  refine (HX.out _).mono ?_
  rintro e w5 ⟨rfl, k5⟩
  have k25 := (k3.trans k4).trans k5
  have hst := HS2.out.only k25 (by simp) (by simp)
  have HJ := Lib.hid (judge0_any (hst.st (fun _ => .slice none 0 0)))
  go_wp2_with fail
  refine HJ.out.mono ?_
  rintro e w6 ⟨rfl, k6⟩
  go_wp2_with fail
  refine (HSn.out _).mono ?_
  rintro e w7 ⟨rfl, rfl⟩
  have hst7 := hst.only k6 (by simp) (by simp)
  have HJ1 := Lib.hid (judge1_any (hst7.st (fun _ => .slice none 0 0)))
  have hO := ((k1.trans k2).trans k25).trans k6
  clear hst hst7
  go_wp2_with fail
  refine HJ1.out.mono ?_
  rintro e w8 ⟨rfl, k8⟩
  go_wp2_with fail
  go_ret
  exact ⟨rfl, hO.trans k8⟩
end
end
end Go.Proofs.YteinoiicnmemhaaGreatDoor
