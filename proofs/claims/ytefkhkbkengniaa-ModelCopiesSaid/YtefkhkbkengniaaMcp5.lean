/- ModelCopies: a copy is the same, and goes its own way; the walk. -/
import Derived.Test.YtefkhkbkengniaaMcp4
set_option linter.unusedVariables false
set_option linter.unusedSimpArgs false
namespace Go.Proofs.Ytefkhkbkengniaa
open Go.RowKit
set_option maxRecDepth 100000 in
set_option maxHeartbeats 4000000 in
theorem copies_go (w : World) (v1 v2 : Value) (l m : List CmdV) (h1 : CmdsAt w w v1 l) (h2 : CmdsAt w w v2 m) :
    Calls Try.prog 8 #[v1, v2] w fun e w' => e = .returned (.bool true) ∧ Only [] w w' := by
  obtain ⟨A, cap, rfl, hnc, hcm, _⟩ := h1.cells
  obtain ⟨A2, cap2, rfl, hnc2, hcm2, _⟩ := h2.cells
  unfold maxLen at hcm hcm2
  have HL1 := Lib.hid (fun (W : World) (hw : Only [] w W) => show Calls Try.prog 10 #[.int .i64 25, .slice A l.length cap] W fun e w' => RetB e (fun b => b = true → l.length ≤ 25) ∧ Only [] W w' from light_any (h1.keep0 hw) 25 (by omega))
  have HL2 := Lib.hid (fun (W : World) (hw : Only [] w W) => show Calls Try.prog 10 #[.int .i64 25, .slice A2 m.length cap2] W fun e w' => RetB e (fun b => b = true → m.length ≤ 25) ∧ Only [] W w' from light_any (h2.keep0 hw) 25 (by omega))
  go_enter Try.func8, Try.ntmps8
  go_wp2_with fail
  refine (HL1.out _ (Only.refl _ _)).mono ?_
  rintro e w1 ⟨⟨b1, rfl, hl1⟩, ho1⟩
  cases b1
  · go_wp2_with (go_at_call 11; refine (alive_any _).mono ?_; rintro e w3 ⟨rfl, ho3⟩)
    go_ret
    exact ⟨rfl, ho1.trans ho3⟩
  have hl25 : l.length ≤ 25 := hl1 rfl
  clear hl1
  go_wp2_with fail
  refine (HL2.out _ ho1).mono ?_
  rintro e w2 ⟨⟨b2, rfl, hl2⟩, ho2⟩
  cases b2
  · go_wp2_with (go_at_call 11; refine (alive_any _).mono ?_; rintro e w3 ⟨rfl, ho3⟩)
    go_ret
    exact ⟨rfl, (ho1.trans ho2).trans ho3⟩
  have hm25 : m.length ≤ 25 := hl2 rfl
  have hO2 := ho1.trans ho2
  clear hl2
  go_wp2_with (first
    | (go_at_call 12; refine (has_newS w _ hO2 [] (by simp)).mono ?_; rintro e w4 ⟨rfl, hh4, ho4⟩)
    | (go_at_call 16; refine (run_any hh4 ((h1.keep0 hO2).keep0 ho4) (by omega)).mono ?_; rintro e w5 ⟨rfl, hh5, hk5⟩
       obtain ⟨M0, av0, pf0, hst0, hM0, _, _⟩ := hh5.st
       have hM0lt := hst0.lt
       have hal5 : (runS MS.new l).all.length ≤ 1000000 := by have := hh5.ok.all; omega)
    | (go_at_call 29; refine (copy_any hst0 hal5).mono ?_; rintro e w6 ⟨sa, ma, ava, rfl, hsta, hfra, ho6⟩
       have hst6 := hst0.beside (M' := hM sa ma ava ++ M0) ho6 (by simp) (by simp) (fun g hg => (List.mem_append.1 hg).elim (fun q => .inr (hfra g q).1) .inl) (fun g hg => List.mem_append_right _ hg) hsta.mlt
       clear hst0))
  have hO6 : Only [] w w6 := hh5.only.trans ho6
  have hok : (runS MS.new l).Ok (0 + l.length) := hh5.ok
  have hinv := hh5.inv
  have hfew := few_run l MS.new 0 few_new
  have hlts : ∀ g ∈ hM (w2.heap.size + 1) w2.heap.size av0, g < w5.heap.size := hM0lt
  obtain ⟨sb, hsb⟩ : ∃ sb, sb = w2.heap.size + 1 := ⟨_, rfl⟩
  obtain ⟨mb, hmb⟩ : ∃ mb, mb = w2.heap.size := ⟨_, rfl⟩
  rw [← hsb, ← hmb] at hst6 hlts
  obtain ⟨S0, hS0⟩ : ∃ S0, S0 = runS MS.new l := ⟨_, rfl⟩
  rw [← hS0] at hst6 hsta hok hinv hfew hal5
  rw [← hsb]
  refine (copy_any hst6 hal5).mono ?_
  rintro e w7 ⟨sc, mc, avc, rfl, hstc, hfrc, ho7⟩
  have hO7 := hO6.trans ho7
  have hM2 : ∀ g ∈ hM sc mc avc ++ (hM sa ma ava ++ M0), g ∈ hM sa ma ava ++ M0 ∨ w6.heap.size ≤ g := fun g hg => (List.mem_append.1 hg).elim (fun q => .inr (hfrc g q).1) .inl
  have hst7 := hst6.beside (M' := hM sc mc avc ++ (hM sa ma ava ++ M0)) ho7 (by simp) (by simp) hM2 (fun g hg => List.mem_append_right _ hg) hstc.mlt
  have hsta7 := hsta.beside (M' := hM sc mc avc ++ (hM sa ma ava ++ M0)) ho7 (by simp) (by simp) hM2 (fun g hg => List.mem_append_right _ hg) hstc.mlt
  have hsz56 := ho6.size
  have hsz02 := hO2.size
  have hsz5 := hh5.only.size
  have hbase : ∀ g ∈ hM sc mc avc ++ (hM sa ma ava ++ M0), w.heap.size ≤ g := fun g hg => by
    rcases List.mem_append.1 hg with q | q
    · have := (hfrc g q).1
      omega
    · rcases List.mem_append.1 q with q | q
      · have := (hfra g q).1
        omega
      · exact (hM0 g q).1
  have hsa : ∀ g ∈ hM sb mb av0, g ∉ hM sa ma ava := fun g hg q => by
    have := hlts g hg
    have := (hfra g q).1
    omega
  have hca : ∀ g ∈ hM sc mc avc, g ∉ hM sa ma ava := fun g hg q => by
    have := (hfrc g hg).1
    have := (hfra g q).2
    omega
  have hMa : ∀ g ∈ hM sa ma ava, g ∈ hM sc mc avc ++ (hM sa ma ava ++ M0) := fun g hg => List.mem_append_right _ (List.mem_append_left _ hg)
  have hMc : ∀ g ∈ hM sc mc avc, g ∈ hM sc mc avc ++ (hM sa ma ava ++ M0) := fun g hg => List.mem_append_left _ hg
  obtain ⟨M2, hM2e⟩ : ∃ M2, M2 = hM sc mc avc ++ (hM sa ma ava ++ M0) := ⟨_, rfl⟩
  rw [← hM2e] at hst7 hsta7 hstc hbase hMa hMc
  have HSB := Lib.hid hsb
  clear hM2e hM2 hst6 hsta hh5 hh4 hk5 hsb hmb hfra hfrc hM0 hlts hS0
  have HS1 := Lib.hid (fun (W : World) (hW : Only [] w7 W) => same_any (hsta7.only0 hW) (hst7.only0 hW) hok hfew (by omega))
  have HS2 := Lib.hid (fun (W : World) (hW : Only [] w7 W) => same_any (hst7.only0 hW) (hstc.only0 hW) hok hfew (by omega))
  go_wp2_with fail
  refine (HS1.out _ (Only.refl _ _)).mono ?_
  rintro e w8 ⟨rfl, ho8⟩
  go_wp2_with fail
  refine (HS2.out _ ho8).mono ?_
  rintro e w9 ⟨rfl, ho9⟩
  have hO79 := ho8.trans ho9
  have hO9 := hO7.trans hO79
  have hst9 := hst7.only0 hO79
  have hsta9 := hsta7.only0 hO79
  have hstc9 := hstc.only0 hO79
  have HR1 := Lib.hid (run_alone hsta9 hO9 hbase hok hinv (h2.keep0 hO9) (by omega))
  clear HS1 HS2 hst7 hsta7 hstc
  go_wp2_with fail
  refine HR1.out.mono ?_
  rintro e w10 ⟨rfl, hO10, M3, ava3, pfa3, hsta10, hM3, hM3b, SA, hoA, hSA⟩
  have hst10 := hst9.only hoA (fun g hg => hMa g (hSA g hg)) (fun g hg q => hsa g hg (hSA g q))
  have hz910 := hoA.size
  have hstc10 := hstc9.beside (M' := M2 ++ M3) hoA (fun g hg => hMa g (hSA g hg)) (fun g hg q => hca g hg (hSA g q))
    (fun g hg => (List.mem_append.1 hg).elim .inl (fun q => (hM3 g q).2)) (fun g hg => List.mem_append_left _ hg)
    (fun g hg => (List.mem_append.1 hg).elim (fun q => Nat.lt_of_lt_of_le (hst9.mlt g q) hz910) (hsta10.mlt g))
  have HS3 := Lib.hid (same_any hst10 hstc10 hok hfew (by omega))
  clear HR1 hst9 hsta9 hstc9
  go_wp2_with fail
  refine HS3.out.mono ?_
  rintro e w11 ⟨rfl, ho11⟩
  have hO11 := hO10.trans ho11
  have hstc11 := hstc10.only0 ho11
  have hsta11 := hsta10.only0 ho11
  have HR2 := Lib.hid (run_alone hstc11 hO11 (fun g hg => (List.mem_append.1 hg).elim (hbase g) (fun q => (hM3 g q).1)) hok hinv (h2.keep0 hO11) (by omega))
  clear HS3
  go_wp2_with fail
  refine HR2.out.mono ?_
  rintro e w12 ⟨rfl, hO12, M4, avc4, pfc4, hstc12, _, _, SC, hoC, hSC⟩
  have hsta12 := hsta11.only hoC (fun g hg => (hM3b g (hMc g (hSC g hg)) (hca g (hSC g hg))).1) (fun g hg q => (hM3b g (hMc g (hSC g q)) (hca g (hSC g q))).2 hg)
  have HS4 := Lib.hid (fun (W : World) (hW : Only [] w12 W) => same_any (hsta12.only0 hW) (hstc12.only0 hW) (ok_run m S0 _ hok) (few_run m S0 _ hfew) (by omega))
  clear HR2
  go_wp2_with (first
    | (go_at_call 11; refine (alive_any _).mono ?_; rintro e w13 ⟨rfl, ho13⟩)
    | (go_at_call 30; refine (HS4.out _ ho13).mono ?_; rintro e w14 ⟨rfl, ho14⟩))
  go_ret
  exact ⟨rfl, (hO12.trans ho13).trans ho14⟩
/-- What the row asks for. -/
theorem copiesW (v1 : Value) (l : List CmdV) (v2 : Value) (m : List CmdV) (W : World)
    (x0 : Slc W 8 v1 l.length (l.flatMap CmdV.cells)) (y0 : ∀ o ∈ l, o.Ok W ∧ o.cells.length = 8) (z0 : ∀ g, v1.ownBlock = some g → g < W.heap.size ∨ l = [])
    (x1 : Slc W 8 v2 m.length (m.flatMap CmdV.cells)) (y1 : ∀ o ∈ m, o.Ok W ∧ o.cells.length = 8) (z1 : ∀ g, v2.ownBlock = some g → g < W.heap.size ∨ m = []) :
    Calls Try.prog 8 #[v1, v2] W fun e W' => e = .returned (.bool true) ∧ Only [] W W' :=
  copies_go W v1 v2 l m (CmdsAt.of x0 y0 z0) (CmdsAt.of x1 y1 z1)
end Go.Proofs.Ytefkhkbkengniaa
