/- Contract: Same, of two states in memory that are one and the same state. -/
import Derived.Test.YtefkhkbkengniaaMcp3
import Derived.Test.YtefkhkbkengniaaMcp1
set_option linter.unusedVariables false
set_option linter.unusedSimpArgs false
namespace Go.Proofs.Ytefkhkbkengniaa
open Go.RowKit Go Go.Sort
theorem stagesDone3 {P : Program} {C : World → Prop} {Q : Exit → Act → World → Prop} {l : List Oper} {a : Act} {w : World} (h : Q .normal a w) : wpT1 P l.toArray C Q (opsAt l []) (wpStages P l C Q (fun a w => wpList P l.toArray Q (opsAt l []) a w) []) a w := h
section
variable {w : World} {M1 M2 : List Nat} {sb1 mb1 sb2 mb2 N : Nat} {av1 av2 : Value} {pf1 pf2 : ByteArray → Value} {s : MS}
set_option maxRecDepth 100000 in
set_option maxHeartbeats 4000000 in
theorem same_any (h1 : StAt w M1 sb1 mb1 av1 pf1 s) (h2 : StAt w M2 sb2 mb2 av2 pf2 s) (hs : s.Ok N) (hf : s.Few N) (hN : N ≤ 100000) :
    Calls Try.prog 30 #[.pointer (some ⟨sb1, 0, none⟩), .pointer (some ⟨sb2, 0, none⟩)] w fun e w' => e = .returned (.bool true) ∧ Only [] w w' := by
  have hal := hs.all
  have hml := hf.len
  have hsl1 := (Slc.of_own h1.own).1
  have hsl2 := (Slc.of_own h2.own).1
  obtain ⟨A1, cap1, rfl, hnc1, hcm1, _⟩ := h1.cell
  obtain ⟨A2, cap2, rfl, hnc2, hcm2, _⟩ := h2.cell
  unfold maxLen at hcm1 hcm2
  have hb1 := h1.blk.lt
  have hb2 := h2.blk.lt
  have k0 := Kept.cell (a := w) (R := []) (h1.blk.cell 0) (.inl hb1)
  have k1 := Kept.cell (a := w) (R := []) (h1.blk.cell 1) (.inl hb1)
  have k2 := Kept.cell (a := w) (R := []) (h1.blk.cell 2) (.inl hb1)
  have k3 := Kept.cell (a := w) (R := []) (h1.blk.cell 3) (.inl hb1)
  have l0 := Kept.cell (a := w) (R := []) (h2.blk.cell 0) (.inl hb2)
  have l1 := Kept.cell (a := w) (R := []) (h2.blk.cell 1) (.inl hb2)
  have l2 := Kept.cell (a := w) (R := []) (h2.blk.cell 2) (.inl hb2)
  have l3 := Kept.cell (a := w) (R := []) (h2.blk.cell 3) (.inl hb2)
  have HEq := Lib.hid (fun (W : World) (hW : Only [] w W) => eqSt_any (hsl1.only0 hW) (hsl2.only0 hW) (by omega))
  have hkv : ∀ (pf : ByteArray → Value), (∀ p ∈ s.m.map (fun p => (p.1, p.2.val (pf p.1))), p.1.size ≤ maxLen) := fun pf p hp => by
    obtain ⟨q, hq, rfl⟩ := List.mem_map.1 hp
    have := hf.short q hq
    unfold maxLen
    show q.1.size ≤ _
    omega
  have HC1 := Lib.hid (fun (W : World) (Bm : Nat) (hW : Only [] w W) (hc : W.cell? ⟨Bm, 0, none⟩ = some (.map (some mb1))) => collectS_any hc (h1.map.only hW (by simp)) (by simp; omega) (hkv pf1))
  have HC2 := Lib.hid (fun (W : World) (Bm : Nat) (hW : Only [] w W) (hc : W.cell? ⟨Bm, 0, none⟩ = some (.map (some mb2))) => collectS_any hc (h2.map.only hW (by simp)) (by simp; omega) (hkv pf2))
  have HF1 := Lib.hid (fun (W : World) (hW : Only [] w W) (n : ByteArray) => floorS_any (h1.only0 hW) hs hN n)
  have HF2 := Lib.hid (fun (W : World) (hW : Only [] w W) (n : ByteArray) => floorS_any (h2.only0 hW) hs hN n)
  have HD1 := Lib.hid (fun (W : World) (hW : Only [] w W) (n : ByteArray) => deletedS_any (h1.only0 hW) n)
  have HD2 := Lib.hid (fun (W : World) (hW : Only [] w W) (n : ByteArray) => deletedS_any (h2.only0 hW) n)
  have HM1 := Lib.hid (fun (W : World) (hW : Only [] w W) (n : ByteArray) => metaOfS_any (h1.only0 hW) n)
  have HM2 := Lib.hid (fun (W : World) (hW : Only [] w W) (n : ByteArray) => metaOfS_any (h2.only0 hW) n)
  have hkl1 : (s.m.map (fun p => (p.1, p.2.val (pf1 p.1)))).length ≤ 1000000 := by simp; omega
  have hkl2 : (s.m.map (fun p => (p.1, p.2.val (pf2 p.1)))).length ≤ 1000000 := by simp; omega
  have bd : (s.done != s.done) = false := by simp
  have bn : (s.now != s.now) = false := by simp
  clear hsl1 hsl2 hkv
  go_enter Try.func30, Try.ntmps30
  go_wp2_with fail
  refine wp_region_stages (C := fun W => ∃ p : Kept w [] w, W = p.W) [([0, 1, 2, 3, 4, 5, 6, 7, 8, 9, 10, 11, 12, 13, 14, 15, 16, 17, 18, 19, 20, 21, 22, 23, 24, 25, 26, 27, 28], [])] [29, 30, 31] (by kernel_rfl) (by kernel_rfl) (by intro c d u a w h; cases d <;> exact h) ⟨⟨_, (Keeps.refl _ _ _).drew⟩, rfl⟩ ?_
  refine stagesFirst ?_
  show wpQuiet _ _ _ _ [_, _, _, _, _, _, _, _, _, _, _, _, _, _, _, _, _, _, _, _, _, _, _, _, _, _, _, _, _] _
  repeat (go_big_quiet_step (fail))
  refine wpQuiet_nil ?_
  refine stagesEnd ?_
  show wpList _ _ _ [_, _, _] _ _
  go_wp2_with (go_at_call 52; refine (HEq.out _ (Only.refl _ _).drew).mono ?_; rintro e w2 ⟨rfl, ho2⟩)
  have hO2 : Only [] w w2 := (Only.refl [] w).drew.trans ho2
  have hlt2 : ∀ b, b < w.heap.size → b < w2.heap.size := fun b hb => Nat.lt_of_lt_of_le hb hO2.size
  have hx1 : w2.cell? ⟨sb1, 1, none⟩ = some (.map (some mb1)) := (hO2.blk h1.blk (by simp)).cell 1
  have hx2 : w2.cell? ⟨sb2, 1, none⟩ = some (.map (some mb2)) := (hO2.blk h2.blk (by simp)).cell 1
  have m1 := Kept.cell (a := w2) (R := []) hx1 (.inl (hlt2 _ hb1))
  have m2 := Kept.cell (a := w2) (R := []) hx2 (.inl (hlt2 _ hb2))
  clear k0 k1 k2 k3 l0 l1 l2 l3 HEq hx1 hx2 bd bn
  refine wp_region_stages (C := fun W => ∃ p : Kept w2 [] w2, W = p.W) [([0, 1, 2, 3, 6, 7, 8, 9, 15], [4, 5, 10, 11, 12, 13, 14])] [] (by kernel_rfl) (by kernel_rfl) (by intro c d u a w h; cases d <;> exact h) ⟨⟨_, (Keeps.refl _ _ _).drew⟩, rfl⟩ ?_
  refine stagesFirst ?_
  show wpQuiet _ _ _ _ [_, _, _, _, _, _, _, _, _] _
  repeat (go_big_quiet_step (fail))
  refine wpQuiet_nil ?_
  show wpList _ _ _ [_] _ _
  have hO3 : Only [] w w2.drew := hO2.drew
  obtain ⟨w3, hw3⟩ : ∃ w3, w3 = w2.drew := ⟨_, rfl⟩
  have hK3 : Keeps w2 [] w2 w3 := by rw [hw3]; exact (Keeps.refl _ _ _).drew
  rw [← hw3] at hO3 ⊢
  clear hw3
  go_wp2_with (go_at_call 56; refine (keysM_any _ _).mono ?_; rintro e w4 ⟨rfl, rfl⟩)
  have hO4 := hO3.alloc (.cells #[.map (some mb1)] 73)
  have hc4 : (w3.alloc (.cells #[.map (some mb1)] 73)).cell? ⟨w3.heap.size, 0, none⟩ = some (.map (some mb1)) := (Blk.new w3 73 #[.map (some mb1)]).cell 0
  have hK4 := hK3.alloc (.cells #[.map (some mb1)] 73)
  refine check_kept hK4 ?_
  show wpList _ _ _ [_] _ _
  go_wp2_with (go_at_call 55; refine (HC1.out _ _ hO4 hc4).mono ?_; rintro e w5 ⟨v5, ns1, rfl, hown5, hl5, ho5⟩; obtain ⟨A5, cap5, rfl, _, _⟩ := own_form hown5)
  have hO5 := hO4.trans ho5
  have hK5 := hK4.then0 ho5
  refine check_kept hK5 ?_
  show wpList _ _ _ [_] _ _
  go_wp2_with (go_at_call 56; refine (keysM_any _ _).mono ?_; rintro e w6 ⟨rfl, rfl⟩)
  have hO6 := hO5.alloc (.cells #[.map (some mb2)] 73)
  have hc6 : (w5.alloc (.cells #[.map (some mb2)] 73)).cell? ⟨w5.heap.size, 0, none⟩ = some (.map (some mb2)) := (Blk.new w5 73 #[.map (some mb2)]).cell 0
  have hK6 := hK5.alloc (.cells #[.map (some mb2)] 73)
  refine check_kept hK6 ?_
  show wpList _ _ _ [_] _ _
  go_wp2_with (go_at_call 55; refine (HC2.out _ _ hO6 hc6).mono ?_; rintro e w7 ⟨v7, ns2, rfl, hown7, hl7, ho7⟩; obtain ⟨A7, cap7, rfl, _, _⟩ := own_form hown7)
  have hO7 := hO6.trans ho7
  have hK7 := hK6.then0 ho7
  refine check_kept hK7 ?_
  show wpList _ _ _ [_] _ _
  go_wp2_with fail
  have hO8 := hO7.alloc (.cells #[.slice A5 ns1.length cap5, .slice A7 ns2.length cap7] 54)
  have hK8 := hK7.alloc (.cells #[.slice A5 ns1.length cap5, .slice A7 ns2.length cap7] 54)
  have hs5 := ((Slc.of_own hown5).1.only0 ((((Only.refl [] w5).alloc (.cells #[.map (some mb2)] 73)).trans ho7).alloc (.cells #[.slice A5 ns1.length cap5, .slice A7 ns2.length cap7] 54)))
  have hs7 := ((Slc.of_own hown7).1.only0 ((Only.refl [] w7).alloc (.cells #[.slice A5 ns1.length cap5, .slice A7 ns2.length cap7] 54)))
  have hB8 := Blk.new w7 54 #[.slice A5 ns1.length cap5, .slice A7 ns2.length cap7]
  have HCc := Lib.hid (concatS_some hB8 hs5 hs7 (by omega) (by omega))
  clear hs5 hs7 hB8 hown5 hown7 hc4 hc6 HC1 HC2 m1 m2
  refine check_kept hK8 ?_
  show wpList _ _ _ [_] _ _
  go_wp2_with (go_at_call 54; refine HCc.out.mono ?_; rintro e w9 ⟨v9, ns, rfl, hown9, hlen, ho9⟩; obtain ⟨A9, cap9, rfl, _, _⟩ := own_form hown9)
  have hO9 := hO8.trans ho9
  refine check_kept (hK8.then0 ho9) ?_
  show wpList _ _ _ [_] _ _
  go_wp2_with fail
  refine check_kept (hK8.then0 ho9) ?_
  refine stagesDone3 ?_
  have hs9 := (Slc.of_own hown9).1
  obtain ⟨_, _, e9, hnc9, hcm9, hel9⟩ := hs9.openS
  injection e9 with e91 e92 e93
  subst e91 e93
  unfold maxLen at hcm9
  clear hs9 hown9 HCc hK3 hK4 hK5 hK6 hK7 hK8 hl5 hl7
  go_wp2_with fail
  go_loopw [66] (fun i wr => ∃ k : Nat, k ≤ ns.length ∧ i = .int .i64 k ∧ Only [] w wr ∧ Only [] w9 wr) (fun i _ => ns.length - (intOf i).toNat)
  case atStart => exact ⟨0, Nat.zero_le _, rfl, hO9, Only.refl _ _⟩
  case round =>
    obtain ⟨k, hk, rfl, hO, hO99⟩ := hrel
    by_cases hlt : k < ns.length
    · obtain ⟨b, off, rfl, hbb, hcc⟩ := hel9 k hlt
      have c0 := (hO99.cell hbb (by simp)).trans hcc
      obtain ⟨n, hn⟩ : ∃ n, n = ns[k] := ⟨_, rfl⟩
      rw [← hn] at c0
      have F1 := Lib.hid (fun (W : World) (hW : Only [] wr W) => HF1.out W (hO.trans hW) n)
      have F2 := Lib.hid (fun (W : World) (hW : Only [] wr W) => HF2.out W (hO.trans hW) n)
      have D1 := Lib.hid (fun (W : World) (hW : Only [] wr W) => HD1.out W (hO.trans hW) n)
      have D2 := Lib.hid (fun (W : World) (hW : Only [] wr W) => HD2.out W (hO.trans hW) n)
      have G1 := Lib.hid (fun (W : World) (hW : Only [] wr W) => HM1.out W (hO.trans hW) n)
      have G2 := Lib.hid (fun (W : World) (hW : Only [] wr W) => HM2.out W (hO.trans hW) n)
      obtain ⟨fo, hfo⟩ : ∃ fo, fo = s.floorS n := ⟨_, rfl⟩
      obtain ⟨dl, hdl⟩ : ∃ dl, dl = (s.find n).deleted := ⟨_, rfl⟩
      obtain ⟨mt, hmt⟩ : ∃ mt, mt = (s.find n).mt := ⟨_, rfl⟩
      rw [← hfo] at F1 F2
      rw [← hdl] at D1 D2
      rw [← hmt] at G1 G2
      obtain ⟨g1, g2, g3⟩ := mt
      simp only [MetaR.val] at G1 G2
      have q1 : (fo != fo) = false := by simp
      have q2 : (dl != dl) = false := by simp
      clear hel9 hcc hn hfo hdl hmt HF1 HF2 HD1 HD2 HM1 HM2
      go_wp2_with fail
      refine (F1.out _ (Only.refl _ _)).mono ?_
      rintro e wa ⟨rfl, hoa⟩
      go_wp2_with fail
      refine (F2.out _ hoa).mono ?_
      rintro e wb ⟨rfl, hob⟩
      have o2 := hoa.trans hob
      go_wp2_with fail
      refine (D1.out _ o2).mono ?_
      rintro e wc ⟨rfl, hoc⟩
      have o3 := o2.trans hoc
      go_wp2_with fail
      refine (D2.out _ o3).mono ?_
      rintro e wd ⟨rfl, hod⟩
      have o4 := o3.trans hod
      go_wp2_with fail
      refine (G1.out _ o4).mono ?_
      rintro e we ⟨rfl, hoe⟩
      have o5 := o4.trans hoe
      go_wp2_with fail
      refine (G2.out _ o5).mono ?_
      rintro e wf ⟨rfl, hof⟩
      have o6 := o5.trans hof
      go_wp2_with fail
      exact ⟨⟨k + 1, hlt, by simp, hO.trans o6, hO99.trans o6⟩, by simp [intOf]; omega⟩
    · clear hel9
      go_wp2
      go_ret
      exact ⟨rfl, hO⟩
end
end Go.Proofs.Ytefkhkbkengniaa
