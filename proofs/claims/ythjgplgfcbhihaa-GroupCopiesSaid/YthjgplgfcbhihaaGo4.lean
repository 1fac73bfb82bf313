/- same: two groups that are the same. -/
import Derived.Test.YthjgplgfcbhihaaGo3
set_option linter.unusedVariables false
set_option linter.unusedSimpArgs false
namespace Go.Proofs.Ythjgplgfcbhihaa
open Go.RowKit Go Go.Sort Go.Lib
def RowAt (w : World) (cs : List Value) (n : Nat) (e : Ending) (w' : World) : Prop := ∃ A c, e = .returned (.slice A n c) ∧ Slc w' 1 (.slice A n c) n cs ∧ Only [] w w'
theorem rowAt_of {w : World} {l : List Int} {e : Ending} {w' : World} (h : RowRet w l e w') : RowAt w (ints l) l.length e w' := by
  obtain ⟨v, rfl, h1, _, h2⟩ := h
  obtain ⟨A, c, rfl, _⟩ := own_form h1
  exact ⟨A, c, rfl, h1.slc, h2⟩
theorem rowAt_who {w : World} {l : List ByteArray} {e : Ending} {w' : World} {b : Nat} (h : ∃ v, e = .returned v ∧ w'.ownsRow b 9 1 v l.length (strs l) ∧ Only [] w w') : RowAt w (strs l) l.length e w' := by
  obtain ⟨v, rfl, h1, h2⟩ := h
  obtain ⟨A, c, rfl, _⟩ := own_form h1
  exact ⟨A, c, rfl, (Slc.of_own h1).1, h2⟩
set_option maxRecDepth 100000 in
set_option maxHeartbeats 4000000 in
theorem sameG_any {a w : World} {H1 H2 : List Nat} {b1 b2 N1 N2 : Nat} {g : GS} (h1 : HasG a w H1 b1 g N1) (h2 : HasG a w H2 b2 g N2) (n1 : N1 ≤ 1000) (n2 : N2 ≤ 1000) :
    Calls Try.prog 25 #[.pointer (some ⟨b1, 0, none⟩), .pointer (some ⟨b2, 0, none⟩)] w fun e w' => e = .returned (.bool true) ∧ Only [] w w' := by
  have HW1 := Lib.hid (fun (W : World) (hW : Only [] w W) => (in_who (h1.keep0 hW)).mono fun e w' q => rowAt_who q)
  have HW2 := Lib.hid (fun (W : World) (hW : Only [] w W) => (in_who (h2.keep0 hW)).mono fun e w' q => rowAt_who q)
  have HC1 := Lib.hid (fun (W : World) (hW : Only [] w W) => in_ckpt (h1.keep0 hW) n1)
  have HC2 := Lib.hid (fun (W : World) (hW : Only [] w W) => in_ckpt (h2.keep0 hW) n2)
  have HA1 := Lib.hid (fun (W : World) (hW : Only [] w W) => (in_waiting (h1.keep0 hW) n1).mono fun e w' q => rowAt_of q)
  have HA2 := Lib.hid (fun (W : World) (hW : Only [] w W) => (in_waiting (h2.keep0 hW) n2).mono fun e w' q => rowAt_of q)
  have HP1 := Lib.hid (fun (W : World) (hW : Only [] w W) => (in_parked (h1.keep0 hW) n1).mono fun e w' q => rowAt_of q)
  have HP2 := Lib.hid (fun (W : World) (hW : Only [] w W) => (in_parked (h2.keep0 hW) n2).mono fun e w' q => rowAt_of q)
  have HK1 := Lib.hid (fun (W : World) (hW : Only [] w W) => (in_acked (h1.keep0 hW) n1).mono fun e w' q => rowAt_of q)
  have HK2 := Lib.hid (fun (W : World) (hW : Only [] w W) => (in_acked (h2.keep0 hW) n2).mono fun e w' q => rowAt_of q)
  have HS1 := Lib.hid (fun (W : World) (hW : Only [] w W) => (in_skipped (h1.keep0 hW) n1).mono fun e w' q => rowAt_of q)
  have HS2 := Lib.hid (fun (W : World) (hW : Only [] w W) => (in_skipped (h2.keep0 hW) n2).mono fun e w' q => rowAt_of q)
  have HF1 := Lib.hid (fun (W : World) (hW : Only [] w W) (who : ByteArray) => (in_flight (h1.keep0 hW) n1 who).mono fun e w' q => rowAt_of q)
  have HF2 := Lib.hid (fun (W : World) (hW : Only [] w W) (who : ByteArray) => (in_flight (h2.keep0 hW) n2 who).mono fun e w' q => rowAt_of q)
  have hO : Only [] w w := Only.refl _ _
  obtain ⟨L, hL⟩ : ∃ L, L = g.who := ⟨_, rfl⟩
  rw [← hL] at HW1 HW2
  clear h1 h2 hL
  go_enter Try.func25, Try.ntmps25
  go_wp2_with fail
  refine (HW1.out _ hO).mono ?_
  rintro e w1 ⟨A, cap, rfl, hs1, k1⟩
  have hO := hO.trans k1
  go_wp2_with fail
  refine (HW2.out _ hO).mono ?_
  rintro e w2 ⟨A2, c2, rfl, hs2, k2⟩
  have hO := hO.trans k2
  have hP := k2
  have HS := Lib.hid (sameT_refl (hs1.only k2 (by simp)) hs2)
  clear hs2
  go_wp2_with fail
  refine HS.out.mono ?_
  rintro e w3 ⟨rfl, k3⟩
  have hO := hO.trans k3
  have hP := hP.trans k3
  clear HS k1 k2 k3
  go_wp2_with fail
  refine (HC1.out _ hO).mono ?_
  rintro e w4 ⟨rfl, k4⟩
  have hO := hO.trans k4
  have hP := hP.trans k4
  go_wp2_with fail
  refine (HC2.out _ hO).mono ?_
  rintro e w5 ⟨rfl, k5⟩
  have hO := hO.trans k5
  have hP := hP.trans k5
  clear HW1 HW2 HC1 HC2 k4 k5
  go_wp2_with fail
  refine (HA1.out _ hO).mono ?_
  rintro e wa ⟨A1, c1, rfl, s1, k1⟩
  have hO := hO.trans k1
  have hP := hP.trans k1
  go_wp2_with fail
  refine (HA2.out _ hO).mono ?_
  rintro e wb ⟨A2, c2, rfl, s2, k2⟩
  have hO := hO.trans k2
  have hP := hP.trans k2
  have HS := Lib.hid (sameI_refl (s1.only k2 (by simp)) s2)
  clear s1 s2
  go_wp2_with fail
  refine HS.out.mono ?_
  rintro e wc ⟨rfl, k3⟩
  have hO := hO.trans k3
  have hP := hP.trans k3
  clear HS k1 k2 k3
  go_wp2_with fail
  refine (HP1.out _ hO).mono ?_
  rintro e wa ⟨A1, c1, rfl, s1, k1⟩
  have hO := hO.trans k1
  have hP := hP.trans k1
  go_wp2_with fail
  refine (HP2.out _ hO).mono ?_
  rintro e wb ⟨A2, c2, rfl, s2, k2⟩
  have hO := hO.trans k2
  have hP := hP.trans k2
  have HS := Lib.hid (sameI_refl (s1.only k2 (by simp)) s2)
  clear s1 s2
  go_wp2_with fail
  refine HS.out.mono ?_
  rintro e wc ⟨rfl, k3⟩
  have hO := hO.trans k3
  have hP := hP.trans k3
  clear HS k1 k2 k3
  go_wp2_with fail
  refine (HK1.out _ hO).mono ?_
  rintro e wa ⟨A1, c1, rfl, s1, k1⟩
  have hO := hO.trans k1
  have hP := hP.trans k1
  go_wp2_with fail
  refine (HK2.out _ hO).mono ?_
  rintro e wb ⟨A2, c2, rfl, s2, k2⟩
  have hO := hO.trans k2
  have hP := hP.trans k2
  have HS := Lib.hid (sameI_refl (s1.only k2 (by simp)) s2)
  clear s1 s2
  go_wp2_with fail
  refine HS.out.mono ?_
  rintro e wc ⟨rfl, k3⟩
  have hO := hO.trans k3
  have hP := hP.trans k3
  clear HS k1 k2 k3
  go_wp2_with fail
  refine (HS1.out _ hO).mono ?_
  rintro e wa ⟨A1, c1, rfl, s1, k1⟩
  have hO := hO.trans k1
  have hP := hP.trans k1
  go_wp2_with fail
  refine (HS2.out _ hO).mono ?_
  rintro e wb ⟨A2, c2, rfl, s2, k2⟩
  have hO := hO.trans k2
  have hP := hP.trans k2
  have HS := Lib.hid (sameI_refl (s1.only k2 (by simp)) s2)
  clear s1 s2
  go_wp2_with fail
  refine HS.out.mono ?_
  rintro e wc ⟨rfl, k3⟩
  have hO := hO.trans k3
  have hP := hP.trans k3
  clear HS k1 k2 k3
  clear HA1 HA2 HP1 HP2 HK1 HK2 HS1 HS2
  obtain ⟨A', cap', hv', _, hcm, hel⟩ := hs1.openS
  unfold maxLen at hcm
  obtain ⟨rfl, rfl⟩ : A = A' ∧ cap = cap' := by injection hv' with q1 q2 q3; exact ⟨q1, q3⟩
  have HEl := Lib.hid hel
  clear hel hv' hs1
  go_wp2
  go_loopw [6] (fun iv wr => ∃ j : Nat, j ≤ L.length ∧ iv = .int .i64 j ∧ Only [] w wr ∧ Only [] w1 wr) (fun iv _ => L.length - (intOf iv).toNat)
  case atStart => exact ⟨0, Nat.zero_le _, rfl, hO, hP⟩
  case round =>
    obtain ⟨j, hj, rfl, hO, hP⟩ := hrel
    by_cases hlt : j < L.length
    · obtain ⟨b, o, rfl, hb, q⟩ := HEl.out j hlt
      obtain ⟨x, hx⟩ : ∃ x, x = L[j] := ⟨_, rfl⟩
      rw [← hx] at q
      have d1 := Within.cell (S := []) ((hP.cell hb (by simp)).trans q) (by simp)
      clear hx q
      go_wp2_with fail
      refine wp_region_in [] [0, 1, 2, 3, 4, 6, 7, 8, 9, 10] [5, 11, 12, 13] [] (by kernel_rfl) (by kernel_rfl) (by intro c d u a w h; cases d <;> exact h) ?_
      show wpQuiet _ _ _ _ [_, _, _, _, _, _, _, _, _, _] _
      repeat (go_big_quiet_step (fail))
      refine wpQuiet_nil ?_
      show wpList _ _ _ [_] _ _
      go_wp2_with fail
      refine (HF1.out _ hO.drew _).mono ?_
      rintro e w6 ⟨A6, c6, rfl, s6, k6⟩
      go_wp2_with fail
      refine check_of (S := []) ((Only.refl [] _).drew.trans k6) ?_
      show wpList _ _ _ [_] _ _
      go_wp2_with fail
      refine (HF2.out _ (hO.drew.trans k6) _).mono ?_
      rintro e w7 ⟨A7, c7, rfl, s7, k7⟩
      go_wp2_with fail
      refine check_of (S := []) (((Only.refl [] _).drew.trans k6).trans k7) ?_
      show wpList _ _ _ [_] _ _
      have HS := Lib.hid (sameI_refl (s6.only k7 (by simp)) s7)
      clear s6 s7
      go_wp2_with fail
      refine HS.out.mono ?_
      rintro e w8 ⟨rfl, k8⟩
      go_wp2_with fail
      have k9 := (((Only.refl [] wr).drew.trans k6).trans k7).trans k8
      refine check_of (S := []) k9 ?_
      show wpList _ _ _ [_] _ _
      go_wp2_with fail
      refine check_last (S := []) k9 (fun _ _ q => q) ?_
      clear HS k6 k7 k8
      go_wp2
      exact ⟨⟨j + 1, hlt, by simp, hO.trans k9, hP.trans k9⟩, by simp [intOf]; omega⟩
    · go_wp2
      go_ret
      exact ⟨rfl, hO⟩
end Go.Proofs.Ythjgplgfcbhihaa
