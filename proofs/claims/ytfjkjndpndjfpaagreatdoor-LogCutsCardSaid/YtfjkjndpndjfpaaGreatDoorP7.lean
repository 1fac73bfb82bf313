/- Proved here: contracts of functions and plain laws, part 7 of one proof. Conditions: each theorem names its own. -/
import Derived.Test.YtfjkjndpndjfpaaGreatDoorP6
/- Contracts: a log is cut (chunklog Truncate). -/
set_option linter.unusedVariables false
set_option linter.unusedSimpArgs false
namespace Go.Proofs.YtfjkjndpndjfpaaGreatDoor
open Go Go.RowKit Go.Sort
section
variable {a w w1 w' W W' : World} {lb db mb M N c : Nat} {D0 D D1 D2 d : DS} {L L' : LogS} {kv pv : Value} {xs : List (Value × PartL)} {R S : List Nat}
set_option maxRecDepth 100000 in
set_option maxHeartbeats 4000000 in
theorem jtruncate_any (h : LogAt a w lb db mb d L kv pv xs) (hg : Good L d false c) (hk : d.Ok M) (hM : M ≤ 1000000) (hsum : ∀ p ∈ L.ps, sumS p.bodies ≤ 1000000 ∧ p.bodies.length ≤ 1000000) (hl : L.len ≤ 100000) {n : Nat} (hn : n ≤ L.all.length) :
    Calls Tryz.prog 22 #[.pointer (some ⟨lb, 0, none⟩), .int .i64 n] w fun e w' => e = .returned (.int .i64 0) ∧ LTo a lb db mb (lblk lb db mb kv pv xs) w w' (L.truncate d n).2 := by
  have hxl := xs_len h
  have hfew := hg.few
  have hlen := len_all L
  have HMy := Lib.hid (jmay_any h.blk)
  rw [hg.bad] at HMy
  have HL := Lib.hid (jlen_any h (by omega) (by omega))
  have hd0 : decide ((n : Int) < 0) = false := decide_eq_false (by omega)
  have hd1 : decide ((n : Int) > L.len) = false := decide_eq_false (by omega)
  have hbad := hg.bad
  have HO := Lib.hid (LogOn.refl h)
  have HLn := Lib.hid fun (W : World) (k : Only [] w W) => jlen_any (h.only0 k) (by omega) (by omega)
  by_cases he : n = L.all.length
  · rw [LogS.truncate_len hbad he]
    have hd2 : ((n : Int) == L.len) = true := by simp; omega
    clear h hg hk hxl hlen he hn hbad
    go_enter Tryz.func22, Tryz.ntmps22
    go_wp2_with (first | (go_at_call 37; refine HMy.out.mono ?_; rintro e1 w1 ⟨rfl, rfl⟩; (have hh := HMy); clear HMy) | (go_at_call 13; refine (HLn.out _ (Only.refl _ _)).mono ?_; rintro e2 w2 ⟨rfl, k2⟩) | (go_at_call 13; refine (HLn.out _ k2).mono ?_; rintro e3 w3 ⟨rfl, k3⟩; have k3 := k2.trans k3))
    go_ret
    exact ⟨rfl, (HO.out.only0 k3).lto⟩
  · have hlt : n < L.all.length := by omega
    have hd2 : ((n : Int) == L.len) = false := by simp; omega
    have HNm := Lib.hid fun (W : World) (L' : LogS) (D' : DS) (kv' pv' : Value) (xs' : List (Value × PartL)) (h : LogAt a W lb db mb D' L' kv' pv' xs') (hp : L'.pre.size ≤ 1000) (m : Nat) (hm : m ≤ 1000) => jname_any h.blk hp h.tabw (m : Int) (by omega) (by omega)
    have HRm := Lib.hid fun (W : World) (L' : LogS) (D' : DS) (kv' pv' : Value) (xs' : List (Value × PartL)) (h : LogAt a W lb db mb D' L' kv' pv' xs') (hk : D'.Ok M) (nm : ByteArray) => remove_any h.disk hk (by omega) nm
    obtain ⟨R, hR⟩ : ∃ R, lblk lb db mb kv pv xs = R := ⟨_, rfl⟩
    rw [hR] at HO ⊢
    have HG := Lib.hid hg
    have HK := Lib.hid hk
    have HB := Lib.hid hbad
    have HLt := Lib.hid hlt
    have HSum := Lib.hid hsum
    have HLe := Lib.hid hlen
    have HXl := Lib.hid hxl
    have HH := Lib.hid h
    by_cases h0 : n = 0
    · subst h0
      rw [show ((0 : Nat) : Int) = 0 from rfl] at hd0 hd1 hd2 ⊢
      clear h hg hk hxl hlen he hn hbad hR hlt hsum hd0
      go_enter Tryz.func22, Tryz.ntmps22
      go_wp2_with (first | (go_at_call 37; refine HMy.out.mono ?_; rintro e1 w1 ⟨rfl, rfl⟩; (have hh := HMy); clear HMy) | (go_at_call 13; refine (HLn.out _ (Only.refl _ _)).mono ?_; rintro e2 w2 ⟨rfl, k2⟩) | (go_at_call 13; refine (HLn.out _ k2).mono ?_; rintro e3 w3 ⟨rfl, k3⟩; have k3 := k2.trans k3))
      go_loopw [] (fun wr => ∃ (L' : LogS) (D' : DS) (kv' pv' : Value) (xs' : List (Value × PartL)) (b' : Bool) (f : Nat), Hid (LogOn a R w1 wr lb db mb D' L' kv' pv' xs') ∧ Hid (Good L' D' b' c) ∧ Hid (D'.Ok M) ∧ xs'.length ≤ f ∧ Hid (L.popGo d ((0 : Nat) : Int) true L.ps.length = L'.popGo D' ((0 : Nat) : Int) true f) ∧ Hid (L'.len ≤ 100000)) (fun wr => partsLen wr lb)
      case atStart => exact ⟨L, d, kv, pv, xs, false, L.ps.length, Lib.hid (HO.out.only0 k3), HG, HK, by rw [HXl.out]; exact Nat.le_refl _, Lib.hid rfl, Lib.hid hl⟩
      case round =>
        obtain ⟨L', D', kv', pv', xs', b', f, HO', HG', HK', hf, HE, HL'⟩ := hrel
        have c3 := HO'.out.at_.cell3
        obtain ⟨B, bc, hpv, _, _⟩ := own_form HO'.out.at_.row
        by_cases hx : xs'.length = 0
        · rw [hpv, hx] at c3
          have hstop := LogS.popStop (L := L') (D := D') (t := ((0 : Nat) : Int)) (z := true) (fun q => by have := xs_len HO'.out.at_; omega) f
          have HT := Lib.hid (LogS.truncate_none HB.out (by have := HLt.out; omega) (HE.out.trans hstop))
          clear hstop hpv hx
          go_wp2_with fail
          go_ret
          rw [HT.out]
          exact ⟨rfl, HO'.out.lto⟩
        · obtain ⟨m, hm⟩ : ∃ m, xs'.length = m + 1 := ⟨xs'.length - 1, by omega⟩
          obtain ⟨f, rfl⟩ : ∃ f', f = f' + 1 := ⟨f - 1, by omega⟩
          obtain ⟨g, cap, hpv', hgb, -⟩ := HO'.out.at_.at (k := 0) (by omega)
          subst hpv'
          obtain ⟨q1, q2, q3⟩ := HG'.out.popEq (k := m) (by rw [← xs_len HO'.out.at_]; exact hm.symm) (t := ((0 : Nat) : Int)) (z := true) (.inr rfl) f
          have hfew' := HG'.out.few
          rw [← xs_len HO'.out.at_] at hfew'
          have hcap : m + 1 ≤ cap := by
            obtain ⟨B', bc', z, hc, -⟩ := own_form HO'.out.at_.row
            simp only [Value.slice.injEq] at z
            omega
          have e1 : IntKind.i64.wrap ((xs'.length : Int) - 1) = (m : Int) := by rw [hm]; exact (IntWalk.i64_in _ ⟨by omega, by omega⟩).trans (by omega)
          have hd5 : decide (0 < xs'.length) = true := decide_eq_true (by omega)
          have hd6 : decide ((m : Int) ≤ (cap : Int)) = true := decide_eq_true (by omega)
          have HN1 := Lib.hid fun (W : World) (k : Only [] wr W) => HNm.out W L' D' _ _ xs' (HO'.out.only0 k).at_ (by have := HG'.out.pre; omega) m (by omega)
          have hRr := fun (W : World) (k : Only [] wr W) => HRm.out W L' D' _ _ xs' (HO'.out.only0 k).at_ HK'.out (nameK L'.pre m)
          have hok := (DS.remove_ok HK'.out (nameK L'.pre m)).1
          rw [q1] at hRr hok
          dsimp only at hRr hok
          obtain ⟨d2, hd2e⟩ : ∃ d2, ({ D' with fs := adel D'.fs (nameK L'.pre m) } : DS) = d2 := ⟨_, rfl⟩
          rw [hd2e] at q2 q3 hRr hok
          obtain ⟨nm, hnm⟩ : ∃ nm, nameK L'.pre (m : Int) = nm := ⟨_, rfl⟩
          rw [hnm] at HN1 hRr
          have HR1 := Lib.hid hRr
          have HK2 := Lib.hid hok
          have HQ2 := Lib.hid q2
          have HQ3 := Lib.hid q3
          have HM := Lib.hid hm
          clear hRr hok q1 q2 q3 hnm hd2e hm hx hpv
          by_cases hm0 : 0 < m
          · have hd7 : decide (0 < m) = true := decide_eq_true hm0
            have k3 := (Only.refl [] wr).drew
            obtain ⟨F, hF⟩ : ∃ F : List (Addr × Value), F = [(⟨lb, 0, none⟩, .pointer (some ⟨db, 0, none⟩)), (⟨lb, 3, none⟩, .slice (some ⟨g, 0, none⟩) xs'.length cap)] := ⟨_, rfl⟩
            have hFW : ∀ W : World, W.cell? ⟨lb, 0, none⟩ = some (.pointer (some ⟨db, 0, none⟩)) → W.cell? ⟨lb, 3, none⟩ = some (.slice (some ⟨g, 0, none⟩) xs'.length cap) → ∀ x ∈ F, W.cell? x.1 = some x.2 := fun W h h3 => by rw [hF]; exact hold2 h h3
            have d0 : ∀ p : Hold F, p.W.cell? ⟨lb, 0, none⟩ = some (.pointer (some ⟨db, 0, none⟩)) := fun p => p.h (_, _) (by rw [hF]; simp)
            have d3 : ∀ p : Hold F, p.W.cell? ⟨lb, 3, none⟩ = some (.slice (some ⟨g, 0, none⟩) xs'.length cap) := fun p => p.h (_, _) (by rw [hF]; simp)
            have HF := Lib.hid hFW
            clear hF hFW
            go_wp2_with fail
            refine wp_region_hold F [0, 1, 2, 3, 4, 5, 6, 7, 8, 9, 10, 11] [12, 13, 14] [15] (HF.out _ HO'.out.at_.cell0 HO'.out.at_.cell3) (by kernel_rfl) (by kernel_rfl) (by intro c d u a w h; cases d <;> exact h) ?_
            intro hne
            show wpQuiet _ _ _ _ [_, _, _, _, _, _, _, _, _, _, _, _] _
            repeat (go_big_quiet_step (fail))
            refine wpQuiet_nil ?_
            clear c3
            show wpList _ _ _ [_] _ _
            go_wp2_with (go_at_call 50; refine (HN1.out _ k3).mono ?_; rintro e3 w3 ⟨rfl, k4⟩)
            have k4 := k3.trans k4
            have HO3 := Lib.hid (HO'.out.only0 k4)
            refine check_hold (HF.out _ HO3.out.at_.cell0 HO3.out.at_.cell3) ?_
            show wpList _ _ _ [_] _ _
            go_wp2_with (go_at_call 49; refine (HR1.out _ k4).mono ?_; rintro e4 w4 ⟨rfl, k5⟩)
            have HT4 := Lib.hid (told_leads HO3.out.at_ k5 0)
            obtain ⟨kv4, k5a, k5b, k5c⟩ := HO3.out.at_.leads k5
            refine check_hold (HF.out _ k5a.cell0 k5a.cell3) ?_
            show wpList _ _ _ [_] _ _
            go_wp2_with (go_at_call 44; refine HT4.out.mono ?_; rintro e5 w5 ⟨rfl, k6⟩)
            rw [told_zero] at k6
            obtain ⟨kv5, h5⟩ := HO3.out.to k6
            have HO5 := Lib.hid h5
            refine check_hold (HF.out _ h5.at_.cell0 h5.at_.cell3) ?_
            have c3 := h5.at_.cell3
            have f3 := h5.at_.blk.free 3
            have HP := Lib.hid ((h5.pop rfl HM.out).only0 (Only.refl [] _).drew)
            clear k5 k5a k5b k5c k6 h5 HT4 d0 d3
            show wpList _ _ _ [_] _ _
            go_wp2_with fail
            have g3 := Within.cell (S := []) c3 (by simp)
            refine wp_region_in [] [0, 1, 2, 3, 4, 5, 6, 7, 8, 9, 10, 11, 12, 13] [] [14] (by kernel_rfl) (by kernel_rfl) (by intro c d u a w h; cases d <;> exact h) ?_
            show wpQuiet _ _ _ _ [_, _, _, _, _, _, _, _, _, _, _, _, _, _] _
            repeat (go_big_quiet_step (fail))
            refine wpQuiet_nil ?_
            show wpList _ _ _ [_] _ _
            go_wp2_with fail
            have HP2 := HP
            have HLn2 := Lib.hid fun (W : World) (k : Only [] _ W) => jlen_any (HP2.out.only0 k).at_ (by rw [List.length_take]; have := HM.out; omega) (Int.le_trans (LogS.len_dropLast L' L'.synced L'.mark) (by have := HL'.out; omega))
            have c4 := HP2.out.at_.cell4
            have g4 := Within.cell (S := []) c4 (by simp)
            clear c3 f3 g3 c4

            refine wp_region_in [] [0, 1, 2, 3, 4, 5] [6, 7] [8, 9, 10] (by kernel_rfl) (by kernel_rfl) (by intro c d u a w h; cases d <;> exact h) ?_
            show wpQuiet _ _ _ _ [_, _, _, _, _, _] _
            repeat (go_big_quiet_step (fail))
            refine wpQuiet_nil ?_
            show wpList _ _ _ [_] _ _
            go_wp2_with (go_at_call 13; refine (HLn2.out _ (Only.refl [] _).drew).mono ?_; rintro e6 w6 ⟨rfl, k6⟩)
            have k6 := (Only.refl [] _).drew.trans k6
            refine check_of (S := []) k6 ?_
            show wpList _ _ _ [_] _ _
            go_wp2_with fail
            refine check_of (S := []) k6 ?_
            have HO6 := Lib.hid (HP2.out.only0 k6)
            have f4 := HO6.out.at_.blk.free 4
            have c4 := HO6.out.at_.blk.cell 4
            have HO7 := Lib.hid (HO6.out.setSyn (min L'.synced (LogS.len { L' with ps := L'.ps.dropLast })))
            show wpList _ _ _ [_, _, _] _ _
            go_wp2
            exact ⟨⟨_, _, _, _, _, true, f, HO7, HQ3, HK2, by rw [List.length_take]; have := HM.out; omega, Lib.hid (HE.out.trans HQ2.out), Lib.hid (Int.le_trans (LogS.len_dropLast L' L'.synced L'.mark) HL'.out)⟩, by rw [partsLen_of HO7.out.at_, partsLen_of HO'.out.at_, List.length_take]; have := HM.out; omega⟩
          · have hd7 : decide (0 < m) = false := decide_eq_false hm0
            have k3 := (Only.refl [] wr).drew
            obtain ⟨F, hF⟩ : ∃ F : List (Addr × Value), F = [(⟨lb, 0, none⟩, .pointer (some ⟨db, 0, none⟩)), (⟨lb, 3, none⟩, .slice (some ⟨g, 0, none⟩) xs'.length cap)] := ⟨_, rfl⟩
            have hFW : ∀ W : World, W.cell? ⟨lb, 0, none⟩ = some (.pointer (some ⟨db, 0, none⟩)) → W.cell? ⟨lb, 3, none⟩ = some (.slice (some ⟨g, 0, none⟩) xs'.length cap) → ∀ x ∈ F, W.cell? x.1 = some x.2 := fun W h h3 => by rw [hF]; exact hold2 h h3
            have d0 : ∀ p : Hold F, p.W.cell? ⟨lb, 0, none⟩ = some (.pointer (some ⟨db, 0, none⟩)) := fun p => p.h (_, _) (by rw [hF]; simp)
            have d3 : ∀ p : Hold F, p.W.cell? ⟨lb, 3, none⟩ = some (.slice (some ⟨g, 0, none⟩) xs'.length cap) := fun p => p.h (_, _) (by rw [hF]; simp)
            have HF := Lib.hid hFW
            clear hF hFW
            go_wp2_with fail
            refine wp_region_hold F [0, 1, 2, 3, 4, 5, 6, 7, 8, 9, 10, 11] [12, 13, 14] [15] (HF.out _ HO'.out.at_.cell0 HO'.out.at_.cell3) (by kernel_rfl) (by kernel_rfl) (by intro c d u a w h; cases d <;> exact h) ?_
            intro hne
            show wpQuiet _ _ _ _ [_, _, _, _, _, _, _, _, _, _, _, _] _
            repeat (go_big_quiet_step (fail))
            refine wpQuiet_nil ?_
            clear c3
            show wpList _ _ _ [_] _ _
            go_wp2_with (go_at_call 50; refine (HN1.out _ k3).mono ?_; rintro e3 w3 ⟨rfl, k4⟩)
            have k4 := k3.trans k4
            have HO3 := Lib.hid (HO'.out.only0 k4)
            refine check_hold (HF.out _ HO3.out.at_.cell0 HO3.out.at_.cell3) ?_
            show wpList _ _ _ [_] _ _
            go_wp2_with (go_at_call 49; refine (HR1.out _ k4).mono ?_; rintro e4 w4 ⟨rfl, k5⟩)
            have HT4 := Lib.hid (told_leads HO3.out.at_ k5 0)
            obtain ⟨kv4, k5a, k5b, k5c⟩ := HO3.out.at_.leads k5
            refine check_hold (HF.out _ k5a.cell0 k5a.cell3) ?_
            show wpList _ _ _ [_] _ _
            go_wp2_with (go_at_call 44; refine HT4.out.mono ?_; rintro e5 w5 ⟨rfl, k6⟩)
            rw [told_zero] at k6
            obtain ⟨kv5, h5⟩ := HO3.out.to k6
            have HO5 := Lib.hid h5
            refine check_hold (HF.out _ h5.at_.cell0 h5.at_.cell3) ?_
            have c3 := h5.at_.cell3
            have f3 := h5.at_.blk.free 3
            have HP := Lib.hid ((h5.pop rfl HM.out).only0 (Only.refl [] _).drew)
            clear k5 k5a k5b k5c k6 h5 HT4 d0 d3
            show wpList _ _ _ [_] _ _
            go_wp2_with fail
            have g3 := Within.cell (S := []) c3 (by simp)
            refine wp_region_in [] [0, 1, 2, 3, 4, 5, 6, 7, 8, 9, 10, 11, 12, 13] [] [14] (by kernel_rfl) (by kernel_rfl) (by intro c d u a w h; cases d <;> exact h) ?_
            show wpQuiet _ _ _ _ [_, _, _, _, _, _, _, _, _, _, _, _, _, _] _
            repeat (go_big_quiet_step (fail))
            refine wpQuiet_nil ?_
            show wpList _ _ _ [_] _ _
            go_wp2_with fail
            have HP2 := HP
            have HLn2 := Lib.hid fun (W : World) (k : Only [] _ W) => jlen_any (HP2.out.only0 k).at_ (by rw [List.length_take]; have := HM.out; omega) (Int.le_trans (LogS.len_dropLast L' L'.synced L'.mark) (by have := HL'.out; omega))
            have c4 := HP2.out.at_.cell4
            have g4 := Within.cell (S := []) c4 (by simp)
            clear c3 f3 g3 c4

            refine wp_region_in [] [0, 1, 2, 3, 4, 5] [6, 7] [8, 9, 10] (by kernel_rfl) (by kernel_rfl) (by intro c d u a w h; cases d <;> exact h) ?_
            show wpQuiet _ _ _ _ [_, _, _, _, _, _] _
            repeat (go_big_quiet_step (fail))
            refine wpQuiet_nil ?_
            show wpList _ _ _ [_] _ _
            go_wp2_with (go_at_call 13; refine (HLn2.out _ (Only.refl [] _).drew).mono ?_; rintro e6 w6 ⟨rfl, k6⟩)
            have k6 := (Only.refl [] _).drew.trans k6
            refine check_of (S := []) k6 ?_
            show wpList _ _ _ [_] _ _
            go_wp2_with fail
            refine check_of (S := []) k6 ?_
            have HO6 := Lib.hid (HP2.out.only0 k6)
            have f4 := HO6.out.at_.blk.free 4
            have c4 := HO6.out.at_.blk.cell 4
            have HO7 := Lib.hid (HO6.out.setSyn (min L'.synced (LogS.len { L' with ps := L'.ps.dropLast })))
            show wpList _ _ _ [_, _, _] _ _
            go_wp2
            exact ⟨⟨_, _, _, _, _, true, f, HO7, HQ3, HK2, by rw [List.length_take]; have := HM.out; omega, Lib.hid (HE.out.trans HQ2.out), Lib.hid (Int.le_trans (LogS.len_dropLast L' L'.synced L'.mark) HL'.out)⟩, by rw [partsLen_of HO7.out.at_, partsLen_of HO'.out.at_, List.length_take]; have := HM.out; omega⟩
    · obtain ⟨t, r, p, hfd, hpt, hrl⟩ := LogS.find_nat (L := L) (n := n - 1) (by omega)
      have htl : t < L.ps.length := (List.getElem?_eq_some_iff.1 hpt).1
      obtain ⟨N', hN'⟩ : ∃ N' : Int, N' = n := ⟨_, rfl⟩
      have HTs := Lib.hid fun (L' : LogS) (D' : DS) => LogS.truncate_some (D := d) (L' := L') (D' := D') hbad h0 hlt hfd
      have HFd := Lib.hid fun (W : World) (k : Only [] w W) => jfind_any (h.only0 k) (by omega) (n - 1) (by omega) (by omega)
      rw [hfd] at HFd
      dsimp only at HFd
      have hpb := hsum p (List.mem_of_getElem? hpt)
      have e1 : IntKind.i64.wrap (N' - 1) = ((n - 1 : Nat) : Int) := by rw [hN']; exact (IntWalk.i64_in _ ⟨by omega, by omega⟩).trans (by omega)
      have e2 : IntKind.i64.wrap ((r : Int) + 1) = ((r + 1 : Nat) : Int) := (IntWalk.i64_in _ ⟨by omega, by omega⟩).trans (by omega)
      rw [← hN'] at hd0 hd1 hd2 ⊢
      obtain ⟨n1, hn1⟩ : ∃ n1, n - 1 = n1 := ⟨_, rfl⟩
      obtain ⟨r1, hr1⟩ : ∃ r1, r + 1 = r1 := ⟨_, rfl⟩
      rw [hn1] at e1 HFd
      rw [hr1] at e2 HTs
      have hd3 : decide (N' > 0) = true := decide_eq_true (by omega)
      have hd4 : (N' == 0) = false := by simp; omega
      have HPt0 := Lib.hid hpt
      have hr2 : r1 ≤ p.bodies.length := by omega
      have HTr := Lib.hid hN'
      clear h hg hk hxl hlen he hn hbad hR hlt hsum hd0 h0 hN' hfd hpt hn1 hr1 hrl
      have hd0 : decide (N' < 0) = false := decide_eq_false (by have := HTr.out; omega)
      go_enter Tryz.func22, Tryz.ntmps22
      go_wp2_with (first | (go_at_call 37; refine HMy.out.mono ?_; rintro e1 w1 ⟨rfl, rfl⟩; (have hh := HMy); clear HMy) | (go_at_call 13; refine (HLn.out _ (Only.refl _ _)).mono ?_; rintro e2 w2 ⟨rfl, k2⟩) | (go_at_call 13; refine (HLn.out _ k2).mono ?_; rintro e3 w3 ⟨rfl, k3⟩; have k3 := k2.trans k3) | (go_at_call 48; refine (HFd.out _ k3).mono ?_; rintro e4 w4 ⟨rfl, k4⟩; have k4 := k3.trans k4))
      go_loopw [] (fun wr => ∃ (L' : LogS) (D' : DS) (kv' pv' : Value) (xs' : List (Value × PartL)) (b' : Bool) (f : Nat), Hid (LogOn a R w1 wr lb db mb D' L' kv' pv' xs') ∧ Hid (Good L' D' b' c) ∧ Hid (D'.Ok M) ∧ xs'.length ≤ f ∧ Hid (L.popGo d (t : Int) false L.ps.length = L'.popGo D' (t : Int) false f) ∧ t + 1 ≤ xs'.length ∧ Hid (L'.ps[t]? = some p) ∧ Hid (L'.len ≤ 100000)) (fun wr => partsLen wr lb)
      case atStart => exact ⟨L, d, kv, pv, xs, false, L.ps.length, Lib.hid (HO.out.only0 k4), HG, HK, by rw [HXl.out]; exact Nat.le_refl _, Lib.hid rfl, by rw [HXl.out]; exact htl, HPt0, Lib.hid hl⟩
      case round =>
        obtain ⟨L', D', kv', pv', xs', b', f, HO', HG', HK', hf, HE, htx, HPt, HL'⟩ := hrel
        have c3 := HO'.out.at_.cell3
        obtain ⟨m, hm⟩ : ∃ m, xs'.length = m + 1 := ⟨xs'.length - 1, by omega⟩
        obtain ⟨g, cap, hpv', hgb, -⟩ := HO'.out.at_.at (k := 0) (by omega)
        subst hpv'
        have hfew' := HG'.out.few
        rw [← xs_len HO'.out.at_] at hfew'
        have hcap : m + 1 ≤ cap := by
          obtain ⟨B', bc', z, hc, -⟩ := own_form HO'.out.at_.row
          simp only [Value.slice.injEq] at z
          omega
        have e5 : IntKind.i64.wrap ((xs'.length : Int) - 1) = (m : Int) := by rw [hm]; exact (IntWalk.i64_in _ ⟨by omega, by omega⟩).trans (by omega)
        have hd5 : decide (0 < xs'.length) = true := decide_eq_true (by omega)
        have HM := Lib.hid hm
        by_cases htm : t < m
        · have hd7 : decide (t < m) = true := decide_eq_true htm
          obtain ⟨f, rfl⟩ : ∃ f', f = f' + 1 := ⟨f - 1, by omega⟩
          obtain ⟨q1, q2, q3⟩ := HG'.out.popEq (k := m) (by rw [← xs_len HO'.out.at_]; exact hm.symm) (t := (t : Int)) (z := false) (.inl (by omega)) f
          have hd6 : decide ((m : Int) ≤ (cap : Int)) = true := decide_eq_true (by omega)
          have HN1 := Lib.hid fun (W : World) (k : Only [] wr W) => HNm.out W L' D' _ _ xs' (HO'.out.only0 k).at_ (by have := HG'.out.pre; omega) m (by omega)
          have hRr := fun (W : World) (k : Only [] wr W) => HRm.out W L' D' _ _ xs' (HO'.out.only0 k).at_ HK'.out (nameK L'.pre m)
          have hok := (DS.remove_ok HK'.out (nameK L'.pre m)).1
          rw [q1] at hRr hok
          dsimp only at hRr hok
          obtain ⟨d2, hd2e⟩ : ∃ d2, ({ D' with fs := adel D'.fs (nameK L'.pre m) } : DS) = d2 := ⟨_, rfl⟩
          rw [hd2e] at q2 q3 hRr hok
          obtain ⟨nm, hnm⟩ : ∃ nm, nameK L'.pre (m : Int) = nm := ⟨_, rfl⟩
          rw [hnm] at HN1 hRr
          have HR1 := Lib.hid hRr
          have HK2 := Lib.hid hok
          have HQ2 := Lib.hid q2
          have HQ3 := Lib.hid q3
          clear hRr hok q1 q2 q3 hnm hd2e hm
          have k3 := (Only.refl [] wr).drew
          obtain ⟨F, hF⟩ : ∃ F : List (Addr × Value), F = [(⟨lb, 0, none⟩, .pointer (some ⟨db, 0, none⟩)), (⟨lb, 3, none⟩, .slice (some ⟨g, 0, none⟩) xs'.length cap)] := ⟨_, rfl⟩
          have hFW : ∀ W : World, W.cell? ⟨lb, 0, none⟩ = some (.pointer (some ⟨db, 0, none⟩)) → W.cell? ⟨lb, 3, none⟩ = some (.slice (some ⟨g, 0, none⟩) xs'.length cap) → ∀ x ∈ F, W.cell? x.1 = some x.2 := fun W h h3 => by rw [hF]; exact hold2 h h3
          have d0 : ∀ p : Hold F, p.W.cell? ⟨lb, 0, none⟩ = some (.pointer (some ⟨db, 0, none⟩)) := fun p => p.h (_, _) (by rw [hF]; simp)
          have d3 : ∀ p : Hold F, p.W.cell? ⟨lb, 3, none⟩ = some (.slice (some ⟨g, 0, none⟩) xs'.length cap) := fun p => p.h (_, _) (by rw [hF]; simp)
          have HF := Lib.hid hFW
          clear hF hFW
          go_wp2_with fail
          refine wp_region_hold F [0, 1, 2, 3, 4, 5, 6, 7, 8, 9, 10, 11] [12, 13, 14] [15] (HF.out _ HO'.out.at_.cell0 HO'.out.at_.cell3) (by kernel_rfl) (by kernel_rfl) (by intro c d u a w h; cases d <;> exact h) ?_
          intro hne
          show wpQuiet _ _ _ _ [_, _, _, _, _, _, _, _, _, _, _, _] _
          repeat (go_big_quiet_step (fail))
          refine wpQuiet_nil ?_
          clear c3
          show wpList _ _ _ [_] _ _
          go_wp2_with (go_at_call 50; refine (HN1.out _ k3).mono ?_; rintro e3 w3 ⟨rfl, k4⟩)
          have k4 := k3.trans k4
          have HO3 := Lib.hid (HO'.out.only0 k4)
          refine check_hold (HF.out _ HO3.out.at_.cell0 HO3.out.at_.cell3) ?_
          show wpList _ _ _ [_] _ _
          go_wp2_with (go_at_call 49; refine (HR1.out _ k4).mono ?_; rintro e4 w4 ⟨rfl, k5⟩)
          have HT4 := Lib.hid (told_leads HO3.out.at_ k5 0)
          obtain ⟨kv4, k5a, k5b, k5c⟩ := HO3.out.at_.leads k5
          refine check_hold (HF.out _ k5a.cell0 k5a.cell3) ?_
          show wpList _ _ _ [_] _ _
          go_wp2_with (go_at_call 44; refine HT4.out.mono ?_; rintro e5 w5 ⟨rfl, k6⟩)
          rw [told_zero] at k6
          obtain ⟨kv5, h5⟩ := HO3.out.to k6
          have HO5 := Lib.hid h5
          refine check_hold (HF.out _ h5.at_.cell0 h5.at_.cell3) ?_
          have c3 := h5.at_.cell3
          have f3 := h5.at_.blk.free 3
          have HP := Lib.hid ((h5.pop rfl HM.out).only0 (Only.refl [] _).drew)
          clear k5 k5a k5b k5c k6 h5 HT4 d0 d3
          show wpList _ _ _ [_] _ _
          go_wp2_with fail
          have g3 := Within.cell (S := []) c3 (by simp)
          refine wp_region_in [] [0, 1, 2, 3, 4, 5, 6, 7, 8, 9, 10, 11, 12, 13] [] [14] (by kernel_rfl) (by kernel_rfl) (by intro c d u a w h; cases d <;> exact h) ?_
          show wpQuiet _ _ _ _ [_, _, _, _, _, _, _, _, _, _, _, _, _, _] _
          repeat (go_big_quiet_step (fail))
          refine wpQuiet_nil ?_
          show wpList _ _ _ [_] _ _
          go_wp2_with fail
          have HP2 := HP
          have HLn2 := Lib.hid fun (W : World) (k : Only [] _ W) => jlen_any (HP2.out.only0 k).at_ (by rw [List.length_take]; have := HM.out; omega) (Int.le_trans (LogS.len_dropLast L' L'.synced L'.mark) (by have := HL'.out; omega))
          have c4 := HP2.out.at_.cell4
          have g4 := Within.cell (S := []) c4 (by simp)
          clear c3 f3 g3 c4

          refine wp_region_in [] [0, 1, 2, 3, 4, 5] [6, 7] [8, 9, 10] (by kernel_rfl) (by kernel_rfl) (by intro c d u a w h; cases d <;> exact h) ?_
          show wpQuiet _ _ _ _ [_, _, _, _, _, _] _
          repeat (go_big_quiet_step (fail))
          refine wpQuiet_nil ?_
          show wpList _ _ _ [_] _ _
          go_wp2_with (go_at_call 13; refine (HLn2.out _ (Only.refl [] _).drew).mono ?_; rintro e6 w6 ⟨rfl, k6⟩)
          have k6 := (Only.refl [] _).drew.trans k6
          refine check_of (S := []) k6 ?_
          show wpList _ _ _ [_] _ _
          go_wp2_with fail
          refine check_of (S := []) k6 ?_
          have HO6 := Lib.hid (HP2.out.only0 k6)
          have f4 := HO6.out.at_.blk.free 4
          have c4 := HO6.out.at_.blk.cell 4
          have HO7 := Lib.hid (HO6.out.setSyn (min L'.synced (LogS.len { L' with ps := L'.ps.dropLast })))
          show wpList _ _ _ [_, _, _] _ _
          go_wp2
          exact ⟨⟨_, _, _, _, _, true, f, HO7, HQ3, HK2, by rw [List.length_take]; have := HM.out; omega, Lib.hid (HE.out.trans HQ2.out), by rw [List.length_take]; have := HM.out; omega, Lib.hid (by show L'.ps.dropLast[t]? = _; rw [List.getElem?_dropLast, if_pos (by have := HM.out; have := xs_len HO'.out.at_; omega)]; exact HPt.out), Lib.hid (Int.le_trans (LogS.len_dropLast L' L'.synced L'.mark) HL'.out)⟩, by rw [partsLen_of HO7.out.at_, partsLen_of HO'.out.at_, List.length_take]; have := HM.out; omega⟩
        · have hd7 : decide (t < m) = false := decide_eq_false htm
          have hmt : m = t := by omega
          have hl' := xs_len HO'.out.at_
          have hstop := LogS.popStop (L := L') (D := D') (t := (t : Int)) (z := false) (fun q => by rcases q.2 with q | q; omega; cases q) f
          have hT := HTs.out L' D' (HE.out.trans hstop)
          have hk1 : t + 1 = L'.ps.length := by omega
          obtain ⟨s', D2, g1, g2, g3⟩ := HG'.out.shorten (k := t) hk1 HPt.out (r := r1) hr2
          have HOx : ∃ v, xs'[t]? = some (v, p) := by
            have h1 := HPt.out
            rw [HO'.out.at_.ps, List.getElem?_map] at h1
            cases hv : xs'[t]? with
            | none => rw [hv] at h1; simp at h1
            | some x => rw [hv] at h1; exact ⟨x.1, by rw [← Option.some.inj h1]⟩
          obtain ⟨v, hxv⟩ := HOx
          obtain ⟨d2, s1, s2⟩ := LogS.shorten_of (L := L') (D := D') (k := t) (r := r1) hk1.symm HPt.out (by rw [g1])
          rw [s2] at hT
          have HSh := Lib.hid (jshorten_at HO'.out.at_ (by have := HG'.out.pre; omega) HK'.out hM (m := t) (by omega) (by omega) hxv (r := r1) hr2 hpb s1 (by
            rw [len_all]
            show (((L'.ps.set t _).flatMap (·.bodies)).length : Int) ≤ _
            rw [(all_set HPt.out hk1).1, List.length_append, List.length_take]
            have := LogS.len_dropLast L' L'.synced L'.mark
            rw [len_all] at this
            have h2 : (((L'.ps.dropLast).flatMap (·.bodies)).length : Int) ≤ L'.len := this
            have := HL'.out
            omega))
          have HT := Lib.hid hT
          clear hT s1 s2 g1 g2 g3 hstop hl' hk1 hm hmt
          go_wp2_with (go_at_call 51; refine HSh.out.mono ?_; rintro e5 w5 ⟨rfl, k5⟩)
          go_ret
          rw [HTr.out, HT.out]
          obtain ⟨kv6, pv6, xs6, h6⟩ := HO'.out.next k5
          exact ⟨rfl, h6.lto⟩
end
end Go.Proofs.YtfjkjndpndjfpaaGreatDoor
/- A whole log is cut: it stays whole; its numbers stay small. -/
set_option linter.unusedVariables false
set_option linter.unusedSimpArgs false
namespace Go.Proofs.YtfjkjndpndjfpaaGreatDoor
open Go Go.RowKit Go.Sort
theorem run_takeS (A : Option Addr) (n cap k : Nat) (hk : k ≤ cap) (W : World) : (Instr.sliceAt 22 (.slice A n cap) none (some (.int .i64 k)) none).run Tryz.prog W = .ok (.slice A k cap) W := by
  have h2 : ((k : Nat) : Int) ≤ cap := by omega
  have h9 : Tryz.prog.elem 22 = 9 := by unfold Program.elem; rw [Tryz.underlying22]
  have he : Tryz.prog.underlying 22 = some (.slice (Tryz.prog.elem 22)) := by rw [h9, Tryz.underlying22]
  have hs : (sizeOf (Tryz.prog.elem 22)).run Tryz.prog W = .ok 1 W := by
    rw [h9]
    simp [go_sem]
  rw [run_sliceAt_slice _ _ _ _ _ _ he, run_slice_h _ _ _ _ _ he _ _ (by omega) h2, hs]
  simp only [Result.andThen, sliced, Int.toNat_natCast, Nat.sub_zero, Nat.zero_mul]
  cases A with
  | none => simp
  | some a => simp [Addr.add]
section
variable {L L' : LogS} {d D D' : DS} {b : Bool} {c M N : Nat}
theorem sumS_app (l m : List ByteArray) : sumS (l ++ m) = sumS l + sumS m := by unfold sumS; rw [List.map_append, List.sum_append]
theorem part_sums {p : PartL} (hp : p ∈ L.ps) : sumS p.bodies ≤ sumS L.all ∧ p.bodies.length ≤ L.all.length := by
  obtain ⟨l1, l2, e⟩ := List.append_of_mem hp
  unfold LogS.all
  rw [e, List.flatMap_append, List.flatMap_cons, sumS_app, sumS_app, List.length_append, List.length_append]
  omega
theorem Whole.smn (h : Whole L D) {N : Nat} (hN : sumS L.all + 13 * L.all.length + 150 ≤ N) : L.SmN N := by
  have hg := h.good
  have h1 := hg.pre
  have h2 := hg.size
  have h3 := hg.few
  refine ⟨by omega, by omega, by omega, by rw [len_all]; omega, fun p hp => ?_⟩
  have h4 := part_sums hp
  rw [hg.used p hp, usedOf_le]
  omega
theorem LogS.popGo_ok (t : Int) (z : Bool) : ∀ (f : Nat) {L : LogS} {d : DS}, d.Ok M → (L.popGo d t z f).2.2.Ok M
  | 0, L, d, h => h
  | f + 1, L, d, h => by
    have h1 := (DS.remove_ok h (nameK L.pre (L.ps.length - 1))).1
    unfold LogS.popGo
    dsimp only
    split
    · split
      · exact h1
      · exact LogS.popGo_ok t z f h1
    · exact h
theorem LogS.shorten_ok (h : d.Ok M) (k r : Int) : (L.shorten d k r).2.2.Ok M := by
  unfold LogS.shorten
  split
  · exact h
  · dsimp only
    split
    · exact (DS.truncate_ok h _ _).1
    · exact (DS.truncate_ok h _ _).1
theorem LogS.truncate_ok (h : d.Ok M) (n : Int) : (L.truncate d n).2.2.Ok M := by
  unfold LogS.truncate
  split
  · exact h
  · split
    · exact h
    · split
      · exact h
      · generalize (if 0 < n then ((L.find (n - 1)).1, (L.find (n - 1)).2 + 1) else ((0 : Int), (0 : Int))) = q
        dsimp only
        have h1 := LogS.popGo_ok (L := L) q.1 (decide (n = 0)) L.ps.length h
        by_cases he : (L.popGo d q.1 (decide (n = 0)) L.ps.length).1 ≠ 0
        · rw [if_pos he]; exact h1
        · rw [if_neg he]
          by_cases h0 : n = 0
          · rw [if_pos h0]; exact h1
          · rw [if_neg h0]; exact LogS.shorten_ok h1 _ _
theorem Whole.truncate (h : Whole L D) {n : Nat} (hn : n ≤ L.all.length) :
    ∃ L' D', L.truncate D n = (0, L', D') ∧ Whole L' D' ∧ L'.all = L.all.take n ∧ L'.pre = L.pre ∧ L'.size = L.size ∧ L'.mark = L.mark ∧ L'.ps.length ≤ L.ps.length := by
  have hg := h.good
  rcases h.mark with ⟨q1, q2, q3⟩ | hm
  · have hg0 : Good L D false 0 := ⟨hg.fine, hg.pre, hg.size, hg.bad, hg.few, by omega, by omega, hg.used, hg.short, hg.done, hg.file, hg.onl⟩
    obtain ⟨L', D', a1, a2, a3, a4, a5⟩ := hg0.truncate hn
    obtain ⟨b1, b2, b3, b4⟩ := a4
    refine ⟨L', D', a1, ⟨a2.up, ?_, .inl ⟨?_, ?_, ?_⟩⟩, a3, b1, b2, b3, a5⟩
    · rw [b1]
      exact (b4 _ (chunkOf_new _)).trans h.new
    · rw [b1]
      exact (b4 _ (chunkOf_mark _)).trans q1
    · rw [b3]
      exact q2
    · have := a2.cnt
      omega
  · obtain ⟨L', D', a1, a2, a3, a4, a5⟩ := hg.truncate hn
    obtain ⟨b1, b2, b3, b4⟩ := a4
    refine ⟨L', D', a1, ⟨a2, ?_, .inr ?_⟩, a3, b1, b2, b3, a5⟩
    · rw [b1]
      exact (b4 _ (chunkOf_new _)).trans h.new
    · rw [b1, b3]
      obtain ⟨f, ms, c1, c2, c3⟩ := hm
      exact ⟨f, ms, (b4 _ (chunkOf_mark _)).trans c1, c2, c3⟩
/-- Of the first ones no more bytes than of all. -/
theorem sumS_le_take (l : List ByteArray) (n : Nat) : sumS (l.take n) ≤ sumS l := by
  conv => rhs; rw [← List.take_append_drop n l]
  rw [sumS_app]
  omega
end
end Go.Proofs.YtfjkjndpndjfpaaGreatDoor
/- LogCuts: what is left behind a cut is what stood ahead of it. -/
set_option linter.unusedVariables false
set_option linter.unusedSimpArgs false
namespace Go.Proofs.YtfjkjndpndjfpaaGreatDoor
open Go Go.RowKit Go.Sort
section
variable {a w w1 w' W : World} {lb db mb M N : Nat} {D0 D D1 D2 d : DS} {L : LogS} {kv pv : Value} {xs : List (Value × PartL)}
theorem stageF {P : Program} {Q : Exit → Act → World → Prop} {l : List Oper} {C : World → Prop} {K : Act → World → Prop} {H A : List Nat} {r : List (List Nat × List Nat)} {a : Act} {w : World} (h : wpQuiet P l.toArray C (fun a' => wpT1 P l.toArray C Q (opsAt l A) (wpStages P l C Q K r) a' w) (opsAt l H) a) : wpStages P l C Q K ((H, A) :: r) a w := h
theorem stageN {P : Program} {Q : Exit → Act → World → Prop} {l : List Oper} {C : World → Prop} {K : Act → World → Prop} {H A : List Nat} {r : List (List Nat × List Nat)} {a : Act} {w : World} (h : wpQuiet P l.toArray C (fun a' => wpT1 P l.toArray C Q (opsAt l A) (wpStages P l C Q K r) a' w) (opsAt l H) a) : wpT1 P l.toArray C Q (opsAt l []) (wpStages P l C Q K ((H, A) :: r)) a w := h
theorem stageE {P : Program} {Q : Exit → Act → World → Prop} {l : List Oper} {C : World → Prop} {T2 : List Nat} {a : Act} {w : World} (h : wpList P l.toArray Q (opsAt l T2) a w) : wpT1 P l.toArray C Q (opsAt l []) (wpStages P l C Q (fun a w => wpList P l.toArray Q (opsAt l T2) a w) []) a w := h
theorem stage0 {P : Program} {Q : Exit → Act → World → Prop} {l : List Oper} {C : World → Prop} {K : Act → World → Prop} {A : List Nat} {r : List (List Nat × List Nat)} {a : Act} {w : World} (h : wpT1 P l.toArray C Q (opsAt l A) (wpStages P l C Q K r) a w) : wpStages P l C Q K (([], A) :: r) a w := wpQuiet_nil (P := P) (ops := l.toArray) (C := C) h
theorem hold0 (W : World) : ∀ x ∈ ([] : List (Addr × Value)), W.cell? x.1 = some x.2 := fun x hx => by cases hx
set_option maxRecDepth 100000 in
set_option maxHeartbeats 2000000 in
theorem cuts_go (w : World) (hT : Tab w) (v1 v3 : Value) (ss ms : List ByteArray) (size n : Int) (hv1 : Slc w 1 v1 ss.length (strs ss)) (hz1 : ∀ s ∈ ss, s.size ≤ maxLen) (hg1 : ∀ g, v1.ownBlock = some g → g < w.heap.size ∨ ss = [])
    (hv3 : Slc w 1 v3 ms.length (strs ms)) (hz3 : ∀ s ∈ ms, s.size ≤ maxLen) (hg3 : ∀ g, v3.ownBlock = some g → g < w.heap.size ∨ ms = []) :
    Calls Tryz.prog 5 #[.int .i64 size, v1, .int .i64 n, v3] w fun e w' => e = .returned (.bool true) ∧ Only [] w w' := by
  have HAl := Lib.hid (fun (W : World) (k : Only [] w W) => alive11_any W (hT.only k))
  have HS1 := Lib.hid (bShort_any (few := 40) (room := 3000) hv1 hz1 (by omega) (by omega) (by omega) (by omega))
  have HS3 := Lib.hid (fun (W : World) (k : Only [] w W) => bShort_any (few := 20) (room := 1500) (hv3.only0 k) hz3 (by omega) (by omega) (by omega) (by omega))
  obtain ⟨A1, c1, rfl⟩ := slc_len hv1
  obtain ⟨A3, c3, rfl⟩ := slc_len hv3
  by_cases h1 : size < 100
  · have q1 : decide (size < 100) = true := decide_eq_true h1
    go_enter Tryz.func5, Tryz.ntmps5
    go_wp2_with (go_at_call 9; refine (HAl.out _ (Only.refl _ _)).mono ?_; rintro e1 w1 ⟨rfl, k1⟩)
    go_ret
    exact ⟨rfl, k1⟩
  have q1 : decide (size < 100) = false := decide_eq_false h1
  by_cases h2 : size > 2000
  · have q2 : decide (size > 2000) = true := decide_eq_true h2
    go_enter Tryz.func5, Tryz.ntmps5
    go_wp2_with (go_at_call 9; refine (HAl.out _ (Only.refl _ _)).mono ?_; rintro e1 w1 ⟨rfl, k1⟩)
    go_ret
    exact ⟨rfl, k1⟩
  have q2 : decide (size > 2000) = false := decide_eq_false h2
  go_enter Tryz.func5, Tryz.ntmps5
  go_wp2_with fail
  refine HS1.out.mono ?_
  rintro e1 w1 ⟨⟨b1, rfl, hb1⟩, k1⟩
  cases b1 with
  | false =>
    go_wp2_with (go_at_call 9; refine (HAl.out _ k1).mono ?_; rintro e2 w2 ⟨rfl, k2⟩)
    go_ret
    exact ⟨rfl, k1.trans k2⟩
  | true =>
    obtain ⟨hlen1, hsum1⟩ := hb1 rfl
    clear hb1
    go_wp2_with fail
    refine (HS3.out _ k1).mono ?_
    rintro e2 w2 ⟨⟨b2, rfl, hb2⟩, k2⟩
    have k2 := k1.trans k2
    clear k1
    cases b2 with
    | false =>
      go_wp2_with (go_at_call 9; refine (HAl.out _ k2).mono ?_; rintro e3 w3 ⟨rfl, k3⟩)
      go_ret
      exact ⟨rfl, k2.trans k3⟩
    | true =>
    obtain ⟨hlen3, hsum3⟩ := hb2 rfl
    clear hb2
    by_cases h3 : n < 0
    · have q3 : decide (n < 0) = true := decide_eq_true h3
      go_wp2_with (go_at_call 9; refine (HAl.out _ k2).mono ?_; rintro e3 w3 ⟨rfl, k3⟩)
      go_ret
      exact ⟨rfl, k2.trans k3⟩
    have q3 : decide (n < 0) = false := decide_eq_false h3
    by_cases h4 : n > (ss.length : Int)
    · have q4 : decide (n > (ss.length : Int)) = true := decide_eq_true h4
      go_wp2_with (go_at_call 9; refine (HAl.out _ k2).mono ?_; rintro e3 w3 ⟨rfl, k3⟩)
      go_ret
      exact ⟨rfl, k2.trans k3⟩
    have q4 : decide (n > (ss.length : Int)) = false := decide_eq_false h4
    have harg : LogS.openArg ⟨#[112]⟩ size = true := by
      unfold LogS.openArg
      rw [show (⟨#[112]⟩ : ByteArray).size = 1 from rfl, decide_eq_true (by omega : 100 ≤ size), decide_eq_true (by omega : size ≤ 1000000)]
      rfl
    have hT2 := hT.only k2
    have hO1 := Lib.hid fun (W : World) (k : Only [] w2 W) (db mb : Nat) (hd : DiskAt W db mb (DS.new 0) (.slice none 0 0)) (hu : w2.heap.size ≤ db ∧ w2.heap.size ≤ mb) => jopen_new hT2 k hd hu (fun g hg => by cases hg) ⟨#[112]⟩ size harg
    have hN := Lib.hid (new_any w2 (room := 0) (by omega))
    go_wp2_with fail
    refine hN.out.mono ?_
    rintro e3 w3 ⟨rfl, hd3, k3⟩
    have HO2 := Lib.hid (hO1.out w3 k3 _ _ hd3 (by omega))
    clear hO1 hN hd3
    go_wp2_with fail
    refine HO2.out.mono ?_
    rintro e4 w4 ⟨lb, kv4, rfl, hA4, k4, hlb⟩
    have hW0 : Whole (LogS.new ⟨#[112]⟩ size) (DS.new 0) := whole_new (by decide) (by omega) fine_new rfl
    have HSm := smn_new ⟨#[112]⟩ size harg
    have hwt := wtS_sum ss
    have hge := hA4.ge
    have hk4' := k2.trans k4
    have HAp := jappend_any hA4 HSm (DS.new_ok 0) (hv1.only0 hk4') (fun g hg => (hg1 g hg).imp (fun q hm => by
      have := hge g hm
      have := k2.size
      omega) id) (by omega) (by omega) (by omega)
    by_cases hroom : ∀ s ∈ ss, (s.size : Int) ≤ roomC size 0
    · obtain ⟨L1, D1, a1, a2, a3, a4, a5, a6, a7, a8⟩ := hW0.append (l := ss) (by simp [LogS.new]; omega) hroom
      have hok1 := LogS.append_ok (L := LogS.new ⟨#[112]⟩ size) (DS.new_ok 0) ss
      rw [a1] at HAp hok1
      dsimp only at hok1 HAp
      have hall1 : L1.all = ss := by rw [a3]; rfl
      have HAp := Lib.hid HAp
      have hall0 : (LogS.new ⟨#[112]⟩ size).all.length = 0 := rfl
      rw [hall0] at HAp
      clear hA4 hge a1 a3 a8 hall0
      go_wp2_with fail
      refine HAp.out.mono ?_
      rintro e5 w5 ⟨rfl, k5⟩
      obtain ⟨kv5, pv5, xs5, h5⟩ := k5.on
      obtain ⟨nn, rfl⟩ : ∃ nn : Nat, n = nn := ⟨n.toNat, by omega⟩
      obtain ⟨ts, hts, htl⟩ : ∃ ts, ss.take nn = ts ∧ ts.length = nn := ⟨_, rfl, by rw [List.length_take]; omega⟩
      subst htl
      have htn : ts.length ≤ ss.length := by omega
      obtain ⟨L2, D2, t1, t2, t3, t4, t5, t6, t7⟩ := a2.truncate (n := ts.length) (by rw [hall1]; omega)
      rw [hall1, hts] at t3
      have htr := fun (W : World) (k : Only [] w5 W) => jtruncate_any (h5.at_.only0 k) a2.good hok1 (by omega) (fun p hp => by have := part_sums hp; rw [hall1] at this; omega) (by rw [len_all, hall1]; omega) (n := ts.length) (by rw [hall1]; omega)
      have hok2 := LogS.truncate_ok (L := L1) hok1 (ts.length : Int)
      rw [t1] at htr hok2
      dsimp only at htr hok2
      have HTr := Lib.hid htr
      have hpl2 : L2.ps.length ≤ 40 := by simp [LogS.new] at a7; omega
      have hst : sumS ts ≤ 3000 := by have := sumS_le_take ss ts.length; rw [hts] at this; omega
      have hvt : Slc w 1 (.slice A1 ts.length c1) ts.length (strs ts) := by
        have := slc_take hv1 htn
        rw [Nat.mul_one] at this
        have e : (strs ss).take ts.length = strs (ss.take ts.length) := by simp [strs, List.map_take]
        rw [e, hts] at this
        exact this
      have hcap : ts.length ≤ c1 := by
        obtain ⟨A9, c9, e9, _, h9, _⟩ := hv1
        injection e9 with e1 e2 e3
        omega
      have HCap := Lib.hid hcap
      have HVt := Lib.hid hvt
      obtain ⟨pre2, size2, ps2, syn2, mark2, bad2⟩ := L2
      have e4 : pre2 = ⟨#[112]⟩ := t4.trans a4
      have e5 : size2 = size := t5.trans a5
      have e7 : bad2 = 0 := t2.good.bad
      subst e4 e5 e7
      have hT3 := Lib.hid t3
      have hW2 := Lib.hid t2
      have hOk2 := Lib.hid hok2
      have hb5 : Only [] w2 w5 := h5.at_.base
      clear htr hok2 hok1 t1 t2 t3 t4 t5 t6 t7 h5 k5 HAp HO2 a2 a4 a5 a6 a7 hall1 hW0 HSm hts hvt hcap hroom
      go_wp2_with fail
      refine wp_region_stages (C := fun W => ∃ p : Hold [], W = p.W) [([0, 1], [2, 3, 4]), ([5, 7], [6, 8, 9, 10]), ([11, 13, 14, 15], [12, 16, 17, 18])] [] (by kernel_rfl) (by kernel_rfl) (by intro c d u a w h; cases d <;> exact h) ⟨⟨_, hold0 _⟩, rfl⟩ ?_
      refine stageF ?_
      show wpQuiet _ _ _ _ [_, _] _
      repeat (go_big_quiet_step (fail))
      refine wpQuiet_nil ?_
      show wpList _ _ _ [_] _ _
      go_wp2_with (go_at_call 22; refine (HTr.out _ (Only.refl _ _).drew).mono ?_; rintro e6 w6 ⟨rfl, k6⟩)
      obtain ⟨kv6, pv6, xs6, h6⟩ := k6.on
      obtain ⟨h6a, -, -⟩ := h6
      have h6b : LogAt w2 w6 lb (w2.heap.size + 1) w2.heap.size D2 ⟨⟨#[112]⟩, size2, ps2, syn2, mark2, 0⟩ kv6 pv6 xs6 := h6a
      have HA6 := Lib.hid h6b
      have hx6 : xs6.length ≤ 1000000 := by rw [xs_len h6b]; show ps2.length ≤ _; omega
      have hl2 : LogS.len ⟨⟨#[112]⟩, size2, ps2, syn2, mark2, 0⟩ = ts.length := by rw [len_all, hT3.out]
      have hr2 : LogS.range ⟨⟨#[112]⟩, size2, ps2, syn2, mark2, 0⟩ 0 100 = ts := by
        show LogS.range _ ((0 : Nat) : Int) ((100 : Nat) : Int) = ts
        rw [range_at hT3.out, List.drop_zero, List.take_of_length_le (by omega)]
      have HLn := Lib.hid fun (W : World) (k : Only [] w6 W) => jlen_any (HA6.out.only0 k) hx6 (by rw [hl2]; omega)
      rw [hl2] at HLn
      have HRg := Lib.hid fun (W : World) (k : Only [] w6 W) => jrange_any (HA6.out.only0 k) hx6 (by rw [hl2]; omega) 0 100
      rw [hr2] at HRg
      have hb6 : Only [] w w6 := k2.trans h6b.base
      clear k6 h6a h6b hr2 hl2 HTr
      refine check_hold (hold0 _) ?_
      show wpList _ _ _ [_] _ _
      go_wp2_with fail
      refine check_hold (hold0 _) ?_
      show wpList _ _ _ [_] _ _
      go_wp2_with fail
      refine check_hold (hold0 _) ?_
      refine stageN ?_
      show wpQuiet _ _ _ _ [_, _] _
      try go_frame
      repeat (go_big_quiet_step (fail))
      refine wpQuiet_nil ?_
      show wpList _ _ _ [_] _ _
      go_wp2_with (go_at_call 13; refine (HLn.out _ (Only.refl _ _)).mono ?_; rintro e7 w7 ⟨rfl, k7⟩)
      refine check_hold (hold0 _) ?_
      show wpList _ _ _ [_] _ _
      go_wp2_with fail
      refine check_hold (hold0 _) ?_
      show wpList _ _ _ [_] _ _
      go_wp2_with fail
      refine check_hold (hold0 _) ?_
      show wpList _ _ _ [_] _ _
      go_wp2_with fail
      refine check_hold (hold0 _) ?_
      refine stageN ?_
      show wpQuiet _ _ _ _ [_, _, _, _] _
      try go_frame
      repeat (go_big_quiet_step (fail))
      go_big_quiet_want
      refine ⟨.slice A1 ts.length c1, fun W _ => ?_, ?_⟩
      · unfold Oper.quietAt
        have hrt := run_takeS A1 ss.length c1 ts.length HCap.out W
        simp [execOp, Act.eval, Oper.quietUpon, Sem.run_bind, Result.andThen, hrt]
      go_big_quiet_on
      refine wpQuiet_nil ?_
      show wpList _ _ _ [_] _ _
      go_wp2_with (go_at_call 14; refine (HRg.out _ k7).mono ?_; rintro e8 w8 ⟨A8, cc8, rfl, hr8, k8⟩)
      have k78 := k7.trans k8
      have HSm8 := Lib.hid (sameT_refl (Slc.of_own hr8).1 (HVt.out.only0 (hb6.trans k78)))
      clear hr8
      refine check_hold (hold0 _) ?_
      show wpList _ _ _ [_] _ _
      go_wp2_with (go_at_call 16; refine HSm8.out.mono ?_; rintro e9 w9 ⟨rfl, k9⟩)
      have k79 := Lib.hid (k78.trans k9)
      clear k78 k7 k8 k9 HSm8 HLn HRg
      refine check_hold (hold0 _) ?_
      show wpList _ _ _ [_] _ _
      go_wp2_with fail
      refine check_hold (hold0 _) ?_
      show wpList _ _ _ [_] _ _
      go_wp2_with fail
      refine check_hold (hold0 _) ?_
      refine stageE ?_
      show wpList _ _ _ [] _ _
      have hA9 := HA6.out.only0 k79.out
      obtain ⟨E1, E2, hX⟩ := hW2.out.openX
      have hok3 := hX.ok hOk2.out
      have hall9 : LogS.all ⟨⟨#[112]⟩, size2, ps2, syn2, mark2, 0⟩ = ts := hT3.out
      have hOp := fun (W : World) (k : Only [] w9 W) => jopen_whole hT2 (hA9.base.trans k) (hA9.disk.only0 k) (by omega) (fun g hg => (hA9.away kv6 (by simp) g hg).2.2.2.2) hOk2.out (by omega) hW2.out.noNew hW2.out hX (by rw [hall9]; omega) (by rw [hall9]; omega)
      have HOp := Lib.hid hOp
      have hps : ps2.length ≤ 40 := hpl2
      have hW3 := hX.whole
      have hall3 : ∀ s m, LogS.all ⟨⟨#[112]⟩, size2, ps2, s, m, 0⟩ = ts := fun s m => hall9
      have HA3 := Lib.hid hall3
      have HW3 := Lib.hid hW3
      have HOk3 := Lib.hid hok3
      have hb9 : Only [] w w9 := k2.trans hA9.base
      clear hOp hX hok3 hW3 hall9 hall3 hA9 hpl2 hW2 hOk2 HA6 k79
      go_wp2_with fail
      refine (HOp.out _ (Only.refl _ _)).mono ?_
      rintro e10 w10 ⟨lb8, kv8, pv8, xs8, rfl, h8, -⟩
      have HA8 := Lib.hid h8
      have hx8 : xs8.length ≤ 1000000 := by rw [xs_len h8]; show ps2.length ≤ _; omega
      have HLs : ∀ s m, LogS.len ⟨⟨#[112]⟩, size2, ps2, s, m, 0⟩ = ts.length := fun s m => by rw [len_all, HA3.out]
      have hr8 : ∀ s m, LogS.range ⟨⟨#[112]⟩, size2, ps2, s, m, 0⟩ 0 100 = ts := fun s m => by
        show LogS.range _ ((0 : Nat) : Int) ((100 : Nat) : Int) = ts
        rw [range_at (HA3.out s m), List.drop_zero, List.take_of_length_le (by omega)]
      have HRg := Lib.hid fun (W : World) (k : Only [] w10 W) => jrange_any (HA8.out.only0 k) hx8 (by rw [HLs]; omega) 0 100
      rw [hr8] at HRg
      have HLs := Lib.hid HLs
      have hb10 : Only [] w w10 := k2.trans h8.base
      clear h8 hr8 HOp
      go_wp2_with fail
      refine wp_region_stages (C := fun W => ∃ p : Hold [], W = p.W) [([], [0, 1, 2, 3, 4, 5, 6]), ([7, 9, 10, 11], [8, 12, 13, 14])] [] (by kernel_rfl) (by kernel_rfl) (by intro c d u a w h; cases d <;> exact h) ⟨⟨_, hold0 _⟩, rfl⟩ ?_
      refine stage0 ?_
      show wpList _ _ _ [_] _ _
      go_wp2_with fail
      refine check_hold (hold0 _) ?_
      show wpList _ _ _ [_] _ _
      go_wp2_with fail
      refine check_hold (hold0 _) ?_
      show wpList _ _ _ [_] _ _
      go_wp2_with fail
      refine check_hold (hold0 _) ?_
      show wpList _ _ _ [_] _ _
      go_wp2_with fail
      refine check_hold (hold0 _) ?_
      show wpList _ _ _ [_] _ _
      go_wp2_with fail
      refine check_hold (hold0 _) ?_
      show wpList _ _ _ [_] _ _
      go_wp2_with fail
      refine check_hold (hold0 _) ?_
      show wpList _ _ _ [_] _ _
      go_wp2_with fail
      refine check_hold (hold0 _) ?_
      refine stageN ?_
      show wpQuiet _ _ _ _ [_, _, _, _] _
      try go_frame
      repeat (go_big_quiet_step (fail))
      go_big_quiet_want
      refine ⟨.slice A1 ts.length c1, fun W _ => ?_, ?_⟩
      · unfold Oper.quietAt
        have hrt := run_takeS A1 ss.length c1 ts.length HCap.out W
        simp [execOp, Act.eval, Oper.quietUpon, Sem.run_bind, Result.andThen, hrt]
      go_big_quiet_on
      refine wpQuiet_nil ?_
      show wpList _ _ _ [_] _ _
      go_wp2_with (go_at_call 14; refine (HRg.out _ (Only.refl _ _).drew).mono ?_; rintro e11 w11 ⟨A11, cc11, rfl, hr11, k11⟩)
      have k11 := (Only.refl _ _).drew.trans k11
      have HSm11 := Lib.hid (sameT_refl (Slc.of_own hr11).1 (HVt.out.only0 (hb10.trans k11)))
      clear hr11
      refine check_hold (hold0 _) ?_
      show wpList _ _ _ [_] _ _
      go_wp2_with (go_at_call 16; refine HSm11.out.mono ?_; rintro e12 w12 ⟨rfl, k12⟩)
      have k12 := k11.trans k12
      refine check_hold (hold0 _) ?_
      show wpList _ _ _ [_] _ _
      go_wp2_with fail
      refine check_hold (hold0 _) ?_
      show wpList _ _ _ [_] _ _
      go_wp2_with fail
      refine check_hold (hold0 _) ?_
      refine stageE ?_
      show wpList _ _ _ [] _ _
      have hA12 := HA8.out.only0 k12
      have hge := hA12.ge
      have hsn := HW3.out.smn (N := 4000) (by rw [HA3.out]; omega)
      have hwt3 := wtS_sum ms
      have hb12 : Only [] w w12 := hb10.trans k12
      have HAp := jappend_any hA12 hsn HOk3.out (hv3.only0 hb12) (fun g hg => (hg3 g hg).imp (fun q hm => by
        have := hge g hm
        have := k2.size
        omega) id) (by omega) (by omega) (by omega)
      rcases HW3.out.good.append (l := ms) (by show ps2.length + _ < 150; omega) with ⟨hroom2, -⟩ | ⟨-, b1⟩
      · obtain ⟨L5, D5, b1, b2, b3, b4, b5, b6, b7, b8⟩ := HW3.out.append (l := ms) (by show ps2.length + _ < 150; omega) hroom2
        rw [b1, HA3.out] at HAp
        rw [HA3.out] at b3
        dsimp only at HAp
        have HAp := Lib.hid HAp
        obtain ⟨us, hus⟩ : ∃ us, ts ++ ms = us := ⟨_, rfl⟩
        have hul : us.length = ts.length + ms.length := by rw [← hus, List.length_append]
        rw [hus] at b3
        have HB3 := Lib.hid b3
        have HUs := Lib.hid hus
        have HUl := Lib.hid hul
        have hp5 : L5.ps.length ≤ 60 := by have : L5.ps.length ≤ ps2.length + ms.length := b7; omega
        clear b1 b2 b3 b4 b5 b6 b7 b8 hus hul hA12 hge hsn hroom2 k12 HSm11 HRg k11
        go_wp2_with fail
        refine HAp.out.mono ?_
        rintro e13 w13 ⟨rfl, k13⟩
        obtain ⟨kv13, pv13, xs13, h13⟩ := k13.on
        have h13a : LogAt w2 w13 lb8 (w2.heap.size + 1) w2.heap.size D5 L5 kv13 pv13 xs13 := h13.at_
        have HA13 := Lib.hid h13a
        have hx13 : xs13.length ≤ 1000000 := by rw [xs_len h13a]; omega
        have hr13 : L5.range 0 100 = us := by
          show LogS.range _ ((0 : Nat) : Int) ((100 : Nat) : Int) = _
          rw [range_at HB3.out, List.drop_zero, List.take_of_length_le (by rw [HUl.out]; omega)]
        have HRg := Lib.hid fun (W : World) (k : Only [] w13 W) => jrange_any (HA13.out.only0 k) hx13 (by rw [len_all, HB3.out, HUl.out]; omega) 0 100
        rw [hr13] at HRg
        have hb13 : Only [] w w13 := k2.trans h13a.base
        clear k13 h13 h13a hr13 HAp
        go_wp2_with fail
        refine wp_region_stages (C := fun W => ∃ p : Hold [], W = p.W) [([], [0, 1]), ([2, 3], [4, 5, 6]), ([7, 9, 10, 13, 11], [8, 12, 14])] [15, 16, 17] (by kernel_rfl) (by kernel_rfl) (by intro c d u a w h; cases d <;> exact h) ⟨⟨_, hold0 _⟩, rfl⟩ ?_
        refine stage0 ?_
        show wpList _ _ _ [_] _ _
        go_wp2_with (go_at_call 9; refine (HAl.out _ (hb13.trans (Only.refl _ _).drew)).mono ?_; rintro e14 w14 ⟨rfl, k14⟩)
        have k14 := (Only.refl _ _).drew.trans k14
        refine check_hold (hold0 _) ?_
        show wpList _ _ _ [_] _ _
        go_wp2_with fail
        refine check_hold (hold0 _) ?_
        refine stageN ?_
        show wpQuiet _ _ _ _ [_, _] _
        try go_frame
        repeat (go_big_quiet_step (fail))
        refine wpQuiet_nil ?_
        show wpList _ _ _ [_] _ _
        go_wp2_with fail
        refine check_hold (hold0 _) ?_
        show wpList _ _ _ [_] _ _
        go_wp2_with fail
        refine check_hold (hold0 _) ?_
        show wpList _ _ _ [_] _ _
        go_wp2_with fail
        refine check_hold (hold0 _) ?_
        refine stageN ?_
        show wpQuiet _ _ _ _ [_, _, _, _, _] _
        try go_frame
        repeat (go_big_quiet_step (fail))
        go_big_quiet_want
        refine ⟨.slice A1 ts.length c1, fun W _ => ?_, ?_⟩
        · unfold Oper.quietAt
          have hrt := run_takeS A1 ss.length c1 ts.length HCap.out W
          simp [execOp, Act.eval, Oper.quietUpon, Sem.run_bind, Result.andThen, hrt]
        go_big_quiet_on
        refine wpQuiet_nil ?_
        show wpList _ _ _ [_] _ _
        go_wp2_with (go_at_call 14; refine (HRg.out _ k14).mono ?_; rintro e15 w15 ⟨A15, cc15, rfl, hr15, k15⟩)
        have k15 := k14.trans k15
        have hb15 : Only [] w w15 := hb13.trans k15
        have HS15 := Lib.hid (Slc.of_own hr15).1
        obtain ⟨A16, c16, w16, hr16, hown16, hO16⟩ := appSS (W := w15) (base := w15.heap.size) (v := .slice none 0 0) (l := []) (World.ownsRow_nil _ _ _ _) (HVt.out.only0 hb15) (Nat.le_refl _) (by show 0 + ts.length ≤ _; omega)
        rw [show ([] : List ByteArray).length + ts.length = ts.length from Nat.zero_add _] at hr16 hown16
        rw [show ([] : List ByteArray) ++ ts = ts from rfl] at hown16
        have hO16' : Only [] w15 w16 := hO16
        have hsz16 := hO16'.size
        obtain ⟨A17, c17, w17, hr17, hown17, hO17⟩ := appSS hown16 (hv3.only0 (hb15.trans hO16')) hsz16 (by omega)
        have hO17' : Only [] w15 w17 := hO16'.step hO17 (fun g hg => .inr ((hown16.lt g (by simpa using hg)).1))
        rw [HUs.out] at hown17
        rw [← HUl.out] at hr17 hown17
        have HR16 := Lib.hid hr16
        have HR17 := Lib.hid hr17
        have HS17 := Lib.hid (sameT_refl (HS15.out.only0 hO17') (Slc.of_own hown17).1)
        clear hr15 hr16 hr17 hown16 hown17 hO16 hO17 hsz16
        refine check_hold (hold0 _) ?_
        show wpList _ _ _ [_] _ _
        go_big_want
        refine Lib.wp_append_run _ (.const (.slice none 0 0)) (.tmp 141) 22 22 rfl _ _ rfl rfl _ _ HR16.out ?_
        rename_i K hK
        refine hK _ _ ?_
        show wpList _ _ _ [] _ _
        clear hK
        go_wp2_with fail
        try go_frame
        refine check_hold (hold0 _) ?_
        show wpList _ _ _ [_] _ _
        go_big_want
        refine Lib.wp_append_run _ (.tmp 142) (.tmp 143) 22 22 rfl _ _ rfl rfl _ _ HR17.out ?_
        rename_i K hK
        refine hK _ _ ?_
        show wpList _ _ _ [] _ _
        clear hK
        go_wp2_with fail
        try go_frame
        refine check_hold (hold0 _) ?_
        refine stageE ?_
        show wpList _ _ _ [_, _, _] _ _
        go_wp2_with (go_at_call 16; refine HS17.out.mono ?_; rintro e18 w18 ⟨rfl, k18⟩)
        go_ret
        exact ⟨rfl, (hb15.trans hO17').trans k18⟩
      · rw [b1] at HAp
        dsimp only at HAp
        have HAp := Lib.hid HAp
        clear b1 hA12 hge hsn k12 HSm11 HRg k11
        go_wp2_with fail
        refine HAp.out.mono ?_
        rintro e13 w13 ⟨rfl, k13⟩
        obtain ⟨kv13, pv13, xs13, h13⟩ := k13.on
        have HA13 := Lib.hid h13.at_
        have hx13 : xs13.length ≤ 1000000 := by rw [xs_len HA13.out]; show ps2.length ≤ _; omega
        have HLn := Lib.hid fun (W : World) (k : Only [] w13 W) => jlen_any (HA13.out.only0 k) hx13 (by show LogS.len ⟨⟨#[112]⟩, size2, ps2, _, mark2, 0⟩ ≤ _; rw [HLs.out]; omega)
        have hle : ∀ s m, LogS.len ⟨⟨#[112]⟩, size2, ps2, s, m, 0⟩ = (ts.length : Int) := HLs.out
        simp only [hle] at HLn
        have hb13 : Only [] w w13 := k2.trans HA13.out.base
        clear k13 h13 HAp hle
        go_wp2_with (first
          | (go_at_call 9; refine (HAl.out _ hb13).mono ?_; rintro e14 w14 ⟨rfl, k14⟩)
          | (go_at_call 13; refine (HLn.out _ k14).mono ?_; rintro e15 w15 ⟨rfl, k15⟩))
        go_ret
        exact ⟨rfl, (hb13.trans k14).trans k15⟩
    · rcases hW0.good.append (l := ss) (by simp [LogS.new]; omega) with ⟨q, -⟩ | ⟨-, a1⟩
      · exact absurd q hroom
      · rw [a1] at HAp
        dsimp only at HAp
        have HAp := Lib.hid HAp
        clear a1 hW0 HSm hA4 hge hroom
        go_wp2_with fail
        refine HAp.out.mono ?_
        rintro e5 w5 ⟨rfl, k5⟩
        obtain ⟨kv5, pv5, xs5, h5⟩ := k5.on
        have hb5 : Only [] w w5 := k2.trans h5.at_.base
        clear k5 h5 HAp
        go_wp2_with (go_at_call 9; refine (HAl.out _ hb5).mono ?_; rintro e6 w6 ⟨rfl, k6⟩)
        go_ret
        exact ⟨rfl, hb5.trans k6⟩
end
end Go.Proofs.YtfjkjndpndjfpaaGreatDoor
/- LogCuts: the walk in the row's form. -/
set_option linter.unusedVariables false
namespace Go.Proofs.YtfjkjndpndjfpaaGreatDoor
open Go Go.RowKit Go.Sort
theorem cutsW (size : Int) (hs : (Lit.int .i64 size).wf = true) (v : Value) (ss : List ByteArray) (n : Int) (hn : (Lit.int .i64 n).wf = true) (v3 : Value) (ms : List ByteArray) (W : World) (hT : Tab W)
    (hv : Slc W 1 v ss.length (strs ss)) (hz : ∀ s ∈ ss, s.size ≤ maxLen) (hg : ∀ g, v.ownBlock = some g → g < W.heap.size ∨ ss = [])
    (hv3 : Slc W 1 v3 ms.length (strs ms)) (hz3 : ∀ s ∈ ms, s.size ≤ maxLen) (hg3 : ∀ g, v3.ownBlock = some g → g < W.heap.size ∨ ms = []) :
    Calls Tryz.prog 5 #[.int .i64 size, v, .int .i64 n, v3] W fun e w' => e = .returned (.bool true) ∧ Only [] W w' :=
  cuts_go W hT v v3 ss ms size n hv hz hg hv3 hz3 hg3
end Go.Proofs.YtfjkjndpndjfpaaGreatDoor
