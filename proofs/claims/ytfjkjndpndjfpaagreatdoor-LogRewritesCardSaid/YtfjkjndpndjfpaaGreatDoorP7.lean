/- Proved here: contracts of functions and plain laws, part 7 of one proof. Conditions: each theorem names its own. -/
import Derived.Test.YtfjkjndpndjfpaaGreatDoorP6
/- Contracts: a log is cut (chunklog Truncate). -/
set_option linter.unusedVariables false
set_option linter.unusedSimpArgs false
namespace Go.Proofs.YtfjkjndpndjfpaaGreatDoor
open Go Go.RowKit Go.Sort
section
variable {a w w1 w' W W' : World} {lb db mb M N c : Nat} {D0 D D1 D2 d : DS} {L L' : LogS} {kv pv : Value} {xs : List (Value × PartL)} {R S : List Nat}
set_option maxRecDepth 100000 in
set_option maxHeartbeats 4000000 in
theorem jtruncate_any (h : LogAt a w lb db mb d L kv pv xs) (hg : Good L d false c) (hk : d.Ok M) (hM : M ≤ 1000000) (hsum : ∀ p ∈ L.ps, sumS p.bodies ≤ 1000000 ∧ p.bodies.length ≤ 1000000) (hl : L.len ≤ 100000) {n : Nat} (hn : n ≤ L.all.length) :
    Calls Tryz.prog 22 #[.pointer (some ⟨lb, 0, none⟩), .int .i64 n] w fun e w' => e = .returned (.int .i64 0) ∧ LTo a lb db mb (lblk lb db mb kv pv xs) w w' (L.truncate d n).2 := by
  have hxl := xs_len h
  have hfew := hg.few
  have hlen := len_all L
  have HMy := Lib.hid (jmay_any h.blk)
  rw [hg.bad] at HMy
  have HL := Lib.hid (jlen_any h (by omega) (by omega))
  have hd0 : decide ((n : Int) < 0) = false := decide_eq_false (by omega)
  have hd1 : decide ((n : Int) > L.len) = false := decide_eq_false (by omega)
  have hbad := hg.bad
  have HO := Lib.hid (LogOn.refl h)
  have HLn := Lib.hid fun (W : World) (k : Only [] w W) => jlen_any (h.only0 k) (by omega) (by omega)
  by_cases he : n = L.all.length
  · rw [LogS.truncate_len hbad he]
    have hd2 : ((n : Int) == L.len) = true := by simp; omega
    clear h hg hk hxl hlen he hn hbad
    go_enter Tryz.func22, Tryz.ntmps22
    go_wp2_with (first | (go_at_call 37; refine HMy.out.mono ?_; rintro e1 w1 ⟨rfl, rfl⟩; (have hh := HMy); clear HMy) | (go_at_call 13; refine (HLn.out _ (Only.refl _ _)).mono ?_; rintro e2 w2 ⟨rfl, k2⟩) | (go_at_call 13; refine (HLn.out _ k2).mono ?_; rintro e3 w3 ⟨rfl, k3⟩; have k3 := k2.trans k3))
    go_ret
    exact ⟨rfl, (HO.out.only0 k3).lto⟩
  · have hlt : n < L.all.length := by omega
    have hd2 : ((n : Int) == L.len) = false := by simp; omega
    have HNm := Lib.hid fun (W : World) (L' : LogS) (D' : DS) (kv' pv' : Value) (xs' : List (Value × PartL)) (h : LogAt a W lb db mb D' L' kv' pv' xs') (hp : L'.pre.size ≤ 1000) (m : Nat) (hm : m ≤ 1000) => jname_any h.blk hp h.tabw (m : Int) (by omega) (by omega)
    have HRm := Lib.hid fun (W : World) (L' : LogS) (D' : DS) (kv' pv' : Value) (xs' : List (Value × PartL)) (h : LogAt a W lb db mb D' L' kv' pv' xs') (hk : D'.Ok M) (nm : ByteArray) => remove_any h.disk hk (by omega) nm
    obtain ⟨R, hR⟩ : ∃ R, lblk lb db mb kv pv xs = R := ⟨_, rfl⟩
    rw [hR] at HO ⊢
    have HG := Lib.hid hg
    have HK := Lib.hid hk
    have HB := Lib.hid hbad
    have HLt := Lib.hid hlt
    have HSum := Lib.hid hsum
    have HLe := Lib.hid hlen
    have HXl := Lib.hid hxl
    have HH := Lib.hid h
    by_cases h0 : n = 0
    · subst h0
      rw [show ((0 : Nat) : Int) = 0 from rfl] at hd0 hd1 hd2 ⊢
      clear h hg hk hxl hlen he hn hbad hR hlt hsum hd0
      go_enter Tryz.func22, Tryz.ntmps22
      go_wp2_with (first | (go_at_call 37; refine HMy.out.mono ?_; rintro e1 w1 ⟨rfl, rfl⟩; (have hh := HMy); clear HMy) | (go_at_call 13; refine (HLn.out _ (Only.refl _ _)).mono ?_; rintro e2 w2 ⟨rfl, k2⟩) | (go_at_call 13; refine (HLn.out _ k2).mono ?_; rintro e3 w3 ⟨rfl, k3⟩; have k3 := k2.trans k3))
      go_loopw [] (fun wr => ∃ (L' : LogS) (D' : DS) (kv' pv' : Value) (xs' : List (Value × PartL)) (b' : Bool) (f : Nat), Hid (LogOn a R w1 wr lb db mb D' L' kv' pv' xs') ∧ Hid (Good L' D' b' c) ∧ Hid (D'.Ok M) ∧ xs'.length ≤ f ∧ Hid (L.popGo d ((0 : Nat) : Int) true L.ps.length = L'.popGo D' ((0 : Nat) : Int) true f) ∧ Hid (L'.len ≤ 100000)) (fun wr => partsLen wr lb)
      case atStart => exact ⟨L, d, kv, pv, xs, false, L.ps.length, Lib.hid (HO.out.only0 k3), HG, HK, by rw [HXl.out]; exact Nat.le_refl _, Lib.hid rfl, Lib.hid hl⟩
      case round =>
        obtain ⟨L', D', kv', pv', xs', b', f, HO', HG', HK', hf, HE, HL'⟩ := hrel
        have c3 := HO'.out.at_.cell3
        obtain ⟨B, bc, hpv, _, _⟩ := own_form HO'.out.at_.row
        by_cases hx : xs'.length = 0
        · rw [hpv, hx] at c3
          have hstop := LogS.popStop (L := L') (D := D') (t := ((0 : Nat) : Int)) (z := true) (fun q => by have := xs_len HO'.out.at_; omega) f
          have HT := Lib.hid (LogS.truncate_none HB.out (by have := HLt.out; omega) (HE.out.trans hstop))
          clear hstop hpv hx
          go_wp2_with fail
          go_ret
          rw [HT.out]
          exact ⟨rfl, HO'.out.lto⟩
        · obtain ⟨m, hm⟩ : ∃ m, xs'.length = m + 1 := ⟨xs'.length - 1, by omega⟩
          obtain ⟨f, rfl⟩ : ∃ f', f = f' + 1 := ⟨f - 1, by omega⟩
          obtain ⟨g, cap, hpv', hgb, -⟩ := HO'.out.at_.at (k := 0) (by omega)
          subst hpv'
          obtain ⟨q1, q2, q3⟩ := HG'.out.popEq (k := m) (by rw [← xs_len HO'.out.at_]; exact hm.symm) (t := ((0 : Nat) : Int)) (z := true) (.inr rfl) f
          have hfew' := HG'.out.few
          rw [← xs_len HO'.out.at_] at hfew'
          have hcap : m + 1 ≤ cap := by
            obtain ⟨B', bc', z, hc, -⟩ := own_form HO'.out.at_.row
            simp only [Value.slice.injEq] at z
            omega
          have e1 : IntKind.i64.wrap ((xs'.length : Int) - 1) = (m : Int) := by rw [hm]; exact (IntWalk.i64_in _ ⟨by omega, by omega⟩).trans (by omega)
          have hd5 : decide (0 < xs'.length) = true := decide_eq_true (by omega)
          have hd6 : decide ((m : Int) ≤ (cap : Int)) = true := decide_eq_true (by omega)
          have HN1 := Lib.hid fun (W : World) (k : Only [] wr W) => HNm.out W L' D' _ _ xs' (HO'.out.only0 k).at_ (by have := HG'.out.pre; omega) m (by omega)
          have hRr := fun (W : World) (k : Only [] wr W) => HRm.out W L' D' _ _ xs' (HO'.out.only0 k).at_ HK'.out (nameK L'.pre m)
          have hok := (DS.remove_ok HK'.out (nameK L'.pre m)).1
          rw [q1] at hRr hok
          dsimp only at hRr hok
          obtain ⟨d2, hd2e⟩ : ∃ d2, ({ D' with fs := adel D'.fs (nameK L'.pre m) } : DS) = d2 := ⟨_, rfl⟩
          rw [hd2e] at q2 q3 hRr hok
          obtain ⟨nm, hnm⟩ : ∃ nm, nameK L'.pre (m : Int) = nm := ⟨_, rfl⟩
          rw [hnm] at HN1 hRr
          have HR1 := Lib.hid hRr
          have HK2 := Lib.hid hok
          have HQ2 := Lib.hid q2
          have HQ3 := Lib.hid q3
          have HM := Lib.hid hm
          clear hRr hok q1 q2 q3 hnm hd2e hm hx hpv
          by_cases hm0 : 0 < m
          · have hd7 : decide (0 < m) = true := decide_eq_true hm0
            have k3 := (Only.refl [] wr).drew
            obtain ⟨F, hF⟩ : ∃ F : List (Addr × Value), F = [(⟨lb, 0, none⟩, .pointer (some ⟨db, 0, none⟩)), (⟨lb, 3, none⟩, .slice (some ⟨g, 0, none⟩) xs'.length cap)] := ⟨_, rfl⟩
            have hFW : ∀ W : World, W.cell? ⟨lb, 0, none⟩ = some (.pointer (some ⟨db, 0, none⟩)) → W.cell? ⟨lb, 3, none⟩ = some (.slice (some ⟨g, 0, none⟩) xs'.length cap) → ∀ x ∈ F, W.cell? x.1 = some x.2 := fun W h h3 => by rw [hF]; exact hold2 h h3
            have d0 : ∀ p : Hold F, p.W.cell? ⟨lb, 0, none⟩ = some (.pointer (some ⟨db, 0, none⟩)) := fun p => p.h (_, _) (by rw [hF]; simp)
            have d3 : ∀ p : Hold F, p.W.cell? ⟨lb, 3, none⟩ = some (.slice (some ⟨g, 0, none⟩) xs'.length cap) := fun p => p.h (_, _) (by rw [hF]; simp)
            have HF := Lib.hid hFW
            clear hF hFW
            go_wp2_with fail
            refine wp_region_hold F [0, 1, 2, 3, 4, 5, 6, 7, 8, 9, 10, 11] [12, 13, 14] [15] (HF.out _ HO'.out.at_.cell0 HO'.out.at_.cell3) (by kernel_rfl) (by kernel_rfl) (by intro c d u a w h; cases d <;> exact h) ?_
            intro hne
            show wpQuiet _ _ _ _ [_, _, _, _, _, _, _, _, _, _, _, _] _
            repeat (go_big_quiet_step (fail))
            refine wpQuiet_nil ?_
            clear c3
            show wpList _ _ _ [_] _ _
            go_wp2_with (go_at_call 50; refine (HN1.out _ k3).mono ?_; rintro e3 w3 ⟨rfl, k4⟩)
            have k4 := k3.trans k4
            have HO3 := Lib.hid (HO'.out.only0 k4)
            refine check_hold (HF.out _ HO3.out.at_.cell0 HO3.out.at_.cell3) ?_
            show wpList _ _ _ [_] _ _
            go_wp2_with (go_at_call 49; refine (HR1.out _ k4).mono ?_; rintro e4 w4 ⟨rfl, k5⟩)
            have HT4 := Lib.hid (told_leads HO3.out.at_ k5 0)
            obtain ⟨kv4, k5a, k5b, k5c⟩ := HO3.out.at_.leads k5
            refine check_hold (HF.out _ k5a.cell0 k5a.cell3) ?_
            show wpList _ _ _ [_] _ _
            go_wp2_with (go_at_call 44; refine HT4.out.mono ?_; rintro e5 w5 ⟨rfl, k6⟩)
            rw [told_zero] at k6
            obtain ⟨kv5, h5⟩ := HO3.out.to k6
            have HO5 := Lib.hid h5
            refine check_hold (HF.out _ h5.at_.cell0 h5.at_.cell3) ?_
            have c3 := h5.at_.cell3
            have f3 := h5.at_.blk.free 3
            have HP := Lib.hid ((h5.pop rfl HM.out).only0 (Only.refl [] _).drew)
            clear k5 k5a k5b k5c k6 h5 HT4 d0 d3
            show wpList _ _ _ [_] _ _
            go_wp2_with fail
            have g3 := Within.cell (S := []) c3 (by simp)
            refine wp_region_in [] [0, 1, 2, 3, 4, 5, 6, 7, 8, 9, 10, 11, 12, 13] [] [14] (by kernel_rfl) (by kernel_rfl) (by intro c d u a w h; cases d <;> exact h) ?_
            show wpQuiet _ _ _ _ [_, _, _, _, _, _, _, _, _, _, _, _, _, _] _
            repeat (go_big_quiet_step (fail))
            refine wpQuiet_nil ?_
            show wpList _ _ _ [_] _ _
            go_wp2_with fail
            have HP2 := HP
            have HLn2 := Lib.hid fun (W : World) (k : Only [] _ W) => jlen_any (HP2.out.only0 k).at_ (by rw [List.length_take]; have := HM.out; omega) (Int.le_trans (LogS.len_dropLast L' L'.synced L'.mark) (by have := HL'.out; omega))
            have c4 := HP2.out.at_.cell4
            have g4 := Within.cell (S := []) c4 (by simp)
            clear c3 f3 g3 c4

            refine wp_region_in [] [0, 1, 2, 3, 4, 5] [6, 7] [8, 9, 10] (by kernel_rfl) (by kernel_rfl) (by intro c d u a w h; cases d <;> exact h) ?_
            show wpQuiet _ _ _ _ [_, _, _, _, _, _] _
            repeat (go_big_quiet_step (fail))
            refine wpQuiet_nil ?_
            show wpList _ _ _ [_] _ _
            go_wp2_with (go_at_call 13; refine (HLn2.out _ (Only.refl [] _).drew).mono ?_; rintro e6 w6 ⟨rfl, k6⟩)
            have k6 := (Only.refl [] _).drew.trans k6
            refine check_of (S := []) k6 ?_
            show wpList _ _ _ [_] _ _
            go_wp2_with fail
            refine check_of (S := []) k6 ?_
            have HO6 := Lib.hid (HP2.out.only0 k6)
            have f4 := HO6.out.at_.blk.free 4
            have c4 := HO6.out.at_.blk.cell 4
            have HO7 := Lib.hid (HO6.out.setSyn (min L'.synced (LogS.len { L' with ps := L'.ps.dropLast })))
            show wpList _ _ _ [_, _, _] _ _
            go_wp2
            exact ⟨⟨_, _, _, _, _, true, f, HO7, HQ3, HK2, by rw [List.length_take]; have := HM.out; omega, Lib.hid (HE.out.trans HQ2.out), Lib.hid (Int.le_trans (LogS.len_dropLast L' L'.synced L'.mark) HL'.out)⟩, by rw [partsLen_of HO7.out.at_, partsLen_of HO'.out.at_, List.length_take]; have := HM.out; omega⟩
          · have hd7 : decide (0 < m) = false := decide_eq_false hm0
            have k3 := (Only.refl [] wr).drew
            obtain ⟨F, hF⟩ : ∃ F : List (Addr × Value), F = [(⟨lb, 0, none⟩, .pointer (some ⟨db, 0, none⟩)), (⟨lb, 3, none⟩, .slice (some ⟨g, 0, none⟩) xs'.length cap)] := ⟨_, rfl⟩
            have hFW : ∀ W : World, W.cell? ⟨lb, 0, none⟩ = some (.pointer (some ⟨db, 0, none⟩)) → W.cell? ⟨lb, 3, none⟩ = some (.slice (some ⟨g, 0, none⟩) xs'.length cap) → ∀ x ∈ F, W.cell? x.1 = some x.2 := fun W h h3 => by rw [hF]; exact hold2 h h3
            have d0 : ∀ p : Hold F, p.W.cell? ⟨lb, 0, none⟩ = some (.pointer (some ⟨db, 0, none⟩)) := fun p => p.h (_, _) (by rw [hF]; simp)
            have d3 : ∀ p : Hold F, p.W.cell? ⟨lb, 3, none⟩ = some (.slice (some ⟨g, 0, none⟩) xs'.length cap) := fun p => p.h (_, _) (by rw [hF]; simp)
            have HF := Lib.hid hFW
            clear hF hFW
            go_wp2_with fail
            refine wp_region_hold F [0, 1, 2, 3, 4, 5, 6, 7, 8, 9, 10, 11] [12, 13, 14] [15] (HF.out _ HO'.out.at_.cell0 HO'.out.at_.cell3) (by kernel_rfl) (by kernel_rfl) (by intro c d u a w h; cases d <;> exact h) ?_
            intro hne
            show wpQuiet _ _ _ _ [_, _, _, _, _, _, _, _, _, _, _, _] _
            repeat (go_big_quiet_step (fail))
            refine wpQuiet_nil ?_
            clear c3
            show wpList _ _ _ [_] _ _
            go_wp2_with (go_at_call 50; refine (HN1.out _ k3).mono ?_; rintro e3 w3 ⟨rfl, k4⟩)
            have k4 := k3.trans k4
            have HO3 := Lib.hid (HO'.out.only0 k4)
            refine check_hold (HF.out _ HO3.out.at_.cell0 HO3.out.at_.cell3) ?_
            show wpList _ _ _ [_] _ _
            go_wp2_with (go_at_call 49; refine (HR1.out _ k4).mono ?_; rintro e4 w4 ⟨rfl, k5⟩)
            have HT4 := Lib.hid (told_leads HO3.out.at_ k5 0)
            obtain ⟨kv4, k5a, k5b, k5c⟩ := HO3.out.at_.leads k5
            refine check_hold (HF.out _ k5a.cell0 k5a.cell3) ?_
            show wpList _ _ _ [_] _ _
            go_wp2_with (go_at_call 44; refine HT4.out.mono ?_; rintro e5 w5 ⟨rfl, k6⟩)
            rw [told_zero] at k6
            obtain ⟨kv5, h5⟩ := HO3.out.to k6
            have HO5 := Lib.hid h5
            refine check_hold (HF.out _ h5.at_.cell0 h5.at_.cell3) ?_
            have c3 := h5.at_.cell3
            have f3 := h5.at_.blk.free 3
            have HP := Lib.hid ((h5.pop rfl HM.out).only0 (Only.refl [] _).drew)
            clear k5 k5a k5b k5c k6 h5 HT4 d0 d3
            show wpList _ _ _ [_] _ _
            go_wp2_with fail
            have g3 := Within.cell (S := []) c3 (by simp)
            refine wp_region_in [] [0, 1, 2, 3, 4, 5, 6, 7, 8, 9, 10, 11, 12, 13] [] [14] (by kernel_rfl) (by kernel_rfl) (by intro c d u a w h; cases d <;> exact h) ?_
            show wpQuiet _ _ _ _ [_, _, _, _, _, _, _, _, _, _, _, _, _, _] _
            repeat (go_big_quiet_step (fail))
            refine wpQuiet_nil ?_
            show wpList _ _ _ [_] _ _
            go_wp2_with fail
            have HP2 := HP
            have HLn2 := Lib.hid fun (W : World) (k : Only [] _ W) => jlen_any (HP2.out.only0 k).at_ (by rw [List.length_take]; have := HM.out; omega) (Int.le_trans (LogS.len_dropLast L' L'.synced L'.mark) (by have := HL'.out; omega))
            have c4 := HP2.out.at_.cell4
            have g4 := Within.cell (S := []) c4 (by simp)
            clear c3 f3 g3 c4

            refine wp_region_in [] [0, 1, 2, 3, 4, 5] [6, 7] [8, 9, 10] (by kernel_rfl) (by kernel_rfl) (by intro c d u a w h; cases d <;> exact h) ?_
            show wpQuiet _ _ _ _ [_, _, _, _, _, _] _
            repeat (go_big_quiet_step (fail))
            refine wpQuiet_nil ?_
            show wpList _ _ _ [_] _ _
            go_wp2_with (go_at_call 13; refine (HLn2.out _ (Only.refl [] _).drew).mono ?_; rintro e6 w6 ⟨rfl, k6⟩)
            have k6 := (Only.refl [] _).drew.trans k6
            refine check_of (S := []) k6 ?_
            show wpList _ _ _ [_] _ _
            go_wp2_with fail
            refine check_of (S := []) k6 ?_
            have HO6 := Lib.hid (HP2.out.only0 k6)
            have f4 := HO6.out.at_.blk.free 4
            have c4 := HO6.out.at_.blk.cell 4
            have HO7 := Lib.hid (HO6.out.setSyn (min L'.synced (LogS.len { L' with ps := L'.ps.dropLast })))
            show wpList _ _ _ [_, _, _] _ _
            go_wp2
            exact ⟨⟨_, _, _, _, _, true, f, HO7, HQ3, HK2, by rw [List.length_take]; have := HM.out; omega, Lib.hid (HE.out.trans HQ2.out), Lib.hid (Int.le_trans (LogS.len_dropLast L' L'.synced L'.mark) HL'.out)⟩, by rw [partsLen_of HO7.out.at_, partsLen_of HO'.out.at_, List.length_take]; have := HM.out; omega⟩
    · obtain ⟨t, r, p, hfd, hpt, hrl⟩ := LogS.find_nat (L := L) (n := n - 1) (by omega)
      have htl : t < L.ps.length := (List.getElem?_eq_some_iff.1 hpt).1
      obtain ⟨N', hN'⟩ : ∃ N' : Int, N' = n := ⟨_, rfl⟩
      have HTs := Lib.hid fun (L' : LogS) (D' : DS) => LogS.truncate_some (D := d) (L' := L') (D' := D') hbad h0 hlt hfd
      have HFd := Lib.hid fun (W : World) (k : Only [] w W) => jfind_any (h.only0 k) (by omega) (n - 1) (by omega) (by omega)
      rw [hfd] at HFd
      dsimp only at HFd
      have hpb := hsum p (List.mem_of_getElem? hpt)
      have e1 : IntKind.i64.wrap (N' - 1) = ((n - 1 : Nat) : Int) := by rw [hN']; exact (IntWalk.i64_in _ ⟨by omega, by omega⟩).trans (by omega)
      have e2 : IntKind.i64.wrap ((r : Int) + 1) = ((r + 1 : Nat) : Int) := (IntWalk.i64_in _ ⟨by omega, by omega⟩).trans (by omega)
      rw [← hN'] at hd0 hd1 hd2 ⊢
      obtain ⟨n1, hn1⟩ : ∃ n1, n - 1 = n1 := ⟨_, rfl⟩
      obtain ⟨r1, hr1⟩ : ∃ r1, r + 1 = r1 := ⟨_, rfl⟩
      rw [hn1] at e1 HFd
      rw [hr1] at e2 HTs
      have hd3 : decide (N' > 0) = true := decide_eq_true (by omega)
      have hd4 : (N' == 0) = false := by simp; omega
      have HPt0 := Lib.hid hpt
      have hr2 : r1 ≤ p.bodies.length := by omega
      have HTr := Lib.hid hN'
      clear h hg hk hxl hlen he hn hbad hR hlt hsum hd0 h0 hN' hfd hpt hn1 hr1 hrl
      have hd0 : decide (N' < 0) = false := decide_eq_false (by have := HTr.out; omega)
      go_enter Tryz.func22, Tryz.ntmps22
      go_wp2_with (first | (go_at_call 37; refine HMy.out.mono ?_; rintro e1 w1 ⟨rfl, rfl⟩; (have hh := HMy); clear HMy) | (go_at_call 13; refine (HLn.out _ (Only.refl _ _)).mono ?_; rintro e2 w2 ⟨rfl, k2⟩) | (go_at_call 13; refine (HLn.out _ k2).mono ?_; rintro e3 w3 ⟨rfl, k3⟩; have k3 := k2.trans k3) | (go_at_call 48; refine (HFd.out _ k3).mono ?_; rintro e4 w4 ⟨rfl, k4⟩; have k4 := k3.trans k4))
      go_loopw [] (fun wr => ∃ (L' : LogS) (D' : DS) (kv' pv' : Value) (xs' : List (Value × PartL)) (b' : Bool) (f : Nat), Hid (LogOn a R w1 wr lb db mb D' L' kv' pv' xs') ∧ Hid (Good L' D' b' c) ∧ Hid (D'.Ok M) ∧ xs'.length ≤ f ∧ Hid (L.popGo d (t : Int) false L.ps.length = L'.popGo D' (t : Int) false f) ∧ t + 1 ≤ xs'.length ∧ Hid (L'.ps[t]? = some p) ∧ Hid (L'.len ≤ 100000)) (fun wr => partsLen wr lb)
      case atStart => exact ⟨L, d, kv, pv, xs, false, L.ps.length, Lib.hid (HO.out.only0 k4), HG, HK, by rw [HXl.out]; exact Nat.le_refl _, Lib.hid rfl, by rw [HXl.out]; exact htl, HPt0, Lib.hid hl⟩
      case round =>
        obtain ⟨L', D', kv', pv', xs', b', f, HO', HG', HK', hf, HE, htx, HPt, HL'⟩ := hrel
        have c3 := HO'.out.at_.cell3
        obtain ⟨m, hm⟩ : ∃ m, xs'.length = m + 1 := ⟨xs'.length - 1, by omega⟩
        obtain ⟨g, cap, hpv', hgb, -⟩ := HO'.out.at_.at (k := 0) (by omega)
        subst hpv'
        have hfew' := HG'.out.few
        rw [← xs_len HO'.out.at_] at hfew'
        have hcap : m + 1 ≤ cap := by
          obtain ⟨B', bc', z, hc, -⟩ := own_form HO'.out.at_.row
          simp only [Value.slice.injEq] at z
          omega
        have e5 : IntKind.i64.wrap ((xs'.length : Int) - 1) = (m : Int) := by rw [hm]; exact (IntWalk.i64_in _ ⟨by omega, by omega⟩).trans (by omega)
        have hd5 : decide (0 < xs'.length) = true := decide_eq_true (by omega)
        have HM := Lib.hid hm
        by_cases htm : t < m
        · have hd7 : decide (t < m) = true := decide_eq_true htm
          obtain ⟨f, rfl⟩ : ∃ f', f = f' + 1 := ⟨f - 1, by omega⟩
          obtain ⟨q1, q2, q3⟩ := HG'.out.popEq (k := m) (by rw [← xs_len HO'.out.at_]; exact hm.symm) (t := (t : Int)) (z := false) (.inl (by omega)) f
          have hd6 : decide ((m : Int) ≤ (cap : Int)) = true := decide_eq_true (by omega)
          have HN1 := Lib.hid fun (W : World) (k : Only [] wr W) => HNm.out W L' D' _ _ xs' (HO'.out.only0 k).at_ (by have := HG'.out.pre; omega) m (by omega)
          have hRr := fun (W : World) (k : Only [] wr W) => HRm.out W L' D' _ _ xs' (HO'.out.only0 k).at_ HK'.out (nameK L'.pre m)
          have hok := (DS.remove_ok HK'.out (nameK L'.pre m)).1
          rw [q1] at hRr hok
          dsimp only at hRr hok
          obtain ⟨d2, hd2e⟩ : ∃ d2, ({ D' with fs := adel D'.fs (nameK L'.pre m) } : DS) = d2 := ⟨_, rfl⟩
          rw [hd2e] at q2 q3 hRr hok
          obtain ⟨nm, hnm⟩ : ∃ nm, nameK L'.pre (m : Int) = nm := ⟨_, rfl⟩
          rw [hnm] at HN1 hRr
          have HR1 := Lib.hid hRr
          have HK2 := Lib.hid hok
          have HQ2 := Lib.hid q2
          have HQ3 := Lib.hid q3
          clear hRr hok q1 q2 q3 hnm hd2e hm
          have k3 := (Only.refl [] wr).drew
          obtain ⟨F, hF⟩ : ∃ F : List (Addr × Value), F = [(⟨lb, 0, none⟩, .pointer (some ⟨db, 0, none⟩)), (⟨lb, 3, none⟩, .slice (some ⟨g, 0, none⟩) xs'.length cap)] := ⟨_, rfl⟩
          have hFW : ∀ W : World, W.cell? ⟨lb, 0, none⟩ = some (.pointer (some ⟨db, 0, none⟩)) → W.cell? ⟨lb, 3, none⟩ = some (.slice (some ⟨g, 0, none⟩) xs'.length cap) → ∀ x ∈ F, W.cell? x.1 = some x.2 := fun W h h3 => by rw [hF]; exact hold2 h h3
          have d0 : ∀ p : Hold F, p.W.cell? ⟨lb, 0, none⟩ = some (.pointer (some ⟨db, 0, none⟩)) := fun p => p.h (_, _) (by rw [hF]; simp)
          have d3 : ∀ p : Hold F, p.W.cell? ⟨lb, 3, none⟩ = some (.slice (some ⟨g, 0, none⟩) xs'.length cap) := fun p => p.h (_, _) (by rw [hF]; simp)
          have HF := Lib.hid hFW
          clear hF hFW
          go_wp2_with fail
          refine wp_region_hold F [0, 1, 2, 3, 4, 5, 6, 7, 8, 9, 10, 11] [12, 13, 14] [15] (HF.out _ HO'.out.at_.cell0 HO'.out.at_.cell3) (by kernel_rfl) (by kernel_rfl) (by intro c d u a w h; cases d <;> exact h) ?_
          intro hne
          show wpQuiet _ _ _ _ [_, _, _, _, _, _, _, _, _, _, _, _] _
          repeat (go_big_quiet_step (fail))
          refine wpQuiet_nil ?_
          clear c3
          show wpList _ _ _ [_] _ _
          go_wp2_with (go_at_call 50; refine (HN1.out _ k3).mono ?_; rintro e3 w3 ⟨rfl, k4⟩)
          have k4 := k3.trans k4
          have HO3 := Lib.hid (HO'.out.only0 k4)
          refine check_hold (HF.out _ HO3.out.at_.cell0 HO3.out.at_.cell3) ?_
          show wpList _ _ _ [_] _ _
          go_wp2_with (go_at_call 49; refine (HR1.out _ k4).mono ?_; rintro e4 w4 ⟨rfl, k5⟩)
          have HT4 := Lib.hid (told_leads HO3.out.at_ k5 0)
          obtain ⟨kv4, k5a, k5b, k5c⟩ := HO3.out.at_.leads k5
          refine check_hold (HF.out _ k5a.cell0 k5a.cell3) ?_
          show wpList _ _ _ [_] _ _
          go_wp2_with (go_at_call 44; refine HT4.out.mono ?_; rintro e5 w5 ⟨rfl, k6⟩)
          rw [told_zero] at k6
          obtain ⟨kv5, h5⟩ := HO3.out.to k6
          have HO5 := Lib.hid h5
          refine check_hold (HF.out _ h5.at_.cell0 h5.at_.cell3) ?_
          have c3 := h5.at_.cell3
          have f3 := h5.at_.blk.free 3
          have HP := Lib.hid ((h5.pop rfl HM.out).only0 (Only.refl [] _).drew)
          clear k5 k5a k5b k5c k6 h5 HT4 d0 d3
          show wpList _ _ _ [_] _ _
          go_wp2_with fail
          have g3 := Within.cell (S := []) c3 (by simp)
          refine wp_region_in [] [0, 1, 2, 3, 4, 5, 6, 7, 8, 9, 10, 11, 12, 13] [] [14] (by kernel_rfl) (by kernel_rfl) (by intro c d u a w h; cases d <;> exact h) ?_
          show wpQuiet _ _ _ _ [_, _, _, _, _, _, _, _, _, _, _, _, _, _] _
          repeat (go_big_quiet_step (fail))
          refine wpQuiet_nil ?_
          show wpList _ _ _ [_] _ _
          go_wp2_with fail
          have HP2 := HP
          have HLn2 := Lib.hid fun (W : World) (k : Only [] _ W) => jlen_any (HP2.out.only0 k).at_ (by rw [List.length_take]; have := HM.out; omega) (Int.le_trans (LogS.len_dropLast L' L'.synced L'.mark) (by have := HL'.out; omega))
          have c4 := HP2.out.at_.cell4
          have g4 := Within.cell (S := []) c4 (by simp)
          clear c3 f3 g3 c4

          refine wp_region_in [] [0, 1, 2, 3, 4, 5] [6, 7] [8, 9, 10] (by kernel_rfl) (by kernel_rfl) (by intro c d u a w h; cases d <;> exact h) ?_
          show wpQuiet _ _ _ _ [_, _, _, _, _, _] _
          repeat (go_big_quiet_step (fail))
          refine wpQuiet_nil ?_
          show wpList _ _ _ [_] _ _
          go_wp2_with (go_at_call 13; refine (HLn2.out _ (Only.refl [] _).drew).mono ?_; rintro e6 w6 ⟨rfl, k6⟩)
          have k6 := (Only.refl [] _).drew.trans k6
          refine check_of (S := []) k6 ?_
          show wpList _ _ _ [_] _ _
          go_wp2_with fail
          refine check_of (S := []) k6 ?_
          have HO6 := Lib.hid (HP2.out.only0 k6)
          have f4 := HO6.out.at_.blk.free 4
          have c4 := HO6.out.at_.blk.cell 4
          have HO7 := Lib.hid (HO6.out.setSyn (min L'.synced (LogS.len { L' with ps := L'.ps.dropLast })))
          show wpList _ _ _ [_, _, _] _ _
          go_wp2
          exact ⟨⟨_, _, _, _, _, true, f, HO7, HQ3, HK2, by rw [List.length_take]; have := HM.out; omega, Lib.hid (HE.out.trans HQ2.out), by rw [List.length_take]; have := HM.out; omega, Lib.hid (by show L'.ps.dropLast[t]? = _; rw [List.getElem?_dropLast, if_pos (by have := HM.out; have := xs_len HO'.out.at_; omega)]; exact HPt.out), Lib.hid (Int.le_trans (LogS.len_dropLast L' L'.synced L'.mark) HL'.out)⟩, by rw [partsLen_of HO7.out.at_, partsLen_of HO'.out.at_, List.length_take]; have := HM.out; omega⟩
        · have hd7 : decide (t < m) = false := decide_eq_false htm
          have hmt : m = t := by omega
          have hl' := xs_len HO'.out.at_
          have hstop := LogS.popStop (L := L') (D := D') (t := (t : Int)) (z := false) (fun q => by rcases q.2 with q | q; omega; cases q) f
          have hT := HTs.out L' D' (HE.out.trans hstop)
          have hk1 : t + 1 = L'.ps.length := by omega
          obtain ⟨s', D2, g1, g2, g3⟩ := HG'.out.shorten (k := t) hk1 HPt.out (r := r1) hr2
          have HOx : ∃ v, xs'[t]? = some (v, p) := by
            have h1 := HPt.out
            rw [HO'.out.at_.ps, List.getElem?_map] at h1
            cases hv : xs'[t]? with
            | none => rw [hv] at h1; simp at h1
            | some x => rw [hv] at h1; exact ⟨x.1, by rw [← Option.some.inj h1]⟩
          obtain ⟨v, hxv⟩ := HOx
          obtain ⟨d2, s1, s2⟩ := LogS.shorten_of (L := L') (D := D') (k := t) (r := r1) hk1.symm HPt.out (by rw [g1])
          rw [s2] at hT
          have HSh := Lib.hid (jshorten_at HO'.out.at_ (by have := HG'.out.pre; omega) HK'.out hM (m := t) (by omega) (by omega) hxv (r := r1) hr2 hpb s1 (by
            rw [len_all]
            show (((L'.ps.set t _).flatMap (·.bodies)).length : Int) ≤ _
            rw [(all_set HPt.out hk1).1, List.length_append, List.length_take]
            have := LogS.len_dropLast L' L'.synced L'.mark
            rw [len_all] at this
            have h2 : (((L'.ps.dropLast).flatMap (·.bodies)).length : Int) ≤ L'.len := this
            have := HL'.out
            omega))
          have HT := Lib.hid hT
          clear hT s1 s2 g1 g2 g3 hstop hl' hk1 hm hmt
          go_wp2_with (go_at_call 51; refine HSh.out.mono ?_; rintro e5 w5 ⟨rfl, k5⟩)
          go_ret
          rw [HTr.out, HT.out]
          obtain ⟨kv6, pv6, xs6, h6⟩ := HO'.out.next k5
          exact ⟨rfl, h6.lto⟩
end
end Go.Proofs.YtfjkjndpndjfpaaGreatDoor
/- A whole log is cut: it stays whole; its numbers stay small. -/
set_option linter.unusedVariables false
set_option linter.unusedSimpArgs false
namespace Go.Proofs.YtfjkjndpndjfpaaGreatDoor
open Go Go.RowKit Go.Sort
theorem run_takeS (A : Option Addr) (n cap k : Nat) (hk : k ≤ cap) (W : World) : (Instr.sliceAt 22 (.slice A n cap) none (some (.int .i64 k)) none).run Tryz.prog W = .ok (.slice A k cap) W := by
  have h2 : ((k : Nat) : Int) ≤ cap := by omega
  have h9 : Tryz.prog.elem 22 = 9 := by unfold Program.elem; rw [Tryz.underlying22]
  have he : Tryz.prog.underlying 22 = some (.slice (Tryz.prog.elem 22)) := by rw [h9, Tryz.underlying22]
  have hs : (sizeOf (Tryz.prog.elem 22)).run Tryz.prog W = .ok 1 W := by
    rw [h9]
    simp [go_sem]
  rw [run_sliceAt_slice _ _ _ _ _ _ he, run_slice_h _ _ _ _ _ he _ _ (by omega) h2, hs]
  simp only [Result.andThen, sliced, Int.toNat_natCast, Nat.sub_zero, Nat.zero_mul]
  cases A with
  | none => simp
  | some a => simp [Addr.add]
section
variable {L L' : LogS} {d D D' : DS} {b : Bool} {c M N : Nat}
theorem sumS_app (l m : List ByteArray) : sumS (l ++ m) = sumS l + sumS m := by unfold sumS; rw [List.map_append, List.sum_append]
theorem part_sums {p : PartL} (hp : p ∈ L.ps) : sumS p.bodies ≤ sumS L.all ∧ p.bodies.length ≤ L.all.length := by
  obtain ⟨l1, l2, e⟩ := List.append_of_mem hp
  unfold LogS.all
  rw [e, List.flatMap_append, List.flatMap_cons, sumS_app, sumS_app, List.length_append, List.length_append]
  omega
theorem Whole.smn (h : Whole L D) {N : Nat} (hN : sumS L.all + 13 * L.all.length + 150 ≤ N) : L.SmN N := by
  have hg := h.good
  have h1 := hg.pre
  have h2 := hg.size
  have h3 := hg.few
  refine ⟨by omega, by omega, by omega, by rw [len_all]; omega, fun p hp => ?_⟩
  have h4 := part_sums hp
  rw [hg.used p hp, usedOf_le]
  omega
theorem LogS.popGo_ok (t : Int) (z : Bool) : ∀ (f : Nat) {L : LogS} {d : DS}, d.Ok M → (L.popGo d t z f).2.2.Ok M
  | 0, L, d, h => h
  | f + 1, L, d, h => by
    have h1 := (DS.remove_ok h (nameK L.pre (L.ps.length - 1))).1
    unfold LogS.popGo
    dsimp only
    split
    · split
      · exact h1
      · exact LogS.popGo_ok t z f h1
    · exact h
theorem LogS.shorten_ok (h : d.Ok M) (k r : Int) : (L.shorten d k r).2.2.Ok M := by
  unfold LogS.shorten
  split
  · exact h
  · dsimp only
    split
    · exact (DS.truncate_ok h _ _).1
    · exact (DS.truncate_ok h _ _).1
theorem LogS.truncate_ok (h : d.Ok M) (n : Int) : (L.truncate d n).2.2.Ok M := by
  unfold LogS.truncate
  split
  · exact h
  · split
    · exact h
    · split
      · exact h
      · generalize (if 0 < n then ((L.find (n - 1)).1, (L.find (n - 1)).2 + 1) else ((0 : Int), (0 : Int))) = q
        dsimp only
        have h1 := LogS.popGo_ok (L := L) q.1 (decide (n = 0)) L.ps.length h
        by_cases he : (L.popGo d q.1 (decide (n = 0)) L.ps.length).1 ≠ 0
        · rw [if_pos he]; exact h1
        · rw [if_neg he]
          by_cases h0 : n = 0
          · rw [if_pos h0]; exact h1
          · rw [if_neg h0]; exact LogS.shorten_ok h1 _ _
theorem Whole.truncate (h : Whole L D) {n : Nat} (hn : n ≤ L.all.length) :
    ∃ L' D', L.truncate D n = (0, L', D') ∧ Whole L' D' ∧ L'.all = L.all.take n ∧ L'.pre = L.pre ∧ L'.size = L.size ∧ L'.mark = L.mark ∧ L'.ps.length ≤ L.ps.length := by
  have hg := h.good
  rcases h.mark with ⟨q1, q2, q3⟩ | hm
  · have hg0 : Good L D false 0 := ⟨hg.fine, hg.pre, hg.size, hg.bad, hg.few, by omega, by omega, hg.used, hg.short, hg.done, hg.file, hg.onl⟩
    obtain ⟨L', D', a1, a2, a3, a4, a5⟩ := hg0.truncate hn
    obtain ⟨b1, b2, b3, b4⟩ := a4
    refine ⟨L', D', a1, ⟨a2.up, ?_, .inl ⟨?_, ?_, ?_⟩⟩, a3, b1, b2, b3, a5⟩
    · rw [b1]
      exact (b4 _ (chunkOf_new _)).trans h.new
    · rw [b1]
      exact (b4 _ (chunkOf_mark _)).trans q1
    · rw [b3]
      exact q2
    · have := a2.cnt
      omega
  · obtain ⟨L', D', a1, a2, a3, a4, a5⟩ := hg.truncate hn
    obtain ⟨b1, b2, b3, b4⟩ := a4
    refine ⟨L', D', a1, ⟨a2, ?_, .inr ?_⟩, a3, b1, b2, b3, a5⟩
    · rw [b1]
      exact (b4 _ (chunkOf_new _)).trans h.new
    · rw [b1, b3]
      obtain ⟨f, ms, c1, c2, c3⟩ := hm
      exact ⟨f, ms, (b4 _ (chunkOf_mark _)).trans c1, c2, c3⟩
/-- Of the first ones no more bytes than of all. -/
theorem sumS_le_take (l : List ByteArray) (n : Nat) : sumS (l.take n) ≤ sumS l := by
  conv => rhs; rw [← List.take_append_drop n l]
  rw [sumS_app]
  omega
end
end Go.Proofs.YtfjkjndpndjfpaaGreatDoor
/- Contracts: a chunk is laid whole (chunklog image). -/
set_option linter.unusedVariables false
set_option linter.unusedSimpArgs false
namespace Go.Proofs.YtfjkjndpndjfpaaGreatDoor
open Go Go.RowKit Go.Sort
section
variable {a w w1 w' W : World} {lb db mb M N : Nat} {D0 D D1 D2 d : DS} {L : LogS} {kv pv : Value} {xs : List (Value × PartL)}
theorem putL_le (b : List UInt8) : (putF b).1.length ≤ 4100 := by
  unfold putF
  split
  · simp
  · rw [frameB_len]; omega
set_option maxRecDepth 100000 in
set_option maxHeartbeats 1000000 in
theorem jimage_any (h : LogAt a w lb db mb d L kv pv xs) (k : Int) {v : Value} {l : List ByteArray} (hv : Slc w 1 v l.length (strs l)) (hsm : ∀ s ∈ l, s.size ≤ 1000000) (hl : l.length ≤ 1000000) :
    Calls Tryz.prog 54 #[.pointer (some ⟨lb, 0, none⟩), .int .i64 k, v] w fun e w' => e = .returned (.string (baL (L.image k l))) ∧ Only [] w w' := by
  have c2 := h.cell2
  have HSt := Lib.hid (fun (W : World) => start_any (w := W) k L.size)
  have HFi := Lib.hid (fun (W : World) => finish_any (w := W) k (l.length : Int))
  obtain ⟨VA, vc, rfl⟩ := slc_len hv
  unfold LogS.image
  obtain ⟨⟨sb, se⟩, hst⟩ : ∃ q, startE k L.size = q := ⟨_, rfl⟩
  obtain ⟨⟨fb, fe⟩, hfi⟩ : ∃ q, finE k (l.length : Int) = q := ⟨_, rfl⟩
  have hsl := startE_le k L.size
  have hfl := finE_le k (l.length : Int)
  rw [hst] at HSt hsl ⊢
  rw [hfi] at HFi hfl ⊢
  dsimp only at HSt HFi hsl hfl ⊢
  have hbs : (baL sb).size = sb.length := baL_size sb
  have hbf : (baL fb).size = fb.length := baL_size fb
  have HBf := Lib.hid hbf
  have h0 : (baL sb).size ≤ 33 := by omega
  clear hbs hbf
  have HV := Lib.hid hv
  have HSm := Lib.hid hsm
  obtain ⟨res, hres⟩ : ∃ res, baL (sb ++ ((l.flatMap fun s => (putF (1 :: s.data.toList)).1) ++ fb)) = res := ⟨_, rfl⟩
  rw [hres]
  have HRes := Lib.hid hres
  clear hst hfi h hsm hres
  go_enter Tryz.func54, Tryz.ntmps54
  go_wp2_with (go_at_call 83; refine (HSt.out _).mono ?_; rintro e2 w2 ⟨rfl, k2⟩)
  go_loopw [7, 26] (fun o i wr => ∃ (j : Nat) (O : ByteArray), i = .int .i64 j ∧ j ≤ l.length ∧ o = .string O ∧ O.size ≤ 33 + 4100 * j ∧ Hid (O = baL (sb ++ (l.take j).flatMap fun s => (putF (1 :: s.data.toList)).1)) ∧ Only [] w wr) (fun _ i _ => l.length - (intOf i).toNat)
  case atStart => exact ⟨0, baL sb, rfl, Nat.zero_le _, rfl, by omega, Lib.hid (by simp), k2⟩
  case round =>
    obtain ⟨j, O, rfl, hj, rfl, hOs, hO, k3⟩ := hrel
    by_cases hjl : j < l.length
    · have hdec : decide ((j : Int) < (l.length : Int)) = true := decide_eq_true (by omega)
      obtain ⟨VA', vc', hvv, -, -, hvc⟩ := (HV.out.only0 k3).openS
      injection hvv with y1 y2 y3
      subst y1 y3
      obtain ⟨vb, vo, rfl, hvbl, hvbc⟩ := hvc j hjl
      obtain ⟨s, hs⟩ : ∃ s, l[j] = s := ⟨_, rfl⟩
      have hss : s.size ≤ 1000000 := HSm.out s (by rw [← hs]; exact List.getElem_mem _)
      have htk : l.take (j + 1) = l.take j ++ [s] := by rw [List.take_succ_eq_append_getElem hjl, hs]
      rw [hs] at hvbc
      have HRc := Lib.hid (fun (W : World) => record_any (w := W) s (by omega))
      obtain ⟨⟨rb, re⟩, hr⟩ : ∃ q, putF (1 :: s.data.toList) = q := ⟨_, rfl⟩
      have hrl := putL_le (1 :: s.data.toList)
      rw [hr] at HRc hrl
      dsimp only at HRc hrl
      have hrb : (baL rb).size ≤ 4100 := by rw [baL_size]; exact hrl
      have hcat : ¬(9223372036854775807 < O.size + (baL rb).size) := by omega
      have hcat2 : (O ++ baL rb).size ≤ 33 + 4100 * (j + 1) := by rw [ByteArray.size_append]; omega
      have hO2 : O ++ baL rb = baL (sb ++ (l.take (j + 1)).flatMap fun s => (putF (1 :: s.data.toList)).1) := by
        rw [htk, List.flatMap_append, List.flatMap_cons, hr, hO.out, baL_append]
        simp
      have HO2 := Lib.hid hO2
      have HC2 := Lib.hid hcat2
      clear hs htk hr hO2 hvc y2 hcat2 hrl
      go_wp2_with (go_at_call 69; refine (HRc.out _).mono ?_; rintro e4 w4 ⟨rfl, k4⟩)
      exact ⟨⟨j + 1, O ++ baL rb, by simp, hjl, rfl, HC2.out, HO2, k3.trans k4⟩, by simp [intOf]; omega⟩
    · have hje : j = l.length := by omega
      subst hje
      have hdec : decide ((l.length : Int) < (l.length : Int)) = false := decide_eq_false (by omega)
      have e9 : res = O ++ baL fb := by rw [← HRes.out, hO.out, List.take_length, baL_append, List.append_assoc]
      subst e9
      clear hO HRes
      have hcat : ¬(9223372036854775807 < O.size + (baL fb).size) := by have := HBf.out; omega
      go_wp2_with (go_at_call 85; refine (HFi.out _).mono ?_; rintro e4 w4 ⟨rfl, k4⟩)
      go_ret
      exact ⟨rfl, k3.trans k4⟩
end
end Go.Proofs.YtfjkjndpndjfpaaGreatDoor
/- A chunk is written anew: what the walk asks for. -/
set_option linter.unusedVariables false
set_option linter.unusedSimpArgs false
namespace Go.Proofs.YtfjkjndpndjfpaaGreatDoor
open Go Go.RowKit Go.Sort
theorem DS.Ok.more {d : DS} {M M' : Nat} (h : d.Ok M) (hm : M ≤ M') : d.Ok M' := ⟨h.left, h.files, Nat.le_trans h.bytes hm, h.few, h.nodup, h.short⟩
theorem cloneStrs_any {w : World} {v : Value} {n : Nat} {zs : List ByteArray} (h : Slc w 1 v n (strs zs)) (hb : n * 16 ≤ 140737488355328) :
    Calls Tryz.prog 56 #[v] w fun e w' => ∃ v', e = .returned v' ∧ Slc w' 1 v' n (strs zs) ∧ (∀ g, v'.ownBlock = some g → w.heap.size ≤ g ∧ g < w'.heap.size) ∧ Only [] w w' := by
  obtain ⟨A, cap, rfl, hnc, hcm, hl, hc⟩ := h.cell
  have hzl : zs.length = n := by simpa [strs] using hl
  cases A with
  | none =>
    have hn : n = 0 := by
      rcases hc with h0 | ⟨b, off, h0, _⟩
      · exact h0
      · cases h0
    subst hn
    have hz : zs = [] := List.eq_nil_of_length_eq_zero hzl
    subst hz
    refine (Tryz.slices_Clone_string_nil 0 cap w).mono fun e w' ⟨he, hw⟩ => ?_
    subst hw
    exact ⟨_, he, Slc.nil _ _, by simp [Value.ownBlock], Only.refl _ _⟩
  | some a =>
    rcases hc with h0 | ⟨b, off, h0, hlt, hcell⟩
    · subst h0
      have hz : zs = [] := List.eq_nil_of_length_eq_zero hzl
      subst hz
      refine (Tryz.slices_Clone_string_zero a cap w).mono fun e w' ⟨v', he, hown, _, hbel⟩ => ?_
      obtain ⟨q1, q2⟩ := Slc.of_own hown
      exact ⟨v', he, q1, q2, Only.of_below hbel (Nat.le_refl _)⟩
    · cases h0
      refine (Tryz.slices_Clone_string b off n cap zs w (by omega) hb ?_).mono fun e w' ⟨v', he, hown, _, hbel⟩ => ?_
      · intro j hj
        rw [hcell j (by simpa [strs] using hj)]
        simp [strs, hj]
      · rw [← hzl, List.take_length] at hown
        rw [← hzl]
        obtain ⟨q1, q2⟩ := Slc.of_own hown
        exact ⟨v', he, q1, q2, Only.of_below hbel (Nat.le_refl _)⟩
theorem fitsB_get : ∀ (l m : List ByteArray), LogS.fitsB l m = true → ∀ j, (hj : j < l.length) → (hm : j < m.length) → l[j].size ≤ m[j].size
  | [], m, _, j, hj, _ => by simp at hj
  | s :: l, [], h, j, hj, hm => by simp at hm
  | s :: l, b :: m, h, j, hj, hm => by
    unfold LogS.fitsB at h
    rw [Bool.and_eq_true, decide_eq_true_eq] at h
    cases j with
    | zero => exact h.1
    | succ j => exact fitsB_get l m h.2 j (by simpa using hj) (by simpa using hm)
section
variable {a w W W' w' : World} {lb db mb M : Nat} {d d' : DS} {L L' : LogS} {kv pv kv' pv' : Value} {xs xs' : List (Value × PartL)} {R S : List Nat}
/-- A part that is done has other bodies. -/
theorem LogOn.anew {g n cap j : Nat} (h : LogOn a R w W lb db mb d L kv (.slice (some ⟨g, 0, none⟩) n cap) xs) (hn : n = xs.length) {x : Value × PartL} (hj : xs[j]? = some x) {v : Value} {l : List ByteArray} {u : Int} (k : Only x.1.ownBlock.toList W W')
    (hv : Slc W' 1 v l.length (strs l)) (hg : x.2.done = true) (hy : ∀ q, v.ownBlock = some q → (x.1.ownBlock = some q ∨ W.heap.size ≤ q) ∧ q < W'.heap.size) :
    LogOn a R w ((W'.setCell ⟨g, j * 3, none⟩ v).setCell ⟨g, j * 3 + 1, none⟩ (.int .i64 u)) lb db mb d (L.setPart j ⟨l, u, x.2.done⟩) kv (.slice (some ⟨g, 0, none⟩) n cap) (xs.set j (v, ⟨l, u, x.2.done⟩)) := by
  subst hn
  have hne := h.at_.rowne hj
  have k2 : Only [g] W' ((W'.setCell ⟨g, j * 3, none⟩ v).setCell ⟨g, j * 3 + 1, none⟩ (.int .i64 u)) := ((Only.refl _ _).setCell (.inl (by simp)) _).setCell (.inl (by simp)) _
  have hgl : g < W.heap.size := (h.at_.row.lt g rfl).2
  have hvg : ∀ q, v.ownBlock = some q → q ∉ [g] := fun q hq hm => by
    rw [List.mem_singleton.1 hm] at hq
    rcases (hy g hq).1 with e | e
    · exact hne g e rfl
    · omega
  refine h.part (y := (v, ⟨l, u, x.2.done⟩)) hj ((k.mono (fun q hq => List.mem_cons_of_mem _ hq)).trans (k2.mono (fun q hq => by rw [List.mem_singleton.1 hq]; exact List.mem_cons_self ..))) ?_ (hv.only k2 hvg) (.inl hg) (fun q hq => ⟨(hy q hq).1, ?_⟩)
  · have hr0 := own_only h.at_.row k (fun q hq hm => hne g (by cases hq; simpa using hm) rfl)
    have := ((hr0.stored (j * 3) v).1.stored (j * 3 + 1) (.int .i64 u)).1
    rw [flat_set01 xs j x v u l hj] at this
    exact this
  · have := (hy q hq).2
    have := k2.size
    omega
end
end Go.Proofs.YtfjkjndpndjfpaaGreatDoor
/- Contracts: a chunk is written anew (chunklog Rewrite). -/
set_option linter.unusedVariables false
set_option linter.unusedSimpArgs false
namespace Go.Proofs.YtfjkjndpndjfpaaGreatDoor
open Go Go.RowKit Go.Sort
section
variable {a w w1 w' W W' : World} {lb db mb M N c : Nat} {D0 D D1 D2 d : DS} {L L' : LogS} {kv pv : Value} {xs : List (Value × PartL)} {R S : List Nat}
set_option maxRecDepth 100000 in
set_option maxHeartbeats 2000000 in
theorem jrewrite_any (h : LogAt a w lb db mb d L kv pv xs) (hb : L.bad = 0) (hp : L.pre.size ≤ 20) (hk : d.Ok M) (hM : M ≤ 1000000) {k : Nat} (hk9 : k ≤ 900000) {x : Value × PartL} (hx : xs[k]? = some x) (hd : x.2.done = true)
    {v : Value} {l : List ByteArray} (hv : Slc w 1 v l.length (strs l)) (hvb : ∀ g, v.ownBlock = some g → g ∉ lblk lb db mb kv pv xs) (hll : l.length = x.2.bodies.length) (hfit : LogS.fitsB l x.2.bodies = true) (hsz : ∀ s ∈ l, s.size ≤ 4000) (hn : l.length ≤ 1000) (himg : (L.image k l).length ≤ 1000000) :
    Calls Tryz.prog 25 #[.pointer (some ⟨lb, 0, none⟩), .int .i64 k, v] w fun e w' => e = .returned (.int .i64 (L.rewrite d k l).1) ∧ LTo a lb db mb (lblk lb db mb kv pv xs) w w' (L.rewrite d k l).2 := by
  have hkl : k < xs.length := (List.getElem?_eq_some_iff.1 hx).1
  obtain ⟨g, bc, hpv, hgb, g0, g1, g2⟩ := h.at hkl
  have hxe : xs[k] = x := (List.getElem?_eq_some_iff.1 hx).2
  rw [hxe] at g0 g1 g2
  subst hpv
  obtain ⟨VA, vc, hV⟩ := slc_len (h.part x (List.mem_of_getElem? hx)).1
  have hsl := (h.part _ (List.mem_of_getElem? hx)).1
  obtain ⟨x1, p⟩ := x
  dsimp only at hV g0 g1 g2 hd hll hfit hsl
  subst hV
  obtain ⟨A2, c2, rfl⟩ := slc_len hv
  have hget : L.ps[k]? = some p := by rw [h.ps, List.getElem?_map, hx]; rfl
  have HMy := Lib.hid (jmay_any h.blk)
  rw [hb] at HMy
  have HO := Lib.hid (LogOn.refl h)
  -- the answer
  obtain ⟨res, hres⟩ : ∃ res, L.rewrite d k l = res := ⟨_, rfl⟩
  rw [hres]
  have hrw := hres
  unfold LogS.rewrite at hrw
  rw [hb, if_neg (by simp), if_neg (by omega : ¬(k : Int) < 0), Int.toNat_natCast, hget] at hrw
  dsimp only at hrw
  rw [hd, if_neg (by simp), if_neg (by rw [hfit]; simp [hll])] at hrw
  have HRw := Lib.hid hrw
  have hnb : (newN L.pre).size = L.pre.size + 3 := by unfold newN; rw [ByteArray.size_append]; rfl
  have hcat : ¬(9223372036854775807 < L.pre.size + (⟨#[110, 101, 119]⟩ : ByteArray).size) := by
    have : (⟨#[110, 101, 119]⟩ : ByteArray).size = 3 := rfl
    omega
  have c1 := h.cell1
  have q0 : decide ((k : Int) < 0) = false := decide_eq_false (by omega)
  have q1 : decide (xs.length ≤ k) = false := decide_eq_false (by omega)
  rw [← hll] at g0
  have c3 := h.cell3
  have HV := Lib.hid hv
  have HS := Lib.hid hsl
  have HFit := Lib.hid (fitsB_get l p.bodies hfit)
  have HSz := Lib.hid hsz
  have HLl := Lib.hid hll
  rw [hd] at g2
  have HX := Lib.hid hx
  have HD' := Lib.hid hd
  obtain ⟨R, hR⟩ : ∃ R, lblk lb db mb kv (.slice (some ⟨g, 0, none⟩) xs.length bc) xs = R := ⟨_, rfl⟩
  rw [hR] at HO hvb ⊢
  have HVb := Lib.hid fun (W : World) (k : Only R w W) => hv.only k hvb
  have HK := Lib.hid hk
  have HIm := Lib.hid himg
  have HP := Lib.hid hp
  clear h hx hxe hget hrw hres hfit hsz hll hnb hsl hp hR hvb hk hd himg hv
  go_enter Tryz.func25, Tryz.ntmps25
  go_wp2_with (go_at_call 37; refine HMy.out.mono ?_; rintro e1 w1 ⟨rfl, rfl⟩)
  go_loopw [9, 60] (fun u i wr => ∃ j : Nat, i = .int .i64 j ∧ j ≤ l.length ∧ u = .int .i64 (usedOf (l.take j)) ∧ wr = w1) (fun _ i _ => l.length - (intOf i).toNat)
  case atStart => exact ⟨0, rfl, Nat.zero_le _, rfl, rfl⟩
  case round =>
    obtain ⟨j, rfl, hj, rfl, rfl⟩ := hrel
    by_cases hjl : j < l.length
    · have hdec : decide ((j : Int) < (l.length : Int)) = true := decide_eq_true (by omega)
      have hjp : j < p.bodies.length := by have := HLl.out; omega
      obtain ⟨VA', vc', hvv, -, -, hvc⟩ := HV.out.openS
      injection hvv with y1 y2 y3
      subst y1 y3
      obtain ⟨vb, vo, rfl, hvbl, hvbc⟩ := hvc j hjl
      obtain ⟨VB', vc2, hvv2, -, -, hvc2⟩ := HS.out.openS
      injection hvv2 with z1 z2 z3
      subst z1 z3
      obtain ⟨sb, so, rfl, hsbl, hsbc⟩ := hvc2 j hjp
      have hle := HFit.out j hjl hjp
      obtain ⟨s, hs⟩ : ∃ s, l[j] = s := ⟨_, rfl⟩
      obtain ⟨t, ht⟩ : ∃ t, p.bodies[j] = t := ⟨_, rfl⟩
      have hss : s.size ≤ 4000 := HSz.out s (by rw [← hs]; exact List.getElem_mem _)
      have p1 := usedOf_take l hjl
      rw [hs] at hvbc hle p1
      rw [ht] at hsbc hle
      have hd5 : decide (t.size < s.size) = false := decide_eq_false (by omega)
      have p2 := usedOf_le (l.take j)
      have p3 : sumS (l.take j) ≤ 4000 * j := by
        have : ∀ (m : List ByteArray), (∀ s ∈ m, s.size ≤ 4000) → sumS m ≤ 4000 * m.length := fun m => by
          induction m with
          | nil => intro _; simp [sumS]
          | cons s m ih =>
            intro hm
            have h1 := hm s (by simp)
            have h2 := ih fun t ht => hm t (by simp [ht])
            unfold sumS at h2 ⊢
            simp only [List.map_cons, List.sum_cons, List.length_cons]
            omega
        have h3 := this (l.take j) fun s hs => HSz.out s (List.mem_of_mem_take hs)
        rw [List.length_take] at h3
        omega
      rw [List.length_take] at p2
      have HBy := Lib.hid (fun (W : World) => jbytes_any (w := W) s (by omega))
      obtain ⟨u, hu⟩ : ∃ u, usedOf (l.take j) = u := ⟨_, rfl⟩
      rw [hu] at p1 p2 ⊢
      have e9 := IntWalk.i64_in (u + ((s.size : Int) + 13)) ⟨by omega, by omega⟩
      have HP1 := Lib.hid p1
      clear hs ht hu p1 p2 p3 hvc hvc2 hle
      go_wp2_with (go_at_call 53; refine (HBy.out _).mono ?_; rintro e9 w9 ⟨rfl, rfl⟩)
      go_round
      case rel => exact ⟨j + 1, by simp, hjl, by rw [HP1.out], by trivial⟩
      case measure => simp [intOf]; omega
    · have hje : j = l.length := by omega
      subst hje
      have hdec : decide ((l.length : Int) < (l.length : Int)) = false := decide_eq_false (by omega)
      rw [List.take_length]
      obtain ⟨u, hu⟩ : ∃ u, usedOf l = u := ⟨_, rfl⟩
      rw [hu]
      have HU := Lib.hid hu
      clear hu
      have hrw := HRw.out
      obtain ⟨nm, hnm⟩ : ∃ nm, newN L.pre = nm := ⟨_, rfl⟩
      have hnm2 : L.pre ++ ⟨#[110, 101, 119]⟩ = nm := hnm
      rw [hnm] at hrw
      have hok1 := LogS.drop_ok HK.out nm
      have hD := jdrop_any HO.out.at_.blk HO.out.at_.disk HK.out (by omega) nm
      obtain ⟨⟨e1, d1⟩, hq1⟩ : ∃ q, LogS.drop d nm = q := ⟨_, rfl⟩
      rw [hq1] at hrw hok1 hD
      dsimp only at hrw hok1 hD
      have HD := Lib.hid hD
      have HRw2 := Lib.hid hrw
      have HOk1 := Lib.hid hok1
      clear hnm hrw hok1 hD hq1
      obtain ⟨F, hF⟩ : ∃ F : List (Addr × Value), F = [(⟨lb, 0, none⟩, .pointer (some ⟨db, 0, none⟩))] := ⟨_, rfl⟩
      have hFW : ∀ W : World, W.cell? ⟨lb, 0, none⟩ = some (.pointer (some ⟨db, 0, none⟩)) → ∀ x ∈ F, W.cell? x.1 = some x.2 := fun W h => by rw [hF]; exact hold1 h
      have d0 : ∀ p : Hold F, p.W.cell? ⟨lb, 0, none⟩ = some (.pointer (some ⟨db, 0, none⟩)) := fun p => p.h (_, _) (by rw [hF]; simp)
      have HF := Lib.hid hFW
      have ht0 : L.told 0 = L := by unfold LogS.told; rw [if_neg (by omega)]
      have HT0 := Lib.hid ht0
      clear hF hFW ht0
      by_cases he1 : e1 = 0
      · subst he1
        have hr1 := HRw2.out
        rw [if_neg (by simp)] at hr1
        have hbi : (baL (L.image k l)).size = (L.image k l).length := baL_size _
        have him := HIm.out
        have hok2 := (DS.append_ok HOk1.out nm (baL (L.image k l))).1
        have HSm := Lib.hid (fun s hs => by have := HSz.out s hs; omega : ∀ s ∈ l, s.size ≤ 1000000)
        have HIg := Lib.hid fun (W : World) (D' : DS) (kv' : Value) (h : LogOn a R wr W lb db mb D' L kv' (.slice (some ⟨g, 0, none⟩) xs.length bc) xs) (W2 : World) (k2 : Only [] W W2) => jimage_any (h.only0 k2).at_ (k : Int) ((HVb.out W h.only).only0 k2) HSm.out (by omega)
        obtain ⟨im, himq⟩ : ∃ im, baL (L.image k l) = im := ⟨_, rfl⟩
        rw [himq] at hr1 hbi hok2 HIg
        have HA := fun (W : World) (kv' : Value) (h : DiskAt W db mb d1 kv') => append_any h HOk1.out nm im (by omega)
        obtain ⟨⟨e2, d2⟩, hq2⟩ : ∃ q, d1.append nm im = q := ⟨_, rfl⟩
        rw [hq2] at hr1 hok2 HA
        dsimp only at hr1 hok2 HA
        replace hok2 : d2.Ok (M + 1000000) := hok2.more (by omega)
        have HA := Lib.hid HA
        have HR1 := Lib.hid hr1
        have HOk2 := Lib.hid hok2
        clear hr1 hbi him hok2 himq hq2 HIm HSm
        go_wp2_with (first
          | (go_at_call 33; refine HD.out.mono ?_; rintro e2' w2 ⟨rfl, k2⟩; have HT2 := Lib.hid (told_leads HO.out.at_ k2 0))
          | (go_at_call 44; refine HT2.out.mono ?_; rintro e3' w3 ⟨rfl, k3⟩))
        obtain ⟨kv3, hO3⟩ := HO.out.to k3
        rw [HT0.out] at hO3
        have hO3 : LogOn a R wr w3 lb db mb d1 L kv3 (.slice (some ⟨g, 0, none⟩) xs.length bc) xs := hO3
        have HO3 := Lib.hid hO3
        clear k2 k3 HT2 hO3 HD
        refine wp_region_hold F [0, 1, 2, 3, 4, 5, 6, 7, 8] [9, 10, 11] [12] (HF.out _ HO3.out.at_.cell0) (by kernel_rfl) (by kernel_rfl) (by intro c d u a w h; cases d <;> exact h) ?_
        intro hne
        show wpQuiet _ _ _ _ [_, _, _, _, _, _, _, _, _] _
        repeat (go_big_quiet_step (fail))
        refine wpQuiet_nil ?_
        have kd : Only [] w3 w3.drew := (Only.refl [] w3).drew
        show wpList _ _ _ [_] _ _
        go_wp2_with (go_at_call 54; refine (HIg.out _ _ _ HO3.out _ kd).mono ?_; rintro e4 w4 ⟨rfl, k4⟩)
        have HO4 := Lib.hid (HO3.out.only0 (kd.trans k4))
        refine check_hold (HF.out _ HO4.out.at_.cell0) ?_
        show wpList _ _ _ [_] _ _
        go_wp2_with (go_at_call 45; refine (HA.out _ _ HO4.out.at_.disk).mono ?_; rintro e5 w5 ⟨rfl, k5⟩)
        have HT5 := Lib.hid (told_leads HO4.out.at_ k5 e2)
        obtain ⟨kv5, k5a, k5b, k5c⟩ := HO4.out.at_.leads k5
        refine check_hold (HF.out _ k5a.cell0) ?_
        show wpList _ _ _ [_] _ _
        go_wp2_with (go_at_call 44; refine HT5.out.mono ?_; rintro e6 w6 ⟨rfl, k6⟩)
        obtain ⟨kv6, hO6⟩ := HO4.out.to k6
        refine check_hold (HF.out _ hO6.at_.cell0) ?_
        have HO6 := Lib.hid hO6
        clear k5 k5a k5b k5c k6 hO6 HT5 HA HIg
        show wpList _ _ _ [_] _ _
        by_cases he2 : e2 = 0
        · subst he2
          have hr2 := HR1.out
          rw [if_neg (by simp)] at hr2
          rw [HT0.out] at HO6
          have HS := fun (W : World) (kv' : Value) (h : DiskAt W db mb d2 kv') => sync_any h HOk2.out (by omega) nm
          have hok3 := (DS.sync_ok HOk2.out nm).1
          obtain ⟨⟨e3, d3⟩, hq3⟩ : ∃ q, d2.sync nm = q := ⟨_, rfl⟩
          rw [hq3] at hr2 hok3 HS
          dsimp only at hr2 hok3 HS
          have HS := Lib.hid (HS _ _ HO6.out.at_.disk)
          have HR2 := Lib.hid hr2
          have HOk3 := Lib.hid hok3
          have c0 := HO6.out.at_.cell0
          clear hr2 hok3 hq3
          by_cases he3 : e3 = 0
          · subst he3
            have hr3 := HR2.out
            rw [if_neg (by simp)] at hr3
            have HN := Lib.hid fun (W : World) (kv' : Value) (h : LogOn a R wr W lb db mb d3 L kv' (.slice (some ⟨g, 0, none⟩) xs.length bc) xs) => jname_any h.at_.blk (by have := HP.out; omega) h.at_.tabw (k : Int) (by omega) (by omega)
            obtain ⟨nk, hnk⟩ : ∃ nk, nameK L.pre (k : Int) = nk := ⟨_, rfl⟩
            rw [hnk] at HN hr3
            have HRn := fun (W : World) (kv' : Value) (h : DiskAt W db mb d3 kv') => rename_any h HOk3.out (by omega) nm nk
            obtain ⟨⟨e4, d4⟩, hq4⟩ : ∃ q, d3.rename nm nk = q := ⟨_, rfl⟩
            rw [hq4] at hr3 HRn
            dsimp only at hr3 HRn
            have HRn := Lib.hid HRn
            have HR3 := Lib.hid hr3
            clear hr3 hnk hq4
            go_wp2_with (first
              | (go_at_call 46; refine HS.out.mono ?_; rintro e7 w7 ⟨rfl, k7⟩; have HT7 := Lib.hid (told_leads HO6.out.at_ k7 0))
              | (go_at_call 44; refine HT7.out.mono ?_; rintro e8 w8 ⟨rfl, k8⟩))
            obtain ⟨kv8, hO8⟩ := HO6.out.to k8
            rw [HT0.out] at hO8
            have hO8 : LogOn a R wr w8 lb db mb d3 L kv8 (.slice (some ⟨g, 0, none⟩) xs.length bc) xs := hO8
            have HO8 := Lib.hid hO8
            clear k7 k8 HT7 hO8 HS
            refine wp_region_hold F [0, 1, 2, 3, 4, 5, 6, 7] [8, 9, 10] [11] (HF.out _ HO8.out.at_.cell0) (by kernel_rfl) (by kernel_rfl) (by intro c d u a w h; cases d <;> exact h) ?_
            intro hne
            show wpQuiet _ _ _ _ [_, _, _, _, _, _, _, _] _
            repeat (go_big_quiet_step (fail))
            refine wpQuiet_nil ?_
            have kd : Only [] w8 w8.drew := (Only.refl [] w8).drew
            show wpList _ _ _ [_] _ _
            go_wp2_with (go_at_call 50; refine (HN.out _ _ (HO8.out.only0 kd)).mono ?_; rintro e9 w9 ⟨rfl, k9⟩)
            have HO9 := Lib.hid (HO8.out.only0 (kd.trans k9))
            refine check_hold (HF.out _ HO9.out.at_.cell0) ?_
            show wpList _ _ _ [_] _ _
            go_wp2_with (go_at_call 55; refine (HRn.out _ _ HO9.out.at_.disk).mono ?_; rintro e10 w10 ⟨rfl, k10⟩)
            have HT10 := Lib.hid (told_leads HO9.out.at_ k10 e4)
            obtain ⟨kv10, k10a, k10b, k10c⟩ := HO9.out.at_.leads k10
            refine check_hold (HF.out _ k10a.cell0) ?_
            show wpList _ _ _ [_] _ _
            go_wp2_with (go_at_call 44; refine HT10.out.mono ?_; rintro e11 w11 ⟨rfl, k11⟩)
            obtain ⟨kv11, hO11⟩ := HO9.out.to k11
            refine check_hold (HF.out _ hO11.at_.cell0) ?_
            have HO11 := Lib.hid hO11
            clear k10 k10a k10b k10c k11 hO11 HT10 HRn HN
            show wpList _ _ _ [_] _ _
            by_cases he4 : e4 = 0
            · subst he4
              rw [HT0.out] at HO11
              have hr4 := HR3.out
              rw [if_neg (by simp)] at hr4
              have HR4 := Lib.hid hr4
              clear hr4
              have HO11 : Hid (LogOn a R wr w11 lb db mb d4 L kv11 (.slice (some ⟨g, 0, none⟩) xs.length bc) xs) := HO11
              have HCl := Lib.hid (cloneStrs_any (w := w11) (HVb.out _ HO11.out.only) (by omega))
              obtain ⟨cur, hcur⟩ := own_type HO11.out.at_.row (g := g) rfl
              have HCu := Lib.hid hcur
              clear hcur
              go_wp2_with fail
              refine HCl.out.mono ?_
              rintro e12 w12 ⟨v12, rfl, hs12, hf12, k12⟩
              obtain ⟨A12, c12, rfl⟩ := slc_len hs12
              have hb12 := k12.blk HCu.out (by simp)
              have hA := HO11.out.anew rfl HX.out k12.of_nil hs12 HD'.out (u := u) (fun q hq => ⟨.inr (hf12 q hq).1, (hf12 q hq).2⟩)
              have HA := Lib.hid hA
              have f80 := hb12.free (k * 3)
              have hb13 := hb12.set (k * 3) (.slice A12 l.length c12)
              have f81 := hb13.free (k * 3 + 1)
              obtain ⟨y0, y1, -, -⟩ := (HO11.out.only0 k12).at_.atg HX.out
              have C08 : w12.cell? ⟨g, k * 3, none⟩ = some (.slice VA p.bodies.length vc) := y0
              have C18 : w12.cell? ⟨g, k * 3 + 1, none⟩ = some (.int .i64 p.used) := y1
              have C19 : (w12.setCell ⟨g, k * 3, none⟩ (.slice A12 l.length c12)).cell? ⟨g, k * 3 + 1, none⟩ = some (.int .i64 p.used) := by
                rw [← C18, hb13.cell, hb12.cell, Array.getElem?_setIfInBounds, if_neg (by omega)]
              clear hs12 hf12 hb13 hA HCl y0 y1
              go_wp2
              go_ret
              rw [← HR4.out]
              refine ⟨rfl, ?_⟩
              have hl := HA.out.lto
              rw [HD'.out] at hl
              rw [HU.out]
              exact hl
            · have hr4 := HR3.out
              rw [if_pos he4] at hr4
              have HR4 := Lib.hid hr4
              go_wp2
              go_ret
              rw [← HR4.out]
              exact ⟨rfl, HO11.out.lto⟩
          · have hr3 := HR2.out
            rw [if_pos he3] at hr3
            have HR3 := Lib.hid hr3
            clear hr3
            go_wp2_with (first
              | (go_at_call 46; refine HS.out.mono ?_; rintro e7 w7 ⟨rfl, k7⟩; have HT7 := Lib.hid (told_leads HO6.out.at_ k7 e3))
              | (go_at_call 44; refine HT7.out.mono ?_; rintro e8 w8 ⟨rfl, k8⟩))
            go_ret
            obtain ⟨kv8, hO8⟩ := HO6.out.to k8
            rw [← HR3.out]
            exact ⟨rfl, hO8.lto⟩
        · have hr2 := HR1.out
          rw [if_pos he2] at hr2
          have HR2 := Lib.hid hr2
          go_wp2
          go_ret
          rw [← HR2.out]
          exact ⟨rfl, HO6.out.lto⟩
      · have HR1 := HRw2.out
        rw [if_pos he1] at HR1
        have HR1 := Lib.hid HR1
        go_wp2_with (first
          | (go_at_call 33; refine HD.out.mono ?_; rintro e2 w2 ⟨rfl, k2⟩; have HT2 := Lib.hid (told_leads HO.out.at_ k2 e1))
          | (go_at_call 44; refine HT2.out.mono ?_; rintro e3 w3 ⟨rfl, k3⟩))
        go_ret
        obtain ⟨kv3, h3⟩ := HO.out.to k3
        rw [← HR1.out]
        exact ⟨rfl, h3.lto⟩
end
end Go.Proofs.YtfjkjndpndjfpaaGreatDoor
/- Logs, plain: a chunk is written anew, and the power may go. No program is named. -/
set_option linter.unusedVariables false
set_option linter.unusedSimpArgs false
namespace Go.Proofs.YtfjkjndpndjfpaaGreatDoor
open Go.RowKit
theorem nodup_sub {α : Type} [DecidableEq α] : ∀ (l m : List α), l.Nodup → (∀ x ∈ l, x ∈ m) → l.length ≤ m.length
  | [], m, _, _ => Nat.zero_le _
  | x :: l, m, hn, h => by
    rw [List.nodup_cons] at hn
    have hx := h x (by simp)
    have h2 : ∀ y ∈ l, y ∈ m.erase x := fun y hy => by
      have hne : y ≠ x := fun e => hn.1 (by rw [← e]; exact hy)
      exact (List.mem_erase_of_ne hne).2 (h y (by simp [hy]))
    have := nodup_sub l (m.erase x) hn.2 h2
    rw [List.length_erase_of_mem hx] at this
    have := List.length_pos_of_mem hx
    simp only [List.length_cons]
    omega
theorem aget_some_iff {fs : Files} {n : ByteArray} : (aget fs n).isSome = true ↔ n ∈ fs.map (·.1) := by
  have := aget_none (l := fs) (k := n)
  constructor
  · intro h
    apply Classical.byContradiction
    intro q
    rw [this.2 q] at h
    cases h
  · intro h
    cases hq : aget fs n with
    | none => exact absurd h (this.1 hq)
    | some _ => rfl
theorem fs_len {l m : Files} (hl : ANodup l) (h : ∀ n, (aget l n).isSome = true → (aget m n).isSome = true) : l.length ≤ m.length := by
  have hn : (l.map (fun p => p.1)).Nodup := hl
  have := nodup_sub (l.map (fun p => p.1)) (m.map (fun p => p.1)) hn (fun x hx => aget_some_iff.1 (h x (aget_some_iff.2 hx)))
  simpa using this
/-- Files that are the same but for the new one. -/
structure NewOnly (p : ByteArray) (fs fs' : Files) : Prop where
  nd : ANodup fs'
  same : ∀ n, n ≠ newN p → aget fs' n = aget fs n
theorem NewOnly.put {p : ByteArray} {fs fs' : Files} (h : NewOnly p fs fs') (f : File) : NewOnly p fs (aput fs' (newN p) f) :=
  ⟨aput_nodup h.nd _ _, fun n hn => by rw [aget_aput, if_neg (fun e => hn e.symm)]; exact h.same n hn⟩
theorem NewOnly.del {p : ByteArray} {fs fs' : Files} (h : NewOnly p fs fs') : NewOnly p fs (adel fs' (newN p)) :=
  ⟨adel_nodup h.nd _, fun n hn => by rw [aget_adel h.nd, if_neg (fun e => hn e.symm)]; exact h.same n hn⟩
theorem crash_new {p : ByteArray} {fs0 : Files} (hfirm : ∀ n f, aget fs0 n = some f → f.lasts = f.b.size ∧ f.known = true) : ∀ (l : List ByteArray) (ks : List Int) {fs : Files}, NewOnly p fs0 fs → NewOnly p fs0 (DS.crashAll fs l ks)
  | [], _, _, h => h
  | s :: l, ks, fs, h => by
    unfold DS.crashAll
    refine crash_new hfirm l ks.tail ?_
    have hk : 0 ≤ max (ks.headD 0) 0 := by omega
    obtain ⟨k, hke⟩ : ∃ k, max (ks.headD 0) 0 = k := ⟨_, rfl⟩
    rw [hke] at hk ⊢
    by_cases e : s = newN p
    · subst e
      unfold DS.crashOne
      dsimp only
      split
      · exact h.put _
      · exact (h.put _).del
    · have ha := h.same s e
      cases hq : aget fs0 s with
      | some f =>
        rw [hq] at ha
        rw [crashOne_firm ha (hfirm s f hq).1 (hfirm s f hq).2 hk]
        exact h
      | none =>
        rw [hq] at ha
        have e1 : DS.crashOne fs s k = adel (aput fs s (DS.crashFile File.zero k)) s := by
          unfold DS.crashOne
          dsimp only
          rw [ha]
          have : (DS.crashFile File.zero k).known = false := by
            unfold DS.crashFile File.zero
            dsimp only
            have e0 : (0 : Int) + min k (((⟨#[]⟩ : ByteArray).size : Int) - 0) = 0 := by
              have : (⟨#[]⟩ : ByteArray).size = 0 := rfl
              omega
            rw [e0]
            rfl
          rw [Option.getD_none, this, if_neg (by simp)]
        rw [e1, adel_aput_none _ ha]
        exact h
section
variable {L : LogS} {D D0 : DS} {b : Bool} {c : Nat}
theorem Whole.of_aget (h : Whole L D0) (hf : Fine D) (ha : ∀ n, aget D.fs n = aget D0.fs n) : Whole L D := by
  have hlen : D.fs.length = D0.fs.length := Nat.le_antisymm (fs_len hf.nd (fun n hn => by rw [← ha n]; exact hn)) (fs_len h.good.fine.nd (fun n hn => by rw [ha n]; exact hn))
  have hg := h.good
  refine ⟨⟨hf, hg.pre, hg.size, hg.bad, hg.few, by rw [hlen]; exact hg.cnt, hg.cle, hg.used, hg.short, hg.done, fun k p hp => ?_, fun n f k hn hk => hg.onl n f k (by rw [← ha n]; exact hn) hk⟩, (ha _).trans h.new, ?_⟩
  · obtain ⟨f, h1, h2⟩ := hg.file k p hp
    exact ⟨f, (ha _).trans h1, h2⟩
  · rcases h.mark with ⟨q1, q2, q3⟩ | ⟨f, ms, q1, q2, q3⟩
    · exact .inl ⟨(ha _).trans q1, q2, by rw [hlen]; exact q3⟩
    · exact .inr ⟨f, ms, (ha _).trans q1, q2, q3⟩
/-- A log whose new file may be there still is opened: it is as it was. -/
theorem Whole.openNew (h : Whole L D0) (hf : Fine D) (hn : NewOnly L.pre D0.fs D.fs) : ∃ D', LogS.openL D L.pre L.size = (0, ⟨L.pre, L.size, L.ps, L.len, L.mark, 0⟩, D') ∧ Whole ⟨L.pre, L.size, L.ps, L.len, L.mark, 0⟩ D' := by
  cases hq : aget D.fs (newN L.pre) with
  | none =>
    refine (h.of_aget hf (fun n => ?_)).openL
    by_cases e : n = newN L.pre
    · rw [e, hq, h.new]
    · exact hn.same n e
  | some f =>
    have hrm := hf.remove h.good.okNew hq
    have hW : Whole L { D with fs := adel D.fs (newN L.pre) } := h.of_aget (hf.del _) (fun n => by
      show aget (adel D.fs (newN L.pre)) n = _
      rw [aget_adel hf.nd]
      by_cases e : newN L.pre = n
      · rw [if_pos e, ← e, h.new]
      · rw [if_neg e]
        exact hn.same n (fun q => e q.symm))
    obtain ⟨D', h1, h2⟩ := hW.openL
    have hd1 : LogS.drop D (newN L.pre) = (0, { D with fs := adel D.fs (newN L.pre) }) := by
      unfold LogS.drop
      rw [hrm, if_pos (by simp)]
    have hd2 : LogS.drop { D with fs := adel D.fs (newN L.pre) } (newN L.pre) = (0, { D with fs := adel D.fs (newN L.pre) }) := by
      unfold LogS.drop
      rw [hW.good.fine.remove_none hW.good.okNew hW.new]
      rfl
    refine ⟨D', ?_, h2⟩
    have hg := h.good
    have harg : LogS.openArg L.pre L.size = true := by
      unfold LogS.openArg
      rw [decide_eq_true hg.pre.1, decide_eq_true hg.pre.2, decide_eq_true hg.size.1, decide_eq_true hg.size.2]
      rfl
    rw [← h1]
    unfold LogS.openL
    rw [hd1, hd2, harg]
    rfl
theorem Good.edit (h : Good L D0 b c) {k : Nat} {p q : PartL} (hp : L.ps[k]? = some p) (hu : q.used = usedOf q.bodies) (hs : ∀ s ∈ q.bodies, s.size ≤ 3999) (hd : q.done = p.done) (hf : Fine D) (hl : D.fs.length ≤ L.ps.length + c)
    (hfile : ∃ f, aget D.fs (nameK L.pre k) = some f ∧ f.b = baL (imageB k L.size q.bodies q.done)) (ha : ∀ n, n ≠ nameK L.pre k → n ≠ newN L.pre → aget D.fs n = aget D0.fs n) (s m : Int) : Good ⟨L.pre, L.size, L.ps.set k q, s, m, L.bad⟩ D b c := by
  have hkl : k < L.ps.length := (List.getElem?_eq_some_iff.1 hp).1
  have hk9 : k ≤ 999999 := by have := h.few; omega
  have hset : ∀ x ∈ L.ps.set k q, x = q ∨ x ∈ L.ps := fun x hx => by
    rcases List.mem_or_eq_of_mem_set hx with e | e
    · exact .inr e
    · exact .inl e
  refine ⟨hf, h.pre, h.size, h.bad, ?_, ?_, h.cle, fun x hx => ?_, fun x hx => ?_, fun j x hj => ?_, fun j x hj => ?_, fun n g j hg hj => ?_⟩
  · show (L.ps.set k q).length ≤ 150
    rw [List.length_set]
    exact h.few
  · show D.fs.length ≤ (L.ps.set k q).length + c
    rw [List.length_set]
    exact hl
  · rcases hset x hx with rfl | e
    · exact hu
    · exact h.used x e
  · rcases hset x hx with rfl | e
    · exact hs
    · exact h.short x e
  · have hj : (L.ps.set k q)[j]? = some x := hj
    show x.done = (decide (j + 1 < (L.ps.set k q).length) || b)
    rw [List.getElem?_set] at hj
    rw [List.length_set]
    by_cases e : k = j
    · subst e
      rw [if_pos rfl, if_pos hkl] at hj
      injection hj with hj
      rw [← hj, hd]
      exact h.done k p hp
    · rw [if_neg e] at hj
      exact h.done j x hj
  · have hj : (L.ps.set k q)[j]? = some x := hj
    show ∃ g, aget D.fs (nameK L.pre j) = some g ∧ g.b = baL (imageB j L.size x.bodies x.done)
    rw [List.getElem?_set] at hj
    by_cases e : k = j
    · subst e
      rw [if_pos rfl, if_pos hkl] at hj
      injection hj with hj
      subst hj
      exact hfile
    · rw [if_neg e] at hj
      have hj2 := (List.getElem?_eq_some_iff.1 hj).1
      have hj9 : j ≤ 999999 := by have := h.few; omega
      rw [ha _ (fun q => e (name_inj hj9 hk9 q).symm) (name_ne_new L.pre hj9)]
      exact h.file j x hj
  · show j < ((L.ps.set k q).length : Int)
    rw [List.length_set]
    have hj : chunkOf L.pre n = some j := hj
    by_cases e : n = nameK L.pre k
    · rw [e, chunkOf_name L.pre hk9] at hj
      injection hj with hj
      omega
    · have hg : aget D.fs n = some g := hg
      rw [ha n e (fun q => by rw [q, chunkOf_new] at hj; cases hj)] at hg
      exact h.onl n g j hg hj
theorem image_eq (h : Good L D b c) {k : Nat} (hk : k ≤ 999999) {l : List ByteArray} (hl : ∀ s ∈ l, s.size ≤ 3999) : L.image k l = imageB k L.size l true := by
  have e : (l.flatMap fun s => (putF (1 :: s.data.toList)).1) = recsB l := by
    unfold recsB
    induction l with
    | nil => rfl
    | cons s l ih =>
      rw [List.flatMap_cons, List.flatMap_cons, putF_rec (hl s (by simp)), ih (fun t ht => hl t (by simp [ht]))]
  unfold LogS.image imageB
  rw [startE_ok ⟨by omega, by omega⟩ h.size, finE_ok ⟨by omega, by omega⟩ (by omega), e]
  rfl
/-- A disk that may lose its power, with all but the new file lasting. -/
structure Risky (p : ByteArray) (fs0 : Files) (D : DS) : Prop where
  on : D.on = true
  room : D.room ≤ 0
  only : NewOnly p fs0 D.fs
theorem Risky.down {p : ByteArray} {fs0 : Files} {D : DS} (h : Risky p fs0 D) (hfirm : ∀ n f, aget fs0 n = some f → f.lasts = f.b.size ∧ f.known = true) (hg : D.goes = true) : D.doneE = 14 ∧ D.done.on = false ∧ NewOnly p fs0 D.done.fs ∧ D.done.room = D.room := by
  refine ⟨by unfold DS.doneE; rw [hg]; rfl, ?_⟩
  unfold DS.done
  rw [hg, if_pos rfl]
  unfold DS.crash
  rw [DS.tick_on, h.on, if_pos rfl]
  refine ⟨rfl, ?_, DS.tick_room D⟩
  show NewOnly p fs0 (DS.crashAll D.tick.fs D.tick.names D.keep)
  rw [DS.tick_fs]
  exact crash_new hfirm _ _ h.only
theorem Risky.up {p : ByteArray} {fs0 : Files} {D : DS} (h : Risky p fs0 D) (hg : D.goes = false) : D.doneE = 0 ∧ D.done.fs = D.fs ∧ Risky p fs0 D.done := by
  have e : D.done = D.tick := by unfold DS.done; rw [hg]; rfl
  refine ⟨by unfold DS.doneE; rw [hg]; rfl, by rw [e, DS.tick_fs], ?_⟩
  rw [e]
  exact ⟨(DS.tick_on D).trans h.on, by rw [DS.tick_room]; exact h.room, by rw [DS.tick_fs]; exact h.only⟩
theorem Risky.put {p : ByteArray} {fs0 : Files} {D : DS} (h : Risky p fs0 D) (f : File) : Risky p fs0 { D with fs := aput D.fs (newN p) f } := ⟨h.on, h.room, h.only.put f⟩
theorem Risky.may1 {p : ByteArray} {fs0 : Files} {D : DS} (h : Risky p fs0 D) {n : ByteArray} (hn : okName n) : D.may [n] = 0 := by
  unfold DS.may
  rw [h.on, if_pos rfl]
  simp [mayAll, ok_bad hn]
theorem Risky.may2 {p : ByteArray} {fs0 : Files} {D : DS} (h : Risky p fs0 D) {m n : ByteArray} (hm : okName m) (hn : okName n) : D.may [m, n] = 0 := by
  unfold DS.may
  rw [h.on, if_pos rfl]
  simp [mayAll, ok_bad hn, ok_bad hm]
/-- Rewrite, whenever the power goes: it is as it was, or anew. -/
theorem Whole.rewrite (h : Whole L D0) (hfirm : Firm D0) {D : DS} (hr : Risky L.pre D0.fs D) (hfs : D.fs = D0.fs) {p : PartL} {k : Nat} (hp : L.ps[k]? = some p) (hd : p.done = true) {l : List ByteArray} (hl : l.length = p.bodies.length) (hfit : LogS.fitsB l p.bodies = true) :
    (∃ D', L.rewrite D k l = (0, ⟨L.pre, L.size, L.ps.set k ⟨l, usedOf l, true⟩, L.synced, L.mark, L.bad⟩, D') ∧ D'.on = true ∧ D'.room ≤ 0 ∧ ANodup D'.fs ∧ ∀ D2 : DS, Fine D2 → D2.fs = D'.fs → Whole ⟨L.pre, L.size, L.ps.set k ⟨l, usedOf l, true⟩, L.synced, L.mark, L.bad⟩ D2) ∨
    (∃ L' D', L.rewrite D k l = (14, L', D') ∧ D'.on = false ∧ D'.room ≤ 0 ∧ NewOnly L.pre D0.fs D'.fs) := by
  have hg := h.good
  have hkl : k < L.ps.length := (List.getElem?_eq_some_iff.1 hp).1
  have hk9 : k ≤ 999999 := by have := hg.few; omega
  have hfits : ∀ (l m : List ByteArray), LogS.fitsB l m = true → (∀ s ∈ m, s.size ≤ 3999) → ∀ s ∈ l, s.size ≤ 3999 := by
    intro l
    induction l with
    | nil => intro m _ _ s hs; cases hs
    | cons s l ih =>
      intro m hm h9 t ht
      cases m with
      | nil => cases hm
      | cons b m =>
        unfold LogS.fitsB at hm
        rw [Bool.and_eq_true, decide_eq_true_eq] at hm
        rcases List.mem_cons.1 ht with rfl | ht
        · have := h9 b (by simp); omega
        · exact ih m hm.2 (fun x hx => h9 x (by simp [hx])) t ht
  have hl9 : ∀ s ∈ l, s.size ≤ 3999 := hfits l p.bodies hfit (hg.short p (List.mem_of_getElem? hp))
  have himg := image_eq hg hk9 hl9
  have hno : aget D.fs (newN L.pre) = none := by rw [hfs]; exact h.new
  have hrm : D.remove (newN L.pre) = (8, D) := by
    unfold DS.remove DS.find
    rw [hr.may1 hg.okNew, if_pos rfl, hno]
    simp
  have hdrop : LogS.drop D (newN L.pre) = (0, D) := by
    unfold LogS.drop
    rw [hrm]
    rfl
  have hfull : ∀ z, D.full (newN L.pre) z = false := fun z => by
    unfold DS.full
    have := hr.room
    have := hg.cnt
    have := hg.few
    rw [hno, decide_eq_false (by rw [hfs]; omega : ¬200 ≤ D.fs.length), decide_eq_false (by omega : ¬0 < D.room)]
    rfl
  obtain ⟨f1, hf1⟩ : ∃ f1 : File, f1 = { D.get (newN L.pre) with b := (D.get (newN L.pre)).b ++ baL (L.image k l) } := ⟨_, rfl⟩
  have hgz : D.get (newN L.pre) = File.zero := by unfold DS.get; rw [hno]; rfl
  have hf1b : f1.b = baL (imageB k L.size l true) := by
    rw [hf1, hgz, himg]
    apply bts_injL
    simp [File.zero, baL]
  obtain ⟨D1, hD1⟩ : ∃ D1 : DS, D1 = { D with fs := aput D.fs (newN L.pre) f1 } := ⟨_, rfl⟩
  have hr1 : Risky L.pre D0.fs D1 := by rw [hD1]; exact hr.put f1
  have hap : D.append (newN L.pre) (baL (L.image k l)) = (D1.doneE, D1.done) := by
    unfold DS.append
    rw [hr.may1 hg.okNew, if_neg (by simp), hfull, if_neg (by simp)]
    dsimp only
    rw [← hf1, ← hD1]
  have hbegin : L.rewrite D k l = (
      if D1.doneE ≠ 0 then (D1.doneE, L.told D1.doneE, D1.done)
      else
        let c := D1.done.sync (newN L.pre)
        if c.1 ≠ 0 then (c.1, L.told c.1, c.2)
        else
          let d := c.2.rename (newN L.pre) (nameK L.pre k)
          if d.1 ≠ 0 then (d.1, L.told d.1, d.2)
          else (0, L.setPart k { p with bodies := l, used := usedOf l }, d.2)) := by
    unfold LogS.rewrite
    rw [hg.bad, if_neg (by simp), if_neg (by omega : ¬(k : Int) < 0), Int.toNat_natCast, hp]
    dsimp only
    rw [hd, if_neg (by simp), if_neg (by rw [hfit]; simp [hl]), hdrop]
    dsimp only
    rw [if_neg (by simp), hap]
  rw [hbegin]
  cases g1 : D1.goes with
  | true =>
    obtain ⟨a1, a2, a3, a4⟩ := hr1.down hfirm g1
    right
    rw [a1, if_pos (by decide)]
    exact ⟨_, _, rfl, a2, by rw [a4]; exact hr1.room, a3⟩
  | false =>
    obtain ⟨a1, a2, a3⟩ := hr1.up g1
    rw [a1, if_neg (by simp)]
    obtain ⟨E, hE⟩ : ∃ E, D1.done = E := ⟨_, rfl⟩
    rw [hE] at a2 a3 ⊢
    have hEf : aget E.fs (newN L.pre) = some f1 := by
      rw [a2, hD1]
      show aget (aput D.fs _ _) _ = _
      rw [aget_aput, if_pos rfl]
    have hEg : E.get (newN L.pre) = f1 := by unfold DS.get; rw [hEf]; rfl
    have hEfind : (E.find (newN L.pre)).2 = 0 := by
      unfold DS.find
      rw [a3.may1 hg.okNew, if_pos rfl, hEf]
      rfl
    cases g2 : E.goes with
    | true =>
      obtain ⟨b1, b2, b3, b4⟩ := a3.down hfirm g2
      right
      have hsy : E.sync (newN L.pre) = (14, E.done) := by
        unfold DS.sync
        rw [hEfind, if_neg (by simp), b1, if_pos (by decide)]
      rw [hsy]
      dsimp only
      rw [if_pos (by decide)]
      exact ⟨_, _, rfl, b2, by rw [b4]; exact a3.room, b3⟩
    | false =>
      obtain ⟨b1, b2, b3⟩ := a3.up g2
      obtain ⟨f2, hf2⟩ : ∃ f2 : File, f2 = ⟨f1.b, f1.b.size, true⟩ := ⟨_, rfl⟩
      obtain ⟨G, hG⟩ : ∃ G : DS, G = { E.done with fs := aput E.done.fs (newN L.pre) f2 } := ⟨_, rfl⟩
      have hrG : Risky L.pre D0.fs G := by rw [hG]; exact b3.put f2
      have hsy : E.sync (newN L.pre) = (0, G) := by
        unfold DS.sync
        rw [hEfind, if_neg (by simp), b1, if_neg (by simp), hEg, ← hf2, ← hG]
      rw [hsy]
      dsimp only
      rw [if_neg (by simp)]
      have hGf : aget G.fs (newN L.pre) = some f2 := by
        rw [hG]
        show aget (aput E.done.fs _ _) _ = _
        rw [aget_aput, if_pos rfl]
      have hGg : G.get (newN L.pre) = f2 := by unfold DS.get; rw [hGf]; rfl
      have hGfind : (G.find (newN L.pre)).2 = 0 := by
        unfold DS.find
        rw [hrG.may1 hg.okNew, if_pos rfl, hGf]
        rfl
      cases g3 : G.goes with
      | true =>
        obtain ⟨c1, c2, c3, c4⟩ := hrG.down hfirm g3
        right
        have hrn : G.rename (newN L.pre) (nameK L.pre k) = (14, G.done) := by
          unfold DS.rename
          rw [hrG.may2 hg.okNew (hg.name hk9), if_neg (by simp), hGfind, if_neg (by simp), c1, if_pos (by decide)]
        rw [hrn]
        dsimp only
        rw [if_pos (by decide)]
        exact ⟨_, _, rfl, c2, by rw [c4]; exact hrG.room, c3⟩
      | false =>
        obtain ⟨c1, c2, c3⟩ := hrG.up g3
        left
        have hrn : G.rename (newN L.pre) (nameK L.pre k) = (0, { G.done with fs := aput (adel G.done.fs (newN L.pre)) (nameK L.pre k) f2 }) := by
          unfold DS.rename
          rw [hrG.may2 hg.okNew (hg.name hk9), if_neg (by simp), hGfind, if_neg (by simp), c1, if_neg (by simp), hGg]
        rw [hrn]
        dsimp only
        rw [if_neg (by simp)]
        have hnd : ANodup (aput (adel G.done.fs (newN L.pre)) (nameK L.pre k) f2) := aput_nodup (adel_nodup c3.only.nd _) _ _
        have hag : ∀ n, aget (aput (adel G.done.fs (newN L.pre)) (nameK L.pre k) f2) n = if nameK L.pre k = n then some f2 else aget D0.fs n := fun n => by
          rw [aget_aput]
          by_cases e : nameK L.pre k = n
          · rw [if_pos e, if_pos e]
          · rw [if_neg e, if_neg e, aget_adel c3.only.nd]
            by_cases e2 : newN L.pre = n
            · rw [if_pos e2, ← e2, h.new]
            · rw [if_neg e2]
              exact c3.only.same n (fun q => e2 q.symm)
        obtain ⟨f0, hf0, _⟩ := hg.file k p hp
        have hlen : (aput (adel G.done.fs (newN L.pre)) (nameK L.pre k) f2).length ≤ D0.fs.length := fs_len hnd (fun n hn => by
          rw [hag n] at hn
          by_cases e : nameK L.pre k = n
          · rw [← e, hf0]; rfl
          · rw [if_neg e] at hn; exact hn)
        refine ⟨{ G.done with fs := aput (adel G.done.fs (newN L.pre)) (nameK L.pre k) f2 }, by
          have e : (⟨l, usedOf l, true⟩ : PartL) = { p with bodies := l, used := usedOf l } := by rw [← hd]
          rw [e]
          rfl, c3.on, c3.room, hnd, fun D2 hf2' hfs2 => ?_⟩
        have hfs2 : D2.fs = aput (adel G.done.fs (newN L.pre)) (nameK L.pre k) f2 := hfs2
        refine ⟨hg.edit hp (q := ⟨l, usedOf l, true⟩) rfl hl9 hd.symm hf2' ?_ ?_ ?_ L.synced L.mark, ?_, ?_⟩
        · rw [hfs2]
          have := hg.cnt
          omega
        · refine ⟨f2, by rw [hfs2, hag, if_pos rfl], ?_⟩
          rw [hf2]
          exact hf1b
        · intro n hn1 hn2
          rw [hfs2, hag, if_neg (fun q => hn1 q.symm)]
        · show aget D2.fs (newN L.pre) = none
          rw [hfs2, hag, if_neg (name_ne_new L.pre hk9)]
          exact h.new
        · have hmk : aget D2.fs (markN L.pre) = aget D0.fs (markN L.pre) := by rw [hfs2, hag, if_neg (name_ne_mark L.pre hk9)]
          rcases h.mark with ⟨q1, q2, q3⟩ | ⟨f, ms, q1, q2, q3⟩
          · refine .inl ⟨hmk.trans q1, q2, ?_⟩
            show D2.fs.length ≤ (L.ps.set k _).length
            rw [hfs2, List.length_set]
            omega
          · exact .inr ⟨f, ms, hmk.trans q1, q2, q3⟩
end
end Go.Proofs.YtfjkjndpndjfpaaGreatDoor
/- A chunk is written anew: what stands on the disk before and behind; SameTexts of any texts; a text's first bytes. -/
set_option linter.unusedVariables false
set_option linter.unusedSimpArgs false
namespace Go.Proofs.YtfjkjndpndjfpaaGreatDoor
open Go Go.RowKit Go.Sort
theorem nodup_full {α : Type} [DecidableEq α] {l m : List α} (hl : l.Nodup) (h : ∀ x ∈ l, x ∈ m) (hm : m.length ≤ l.length) : ∀ x ∈ m, x ∈ l := fun x hx => by
  apply Classical.byContradiction
  intro hn
  have h2 : ∀ y ∈ l, y ∈ m.erase x := fun y hy => (List.mem_erase_of_ne (fun e => hn (by rw [← e]; exact hy))).2 (h y hy)
  have h3 := nodup_sub l (m.erase x) hl h2
  rw [List.length_erase_of_mem hx] at h3
  have := List.length_pos_of_mem hx
  omega
def namesK (p : ByteArray) (n : Nat) : List ByteArray := (List.range n).map (fun k => nameK p (k : Nat))
theorem namesK_nodup (p : ByteArray) {n : Nat} (hn : n ≤ 999999) : (namesK p n).Nodup := by
  unfold namesK
  refine List.nodup_iff_pairwise_ne.2 (List.pairwise_map.2 ?_)
  refine List.Pairwise.imp_of_mem ?_ (List.nodup_iff_pairwise_ne.1 List.nodup_range)
  intro a b ha hb hab e
  rw [List.mem_range] at ha hb
  exact hab (name_inj (p := p) (by omega) (by omega) e)
section
variable {L : LogS} {D D0 : DS} {M : Nat}
/-- The files of a whole log: its chunks, and the chaser's. -/
theorem Whole.names (h : Whole L D) {n : ByteArray} (hn : (aget D.fs n).isSome = true) : (∃ k : Nat, k < L.ps.length ∧ n = nameK L.pre k) ∨ n = markN L.pre := by
  have hg := h.good
  have hfew := hg.few
  have hin : ∀ x ∈ namesK L.pre L.ps.length, x ∈ D.fs.map (·.1) := fun x hx => by
    obtain ⟨k, hk, rfl⟩ := List.mem_map.1 hx
    rw [List.mem_range] at hk
    obtain ⟨f, hf, -⟩ := hg.file k _ (List.getElem?_eq_getElem hk)
    exact aget_some_iff.1 (by rw [hf]; rfl)
  have hlen : (namesK L.pre L.ps.length).length = L.ps.length := by simp [namesK]
  rcases h.mark with ⟨q1, q2, q3⟩ | ⟨f, ms, q1, q2, q3⟩
  · have := nodup_full (namesK_nodup L.pre (n := L.ps.length) (by omega)) hin (by rw [List.length_map, hlen]; exact q3) n (aget_some_iff.1 hn)
    obtain ⟨k, hk, rfl⟩ := List.mem_map.1 this
    exact .inl ⟨k, List.mem_range.1 hk, rfl⟩
  · have hnd : (markN L.pre :: namesK L.pre L.ps.length).Nodup := by
      refine List.nodup_cons.2 ⟨fun hx => ?_, namesK_nodup L.pre (n := L.ps.length) (by omega)⟩
      obtain ⟨k, hk, e⟩ := List.mem_map.1 hx
      rw [List.mem_range] at hk
      exact name_ne_mark L.pre (k := k) (by omega) e
    have hin2 : ∀ x ∈ markN L.pre :: namesK L.pre L.ps.length, x ∈ D.fs.map (·.1) := fun x hx => by
      rcases List.mem_cons.1 hx with rfl | hx
      · exact aget_some_iff.1 (by rw [q1]; rfl)
      · exact hin x hx
    have := nodup_full hnd hin2 (by rw [List.length_map, List.length_cons, hlen]; exact hg.cnt) n (aget_some_iff.1 hn)
    rcases List.mem_cons.1 this with e | hx
    · exact .inr e
    · obtain ⟨k, hk, rfl⟩ := List.mem_map.1 hx
      exact .inl ⟨k, List.mem_range.1 hk, rfl⟩
theorem prefix_app (a b c : List UInt8) : (a ++ b).isPrefixOf (a ++ c) = b.isPrefixOf c := by
  induction a with
  | nil => rfl
  | cons x a ih => simp [List.isPrefixOf, ih]
theorem Whole.noneNew (h : Whole L D) : D.list (newN L.pre) = [] := by
  have hg := h.good
  have hfew := hg.few
  unfold DS.list
  rw [hg.fine.on, if_pos rfl]
  refine List.filter_eq_nil_iff.2 fun s hs hp => ?_
  have hk : s ∈ D.fs.map (·.1) := by
    unfold DS.names at hs
    obtain ⟨l, hl, rfl⟩ := List.mem_map.1 hs
    have hl := (List.mergeSort_perm _ _).mem_iff.1 hl
    obtain ⟨p, hpm, rfl⟩ := List.mem_map.1 hl
    exact List.mem_map.2 ⟨p, hpm, by simp⟩
  have hnew : (newN L.pre).data.toList = L.pre.data.toList ++ [110, 101, 119] := by
    unfold newN
    simp [ByteArray.data_append]
  rcases h.names (aget_some_iff.2 hk) with ⟨k, hkl, rfl⟩ | rfl
  · have hd : (Lib.decDigits k).length ≤ 3 := dec_len 2 k (by omega)
    have hnk : (nameK L.pre (k : Int)).data.toList = L.pre.data.toList ++ (48 :: (List.replicate (5 - (Lib.decDigits k).length) 48 ++ Lib.decDigits k)) := by
      rw [name_list, show 6 - (Lib.decDigits k).length = (5 - (Lib.decDigits k).length) + 1 by omega, List.replicate_succ]
      rfl
    rw [hnew, hnk, prefix_app] at hp
    simp [List.isPrefixOf] at hp
  · have hmk : (markN L.pre).data.toList = L.pre.data.toList ++ [109, 97, 114, 107] := by
      unfold markN
      simp [ByteArray.data_append]
    rw [hnew, hmk, prefix_app] at hp
    revert hp
    decide
/-- Whether the new file is there or not, behind drop the log is whole. -/
theorem Whole.dropNew (h : Whole L D0) (hf : Fine D) (hn : NewOnly L.pre D0.fs D.fs) : ∃ D', LogS.drop D (newN L.pre) = (0, D') ∧ Whole L D' := by
  cases hq : aget D.fs (newN L.pre) with
  | none =>
    have hW : Whole L D := h.of_aget hf (fun n => by
      by_cases e : n = newN L.pre
      · rw [e, hq, h.new]
      · exact hn.same n e)
    exact ⟨D, hW.noNew, hW⟩
  | some f =>
    have hrm := hf.remove h.good.okNew hq
    refine ⟨{ D with fs := adel D.fs (newN L.pre) }, ?_, h.of_aget (hf.del _) (fun n => ?_)⟩
    · unfold LogS.drop
      rw [hrm, if_pos (by simp)]
    · show aget (adel D.fs (newN L.pre)) n = _
      rw [aget_adel hf.nd]
      by_cases e : newN L.pre = n
      · rw [if_pos e, ← e, h.new]
      · rw [if_neg e]
        exact hn.same n (fun q => e q.symm)
theorem LogS.rewrite_ok (h : D.Ok M) (k : Int) (l : List ByteArray) : (L.rewrite D k l).2.2.Ok (M + (L.image k l).length) := by
  unfold LogS.rewrite
  have hm : M ≤ M + (L.image k l).length := Nat.le_add_right _ _
  have h1 := LogS.drop_ok h (newN L.pre)
  have h2 := (DS.append_ok h1 (newN L.pre) (baL (L.image k l))).1
  rw [baL_size] at h2
  have h3 := (DS.sync_ok h2 (newN L.pre)).1
  have h4 := (DS.rename_ok h3 (newN L.pre) (nameK L.pre k)).1
  split
  · exact h.more hm
  · split
    · exact h.more hm
    · split
      · exact h.more hm
      · split
        · exact h.more hm
        · dsimp only
          split
          · exact h1.more hm
          · split
            · exact h2
            · split
              · exact h3
              · split <;> exact h4
end
/-- A text cut to some bytes. -/
def cutS (c : Nat) (s : ByteArray) : ByteArray := s.extract 0 (min c s.size)
theorem cutS_size (c : Nat) (s : ByteArray) : (cutS c s).size = min c s.size := ext_size s (Nat.min_le_right _ _)
theorem fitsB_cut (c : Nat) : ∀ l : List ByteArray, LogS.fitsB (l.map (cutS c)) l = true
  | [] => rfl
  | s :: l => by
    rw [List.map_cons]
    unfold LogS.fitsB
    rw [fitsB_cut c l, cutS_size, decide_eq_true (Nat.min_le_right _ _)]
    rfl
theorem run_cutS (s : ByteArray) (k : Nat) (hk : k ≤ s.size) (W : World) : (Instr.sliceAt 9 (.string s) none (some (.int .i64 k)) none).run Tryz.prog W = .ok (.string (s.extract 0 k)) W := by
  have h2 : ((k : Nat) : Int) ≤ s.size := by omega
  simp [go_sem, h2]
theorem run_dropS (A : Option Addr) (n cap k : Nat) (hk : k ≤ n) (hn : n ≤ cap) (W : World) : (Instr.sliceAt 22 (.slice A n cap) (some (.int .i64 k)) none none).run Tryz.prog W = .ok (.slice (if cap = k then A else A.map (·.add k)) (n - k) (cap - k)) W := by
  have h2 : ((k : Nat) : Int) ≤ n := by omega
  have h9 : Tryz.prog.elem 22 = 9 := by unfold Program.elem; rw [Tryz.underlying22]
  have he : Tryz.prog.underlying 22 = some (.slice (Tryz.prog.elem 22)) := by rw [h9, Tryz.underlying22]
  have hs : (sizeOf (Tryz.prog.elem 22)).run Tryz.prog W = .ok 1 W := by
    rw [h9]
    simp [go_sem]
  rw [run_sliceAt_slice _ _ _ _ _ _ he, run_slice_l (ht := he) (h0 := by omega) (h1 := h2), hs]
  simp only [Result.andThen, sliced, Int.toNat_natCast, Nat.mul_one]
set_option maxRecDepth 100000 in
set_option maxHeartbeats 1000000 in
theorem sameT_some {w : World} {v1 v2 : Value} {l m : List ByteArray} (h1 : Slc w 1 v1 l.length (strs l)) (h2 : Slc w 1 v2 m.length (strs m)) :
    Calls Tryz.prog 16 #[v1, v2] w fun e w' => ∃ b : Bool, e = .returned (.bool b) ∧ Only [] w w' := by
  obtain ⟨A1, c1, rfl, _, hm1, hel1⟩ := h1.openS
  obtain ⟨A2, c2, rfl, _, hm2, hel2⟩ := h2.openS
  unfold maxLen at hm1 hm2
  by_cases hlm : l.length = m.length
  · have He1 := Lib.hid hel1
    have He2 := Lib.hid hel2
    have hd : ((l.length : Int) == (m.length : Int)) = true := by simp; omega
    have HLm := Lib.hid hlm
    clear hel1 hel2 h1 h2 hlm
    go_enter Tryz.func16, Tryz.ntmps16
    go_wp2
    go_loopw [5] (fun iv wr => ∃ j : Nat, j ≤ l.length ∧ iv = .int .i64 j ∧ Only [] w wr) (fun iv _ => l.length - (intOf iv).toNat)
    case atStart => exact ⟨0, Nat.zero_le _, rfl, Only.refl _ _⟩
    case round =>
      obtain ⟨j, hj, rfl, hO⟩ := hrel
      by_cases hlt : j < l.length
      · obtain ⟨b1, o1, rfl, hb1, q1⟩ := He1.out j hlt
        have hjm : j < m.length := by have := HLm.out; omega
        obtain ⟨b2, o2, rfl, hb2, q2⟩ := He2.out j hjm
        obtain ⟨x, hx⟩ : ∃ x, x = l[j] := ⟨_, rfl⟩
        obtain ⟨y, hy⟩ : ∃ y, y = m[j] := ⟨_, rfl⟩
        rw [← hx] at q1
        rw [← hy] at q2
        have d1 := Within.cell (S := []) ((hO.cell hb1 (by simp)).trans q1) (by simp)
        have d2 := Within.cell (S := []) ((hO.cell hb2 (by simp)).trans q2) (by simp)
        obtain ⟨bb, hbb⟩ : ∃ bb, (x.toList == y.toList) = bb := ⟨_, rfl⟩
        clear hx hy q1 q2
        cases bb with
        | true =>
          go_wp2_with fail
          refine wp_region_stages (C := fun W => ∃ p : Within [] wr, W = p.W) [([0, 1, 2, 3, 4, 5, 6, 7, 8, 9], [])] [] (by kernel_rfl) (by kernel_rfl) (by intro c d u a w h; cases d <;> exact h) ⟨⟨_, (Only.refl _ _).drew⟩, rfl⟩ ?_
          refine stagesFirst ?_
          show wpQuiet _ _ _ _ [_, _, _, _, _, _, _, _, _, _] _
          repeat (go_big_quiet_step (fail))
          refine wpQuiet_nil ?_
          refine stagesDone ?_
          go_wp2
          go_round
          case rel => exact ⟨j + 1, hlt, by simp, hO.drew⟩
          case measure => simp [intOf]; omega
        | false =>
          go_wp2_with fail
          refine wp_region_stages (C := fun W => ∃ p : Within [] wr, W = p.W) [([0, 1, 2, 3, 4, 5, 6, 7, 8, 9], [])] [] (by kernel_rfl) (by kernel_rfl) (by intro c d u a w h; cases d <;> exact h) ⟨⟨_, (Only.refl _ _).drew⟩, rfl⟩ ?_
          refine stagesFirst ?_
          show wpQuiet _ _ _ _ [_, _, _, _, _, _, _, _, _, _] _
          repeat (go_big_quiet_step (fail))
          refine wpQuiet_nil ?_
          refine stagesDone ?_
          go_wp2
          go_ret
          exact ⟨_, rfl, hO.drew⟩
      · go_wp2
        go_ret
        exact ⟨_, rfl, hO⟩
  · have hd : ((l.length : Int) == (m.length : Int)) = false := by simp; omega
    clear hel1 hel2
    go_enter Tryz.func16, Tryz.ntmps16
    go_wp2
    go_ret
    exact ⟨_, rfl, Only.refl _ _⟩
end Go.Proofs.YtfjkjndpndjfpaaGreatDoor
/- LogCuts: what is left behind a cut is what stood ahead of it. -/
set_option linter.unusedVariables false
set_option linter.unusedSimpArgs false
namespace Go.Proofs.YtfjkjndpndjfpaaGreatDoor
open Go Go.RowKit Go.Sort
section
variable {a w w1 w' W : World} {lb db mb M N : Nat} {D0 D D1 D2 d : DS} {L : LogS} {kv pv : Value} {xs : List (Value × PartL)}
theorem stageF {P : Program} {Q : Exit → Act → World → Prop} {l : List Oper} {C : World → Prop} {K : Act → World → Prop} {H A : List Nat} {r : List (List Nat × List Nat)} {a : Act} {w : World} (h : wpQuiet P l.toArray C (fun a' => wpT1 P l.toArray C Q (opsAt l A) (wpStages P l C Q K r) a' w) (opsAt l H) a) : wpStages P l C Q K ((H, A) :: r) a w := h
theorem stageN {P : Program} {Q : Exit → Act → World → Prop} {l : List Oper} {C : World → Prop} {K : Act → World → Prop} {H A : List Nat} {r : List (List Nat × List Nat)} {a : Act} {w : World} (h : wpQuiet P l.toArray C (fun a' => wpT1 P l.toArray C Q (opsAt l A) (wpStages P l C Q K r) a' w) (opsAt l H) a) : wpT1 P l.toArray C Q (opsAt l []) (wpStages P l C Q K ((H, A) :: r)) a w := h
theorem stageE {P : Program} {Q : Exit → Act → World → Prop} {l : List Oper} {C : World → Prop} {T2 : List Nat} {a : Act} {w : World} (h : wpList P l.toArray Q (opsAt l T2) a w) : wpT1 P l.toArray C Q (opsAt l []) (wpStages P l C Q (fun a w => wpList P l.toArray Q (opsAt l T2) a w) []) a w := h
theorem stage0 {P : Program} {Q : Exit → Act → World → Prop} {l : List Oper} {C : World → Prop} {K : Act → World → Prop} {A : List Nat} {r : List (List Nat × List Nat)} {a : Act} {w : World} (h : wpT1 P l.toArray C Q (opsAt l A) (wpStages P l C Q K r) a w) : wpStages P l C Q K (([], A) :: r) a w := wpQuiet_nil (P := P) (ops := l.toArray) (C := C) h
theorem hold0 (W : World) : ∀ x ∈ ([] : List (Addr × Value)), W.cell? x.1 = some x.2 := fun x hx => by cases hx
set_option maxRecDepth 100000 in
set_option maxHeartbeats 2000000 in
theorem cuts_go (w : World) (hT : Tab w) (v1 v3 : Value) (ss ms : List ByteArray) (size n : Int) (hv1 : Slc w 1 v1 ss.length (strs ss)) (hz1 : ∀ s ∈ ss, s.size ≤ maxLen) (hg1 : ∀ g, v1.ownBlock = some g → g < w.heap.size ∨ ss = [])
    (hv3 : Slc w 1 v3 ms.length (strs ms)) (hz3 : ∀ s ∈ ms, s.size ≤ maxLen) (hg3 : ∀ g, v3.ownBlock = some g → g < w.heap.size ∨ ms = []) :
    Calls Tryz.prog 5 #[.int .i64 size, v1, .int .i64 n, v3] w fun e w' => e = .returned (.bool true) ∧ Only [] w w' := by
  have HAl := Lib.hid (fun (W : World) (k : Only [] w W) => alive11_any W (hT.only k))
  have HS1 := Lib.hid (bShort_any (few := 40) (room := 3000) hv1 hz1 (by omega) (by omega) (by omega) (by omega))
  have HS3 := Lib.hid (fun (W : World) (k : Only [] w W) => bShort_any (few := 20) (room := 1500) (hv3.only0 k) hz3 (by omega) (by omega) (by omega) (by omega))
  obtain ⟨A1, c1, rfl⟩ := slc_len hv1
  obtain ⟨A3, c3, rfl⟩ := slc_len hv3
  by_cases h1 : size < 100
  · have q1 : decide (size < 100) = true := decide_eq_true h1
    go_enter Tryz.func5, Tryz.ntmps5
    go_wp2_with (go_at_call 9; refine (HAl.out _ (Only.refl _ _)).mono ?_; rintro e1 w1 ⟨rfl, k1⟩)
    go_ret
    exact ⟨rfl, k1⟩
  have q1 : decide (size < 100) = false := decide_eq_false h1
  by_cases h2 : size > 2000
  · have q2 : decide (size > 2000) = true := decide_eq_true h2
    go_enter Tryz.func5, Tryz.ntmps5
    go_wp2_with (go_at_call 9; refine (HAl.out _ (Only.refl _ _)).mono ?_; rintro e1 w1 ⟨rfl, k1⟩)
    go_ret
    exact ⟨rfl, k1⟩
  have q2 : decide (size > 2000) = false := decide_eq_false h2
  go_enter Tryz.func5, Tryz.ntmps5
  go_wp2_with fail
  refine HS1.out.mono ?_
  rintro e1 w1 ⟨⟨b1, rfl, hb1⟩, k1⟩
  cases b1 with
  | false =>
    go_wp2_with (go_at_call 9; refine (HAl.out _ k1).mono ?_; rintro e2 w2 ⟨rfl, k2⟩)
    go_ret
    exact ⟨rfl, k1.trans k2⟩
  | true =>
    obtain ⟨hlen1, hsum1⟩ := hb1 rfl
    clear hb1
    go_wp2_with fail
    refine (HS3.out _ k1).mono ?_
    rintro e2 w2 ⟨⟨b2, rfl, hb2⟩, k2⟩
    have k2 := k1.trans k2
    clear k1
    cases b2 with
    | false =>
      go_wp2_with (go_at_call 9; refine (HAl.out _ k2).mono ?_; rintro e3 w3 ⟨rfl, k3⟩)
      go_ret
      exact ⟨rfl, k2.trans k3⟩
    | true =>
    obtain ⟨hlen3, hsum3⟩ := hb2 rfl
    clear hb2
    by_cases h3 : n < 0
    · have q3 : decide (n < 0) = true := decide_eq_true h3
      go_wp2_with (go_at_call 9; refine (HAl.out _ k2).mono ?_; rintro e3 w3 ⟨rfl, k3⟩)
      go_ret
      exact ⟨rfl, k2.trans k3⟩
    have q3 : decide (n < 0) = false := decide_eq_false h3
    by_cases h4 : n > (ss.length : Int)
    · have q4 : decide (n > (ss.length : Int)) = true := decide_eq_true h4
      go_wp2_with (go_at_call 9; refine (HAl.out _ k2).mono ?_; rintro e3 w3 ⟨rfl, k3⟩)
      go_ret
      exact ⟨rfl, k2.trans k3⟩
    have q4 : decide (n > (ss.length : Int)) = false := decide_eq_false h4
    have harg : LogS.openArg ⟨#[112]⟩ size = true := by
      unfold LogS.openArg
      rw [show (⟨#[112]⟩ : ByteArray).size = 1 from rfl, decide_eq_true (by omega : 100 ≤ size), decide_eq_true (by omega : size ≤ 1000000)]
      rfl
    have hT2 := hT.only k2
    have hO1 := Lib.hid fun (W : World) (k : Only [] w2 W) (db mb : Nat) (hd : DiskAt W db mb (DS.new 0) (.slice none 0 0)) (hu : w2.heap.size ≤ db ∧ w2.heap.size ≤ mb) => jopen_new hT2 k hd hu (fun g hg => by cases hg) ⟨#[112]⟩ size harg
    have hN := Lib.hid (new_any w2 (room := 0) (by omega))
    go_wp2_with fail
    refine hN.out.mono ?_
    rintro e3 w3 ⟨rfl, hd3, k3⟩
    have HO2 := Lib.hid (hO1.out w3 k3 _ _ hd3 (by omega))
    clear hO1 hN hd3
    go_wp2_with fail
    refine HO2.out.mono ?_
    rintro e4 w4 ⟨lb, kv4, rfl, hA4, k4, hlb⟩
    have hW0 : Whole (LogS.new ⟨#[112]⟩ size) (DS.new 0) := whole_new (by decide) (by omega) fine_new rfl
    have HSm := smn_new ⟨#[112]⟩ size harg
    have hwt := wtS_sum ss
    have hge := hA4.ge
    have hk4' := k2.trans k4
    have HAp := jappend_any hA4 HSm (DS.new_ok 0) (hv1.only0 hk4') (fun g hg => (hg1 g hg).imp (fun q hm => by
      have := hge g hm
      have := k2.size
      omega) id) (by omega) (by omega) (by omega)
    by_cases hroom : ∀ s ∈ ss, (s.size : Int) ≤ roomC size 0
    · obtain ⟨L1, D1, a1, a2, a3, a4, a5, a6, a7, a8⟩ := hW0.append (l := ss) (by simp [LogS.new]; omega) hroom
      have hok1 := LogS.append_ok (L := LogS.new ⟨#[112]⟩ size) (DS.new_ok 0) ss
      rw [a1] at HAp hok1
      dsimp only at hok1 HAp
      have hall1 : L1.all = ss := by rw [a3]; rfl
      have HAp := Lib.hid HAp
      have hall0 : (LogS.new ⟨#[112]⟩ size).all.length = 0 := rfl
      rw [hall0] at HAp
      clear hA4 hge a1 a3 a8 hall0
      go_wp2_with fail
      refine HAp.out.mono ?_
      rintro e5 w5 ⟨rfl, k5⟩
      obtain ⟨kv5, pv5, xs5, h5⟩ := k5.on
      obtain ⟨nn, rfl⟩ : ∃ nn : Nat, n = nn := ⟨n.toNat, by omega⟩
      obtain ⟨ts, hts, htl⟩ : ∃ ts, ss.take nn = ts ∧ ts.length = nn := ⟨_, rfl, by rw [List.length_take]; omega⟩
      subst htl
      have htn : ts.length ≤ ss.length := by omega
      obtain ⟨L2, D2, t1, t2, t3, t4, t5, t6, t7⟩ := a2.truncate (n := ts.length) (by rw [hall1]; omega)
      rw [hall1, hts] at t3
      have htr := fun (W : World) (k : Only [] w5 W) => jtruncate_any (h5.at_.only0 k) a2.good hok1 (by omega) (fun p hp => by have := part_sums hp; rw [hall1] at this; omega) (by rw [len_all, hall1]; omega) (n := ts.length) (by rw [hall1]; omega)
      have hok2 := LogS.truncate_ok (L := L1) hok1 (ts.length : Int)
      rw [t1] at htr hok2
      dsimp only at htr hok2
      have HTr := Lib.hid htr
      have hpl2 : L2.ps.length ≤ 40 := by simp [LogS.new] at a7; omega
      have hst : sumS ts ≤ 3000 := by have := sumS_le_take ss ts.length; rw [hts] at this; omega
      have hvt : Slc w 1 (.slice A1 ts.length c1) ts.length (strs ts) := by
        have := slc_take hv1 htn
        rw [Nat.mul_one] at this
        have e : (strs ss).take ts.length = strs (ss.take ts.length) := by simp [strs, List.map_take]
        rw [e, hts] at this
        exact this
      have hcap : ts.length ≤ c1 := by
        obtain ⟨A9, c9, e9, _, h9, _⟩ := hv1
        injection e9 with e1 e2 e3
        omega
      have HCap := Lib.hid hcap
      have HVt := Lib.hid hvt
      obtain ⟨pre2, size2, ps2, syn2, mark2, bad2⟩ := L2
      have e4 : pre2 = ⟨#[112]⟩ := t4.trans a4
      have e5 : size2 = size := t5.trans a5
      have e7 : bad2 = 0 := t2.good.bad
      subst e4 e5 e7
      have hT3 := Lib.hid t3
      have hW2 := Lib.hid t2
      have hOk2 := Lib.hid hok2
      have hb5 : Only [] w2 w5 := h5.at_.base
      clear htr hok2 hok1 t1 t2 t3 t4 t5 t6 t7 h5 k5 HAp HO2 a2 a4 a5 a6 a7 hall1 hW0 HSm hts hvt hcap hroom
      go_wp2_with fail
      refine wp_region_stages (C := fun W => ∃ p : Hold [], W = p.W) [([0, 1], [2, 3, 4]), ([5, 7], [6, 8, 9, 10]), ([11, 13, 14, 15], [12, 16, 17, 18])] [] (by kernel_rfl) (by kernel_rfl) (by intro c d u a w h; cases d <;> exact h) ⟨⟨_, hold0 _⟩, rfl⟩ ?_
      refine stageF ?_
      show wpQuiet _ _ _ _ [_, _] _
      repeat (go_big_quiet_step (fail))
      refine wpQuiet_nil ?_
      show wpList _ _ _ [_] _ _
      go_wp2_with (go_at_call 22; refine (HTr.out _ (Only.refl _ _).drew).mono ?_; rintro e6 w6 ⟨rfl, k6⟩)
      obtain ⟨kv6, pv6, xs6, h6⟩ := k6.on
      obtain ⟨h6a, -, -⟩ := h6
      have h6b : LogAt w2 w6 lb (w2.heap.size + 1) w2.heap.size D2 ⟨⟨#[112]⟩, size2, ps2, syn2, mark2, 0⟩ kv6 pv6 xs6 := h6a
      have HA6 := Lib.hid h6b
      have hx6 : xs6.length ≤ 1000000 := by rw [xs_len h6b]; show ps2.length ≤ _; omega
      have hl2 : LogS.len ⟨⟨#[112]⟩, size2, ps2, syn2, mark2, 0⟩ = ts.length := by rw [len_all, hT3.out]
      have hr2 : LogS.range ⟨⟨#[112]⟩, size2, ps2, syn2, mark2, 0⟩ 0 100 = ts := by
        show LogS.range _ ((0 : Nat) : Int) ((100 : Nat) : Int) = ts
        rw [range_at hT3.out, List.drop_zero, List.take_of_length_le (by omega)]
      have HLn := Lib.hid fun (W : World) (k : Only [] w6 W) => jlen_any (HA6.out.only0 k) hx6 (by rw [hl2]; omega)
      rw [hl2] at HLn
      have HRg := Lib.hid fun (W : World) (k : Only [] w6 W) => jrange_any (HA6.out.only0 k) hx6 (by rw [hl2]; omega) 0 100
      rw [hr2] at HRg
      have hb6 : Only [] w w6 := k2.trans h6b.base
      clear k6 h6a h6b hr2 hl2 HTr
      refine check_hold (hold0 _) ?_
      show wpList _ _ _ [_] _ _
      go_wp2_with fail
      refine check_hold (hold0 _) ?_
      show wpList _ _ _ [_] _ _
      go_wp2_with fail
      refine check_hold (hold0 _) ?_
      refine stageN ?_
      show wpQuiet _ _ _ _ [_, _] _
      try go_frame
      repeat (go_big_quiet_step (fail))
      refine wpQuiet_nil ?_
      show wpList _ _ _ [_] _ _
      go_wp2_with (go_at_call 13; refine (HLn.out _ (Only.refl _ _)).mono ?_; rintro e7 w7 ⟨rfl, k7⟩)
      refine check_hold (hold0 _) ?_
      show wpList _ _ _ [_] _ _
      go_wp2_with fail
      refine check_hold (hold0 _) ?_
      show wpList _ _ _ [_] _ _
      go_wp2_with fail
      refine check_hold (hold0 _) ?_
      show wpList _ _ _ [_] _ _
      go_wp2_with fail
      refine check_hold (hold0 _) ?_
      refine stageN ?_
      show wpQuiet _ _ _ _ [_, _, _, _] _
      try go_frame
      repeat (go_big_quiet_step (fail))
      go_big_quiet_want
      refine ⟨.slice A1 ts.length c1, fun W _ => ?_, ?_⟩
      · unfold Oper.quietAt
        have hrt := run_takeS A1 ss.length c1 ts.length HCap.out W
        simp [execOp, Act.eval, Oper.quietUpon, Sem.run_bind, Result.andThen, hrt]
      go_big_quiet_on
      refine wpQuiet_nil ?_
      show wpList _ _ _ [_] _ _
      go_wp2_with (go_at_call 14; refine (HRg.out _ k7).mono ?_; rintro e8 w8 ⟨A8, cc8, rfl, hr8, k8⟩)
      have k78 := k7.trans k8
      have HSm8 := Lib.hid (sameT_refl (Slc.of_own hr8).1 (HVt.out.only0 (hb6.trans k78)))
      clear hr8
      refine check_hold (hold0 _) ?_
      show wpList _ _ _ [_] _ _
      go_wp2_with (go_at_call 16; refine HSm8.out.mono ?_; rintro e9 w9 ⟨rfl, k9⟩)
      have k79 := Lib.hid (k78.trans k9)
      clear k78 k7 k8 k9 HSm8 HLn HRg
      refine check_hold (hold0 _) ?_
      show wpList _ _ _ [_] _ _
      go_wp2_with fail
      refine check_hold (hold0 _) ?_
      show wpList _ _ _ [_] _ _
      go_wp2_with fail
      refine check_hold (hold0 _) ?_
      refine stageE ?_
      show wpList _ _ _ [] _ _
      have hA9 := HA6.out.only0 k79.out
      obtain ⟨E1, E2, hX⟩ := hW2.out.openX
      have hok3 := hX.ok hOk2.out
      have hall9 : LogS.all ⟨⟨#[112]⟩, size2, ps2, syn2, mark2, 0⟩ = ts := hT3.out
      have hOp := fun (W : World) (k : Only [] w9 W) => jopen_whole hT2 (hA9.base.trans k) (hA9.disk.only0 k) (by omega) (fun g hg => (hA9.away kv6 (by simp) g hg).2.2.2.2) hOk2.out (by omega) hW2.out.noNew hW2.out hX (by rw [hall9]; omega) (by rw [hall9]; omega)
      have HOp := Lib.hid hOp
      have hps : ps2.length ≤ 40 := hpl2
      have hW3 := hX.whole
      have hall3 : ∀ s m, LogS.all ⟨⟨#[112]⟩, size2, ps2, s, m, 0⟩ = ts := fun s m => hall9
      have HA3 := Lib.hid hall3
      have HW3 := Lib.hid hW3
      have HOk3 := Lib.hid hok3
      have hb9 : Only [] w w9 := k2.trans hA9.base
      clear hOp hX hok3 hW3 hall9 hall3 hA9 hpl2 hW2 hOk2 HA6 k79
      go_wp2_with fail
      refine (HOp.out _ (Only.refl _ _)).mono ?_
      rintro e10 w10 ⟨lb8, kv8, pv8, xs8, rfl, h8, -⟩
      have HA8 := Lib.hid h8
      have hx8 : xs8.length ≤ 1000000 := by rw [xs_len h8]; show ps2.length ≤ _; omega
      have HLs : ∀ s m, LogS.len ⟨⟨#[112]⟩, size2, ps2, s, m, 0⟩ = ts.length := fun s m => by rw [len_all, HA3.out]
      have hr8 : ∀ s m, LogS.range ⟨⟨#[112]⟩, size2, ps2, s, m, 0⟩ 0 100 = ts := fun s m => by
        show LogS.range _ ((0 : Nat) : Int) ((100 : Nat) : Int) = ts
        rw [range_at (HA3.out s m), List.drop_zero, List.take_of_length_le (by omega)]
      have HRg := Lib.hid fun (W : World) (k : Only [] w10 W) => jrange_any (HA8.out.only0 k) hx8 (by rw [HLs]; omega) 0 100
      rw [hr8] at HRg
      have HLs := Lib.hid HLs
      have hb10 : Only [] w w10 := k2.trans h8.base
      clear h8 hr8 HOp
      go_wp2_with fail
      refine wp_region_stages (C := fun W => ∃ p : Hold [], W = p.W) [([], [0, 1, 2, 3, 4, 5, 6]), ([7, 9, 10, 11], [8, 12, 13, 14])] [] (by kernel_rfl) (by kernel_rfl) (by intro c d u a w h; cases d <;> exact h) ⟨⟨_, hold0 _⟩, rfl⟩ ?_
      refine stage0 ?_
      show wpList _ _ _ [_] _ _
      go_wp2_with fail
      refine check_hold (hold0 _) ?_
      show wpList _ _ _ [_] _ _
      go_wp2_with fail
      refine check_hold (hold0 _) ?_
      show wpList _ _ _ [_] _ _
      go_wp2_with fail
      refine check_hold (hold0 _) ?_
      show wpList _ _ _ [_] _ _
      go_wp2_with fail
      refine check_hold (hold0 _) ?_
      show wpList _ _ _ [_] _ _
      go_wp2_with fail
      refine check_hold (hold0 _) ?_
      show wpList _ _ _ [_] _ _
      go_wp2_with fail
      refine check_hold (hold0 _) ?_
      show wpList _ _ _ [_] _ _
      go_wp2_with fail
      refine check_hold (hold0 _) ?_
      refine stageN ?_
      show wpQuiet _ _ _ _ [_, _, _, _] _
      try go_frame
      repeat (go_big_quiet_step (fail))
      go_big_quiet_want
      refine ⟨.slice A1 ts.length c1, fun W _ => ?_, ?_⟩
      · unfold Oper.quietAt
        have hrt := run_takeS A1 ss.length c1 ts.length HCap.out W
        simp [execOp, Act.eval, Oper.quietUpon, Sem.run_bind, Result.andThen, hrt]
      go_big_quiet_on
      refine wpQuiet_nil ?_
      show wpList _ _ _ [_] _ _
      go_wp2_with (go_at_call 14; refine (HRg.out _ (Only.refl _ _).drew).mono ?_; rintro e11 w11 ⟨A11, cc11, rfl, hr11, k11⟩)
      have k11 := (Only.refl _ _).drew.trans k11
      have HSm11 := Lib.hid (sameT_refl (Slc.of_own hr11).1 (HVt.out.only0 (hb10.trans k11)))
      clear hr11
      refine check_hold (hold0 _) ?_
      show wpList _ _ _ [_] _ _
      go_wp2_with (go_at_call 16; refine HSm11.out.mono ?_; rintro e12 w12 ⟨rfl, k12⟩)
      have k12 := k11.trans k12
      refine check_hold (hold0 _) ?_
      show wpList _ _ _ [_] _ _
      go_wp2_with fail
      refine check_hold (hold0 _) ?_
      show wpList _ _ _ [_] _ _
      go_wp2_with fail
      refine check_hold (hold0 _) ?_
      refine stageE ?_
      show wpList _ _ _ [] _ _
      have hA12 := HA8.out.only0 k12
      have hge := hA12.ge
      have hsn := HW3.out.smn (N := 4000) (by rw [HA3.out]; omega)
      have hwt3 := wtS_sum ms
      have hb12 : Only [] w w12 := hb10.trans k12
      have HAp := jappend_any hA12 hsn HOk3.out (hv3.only0 hb12) (fun g hg => (hg3 g hg).imp (fun q hm => by
        have := hge g hm
        have := k2.size
        omega) id) (by omega) (by omega) (by omega)
      rcases HW3.out.good.append (l := ms) (by show ps2.length + _ < 150; omega) with ⟨hroom2, -⟩ | ⟨-, b1⟩
      · obtain ⟨L5, D5, b1, b2, b3, b4, b5, b6, b7, b8⟩ := HW3.out.append (l := ms) (by show ps2.length + _ < 150; omega) hroom2
        rw [b1, HA3.out] at HAp
        rw [HA3.out] at b3
        dsimp only at HAp
        have HAp := Lib.hid HAp
        obtain ⟨us, hus⟩ : ∃ us, ts ++ ms = us := ⟨_, rfl⟩
        have hul : us.length = ts.length + ms.length := by rw [← hus, List.length_append]
        rw [hus] at b3
        have HB3 := Lib.hid b3
        have HUs := Lib.hid hus
        have HUl := Lib.hid hul
        have hp5 : L5.ps.length ≤ 60 := by have : L5.ps.length ≤ ps2.length + ms.length := b7; omega
        clear b1 b2 b3 b4 b5 b6 b7 b8 hus hul hA12 hge hsn hroom2 k12 HSm11 HRg k11
        go_wp2_with fail
        refine HAp.out.mono ?_
        rintro e13 w13 ⟨rfl, k13⟩
        obtain ⟨kv13, pv13, xs13, h13⟩ := k13.on
        have h13a : LogAt w2 w13 lb8 (w2.heap.size + 1) w2.heap.size D5 L5 kv13 pv13 xs13 := h13.at_
        have HA13 := Lib.hid h13a
        have hx13 : xs13.length ≤ 1000000 := by rw [xs_len h13a]; omega
        have hr13 : L5.range 0 100 = us := by
          show LogS.range _ ((0 : Nat) : Int) ((100 : Nat) : Int) = _
          rw [range_at HB3.out, List.drop_zero, List.take_of_length_le (by rw [HUl.out]; omega)]
        have HRg := Lib.hid fun (W : World) (k : Only [] w13 W) => jrange_any (HA13.out.only0 k) hx13 (by rw [len_all, HB3.out, HUl.out]; omega) 0 100
        rw [hr13] at HRg
        have hb13 : Only [] w w13 := k2.trans h13a.base
        clear k13 h13 h13a hr13 HAp
        go_wp2_with fail
        refine wp_region_stages (C := fun W => ∃ p : Hold [], W = p.W) [([], [0, 1]), ([2, 3], [4, 5, 6]), ([7, 9, 10, 13, 11], [8, 12, 14])] [15, 16, 17] (by kernel_rfl) (by kernel_rfl) (by intro c d u a w h; cases d <;> exact h) ⟨⟨_, hold0 _⟩, rfl⟩ ?_
        refine stage0 ?_
        show wpList _ _ _ [_] _ _
        go_wp2_with (go_at_call 9; refine (HAl.out _ (hb13.trans (Only.refl _ _).drew)).mono ?_; rintro e14 w14 ⟨rfl, k14⟩)
        have k14 := (Only.refl _ _).drew.trans k14
        refine check_hold (hold0 _) ?_
        show wpList _ _ _ [_] _ _
        go_wp2_with fail
        refine check_hold (hold0 _) ?_
        refine stageN ?_
        show wpQuiet _ _ _ _ [_, _] _
        try go_frame
        repeat (go_big_quiet_step (fail))
        refine wpQuiet_nil ?_
        show wpList _ _ _ [_] _ _
        go_wp2_with fail
        refine check_hold (hold0 _) ?_
        show wpList _ _ _ [_] _ _
        go_wp2_with fail
        refine check_hold (hold0 _) ?_
        show wpList _ _ _ [_] _ _
        go_wp2_with fail
        refine check_hold (hold0 _) ?_
        refine stageN ?_
        show wpQuiet _ _ _ _ [_, _, _, _, _] _
        try go_frame
        repeat (go_big_quiet_step (fail))
        go_big_quiet_want
        refine ⟨.slice A1 ts.length c1, fun W _ => ?_, ?_⟩
        · unfold Oper.quietAt
          have hrt := run_takeS A1 ss.length c1 ts.length HCap.out W
          simp [execOp, Act.eval, Oper.quietUpon, Sem.run_bind, Result.andThen, hrt]
        go_big_quiet_on
        refine wpQuiet_nil ?_
        show wpList _ _ _ [_] _ _
        go_wp2_with (go_at_call 14; refine (HRg.out _ k14).mono ?_; rintro e15 w15 ⟨A15, cc15, rfl, hr15, k15⟩)
        have k15 := k14.trans k15
        have hb15 : Only [] w w15 := hb13.trans k15
        have HS15 := Lib.hid (Slc.of_own hr15).1
        obtain ⟨A16, c16, w16, hr16, hown16, hO16⟩ := appSS (W := w15) (base := w15.heap.size) (v := .slice none 0 0) (l := []) (World.ownsRow_nil _ _ _ _) (HVt.out.only0 hb15) (Nat.le_refl _) (by show 0 + ts.length ≤ _; omega)
        rw [show ([] : List ByteArray).length + ts.length = ts.length from Nat.zero_add _] at hr16 hown16
        rw [show ([] : List ByteArray) ++ ts = ts from rfl] at hown16
        have hO16' : Only [] w15 w16 := hO16
        have hsz16 := hO16'.size
        obtain ⟨A17, c17, w17, hr17, hown17, hO17⟩ := appSS hown16 (hv3.only0 (hb15.trans hO16')) hsz16 (by omega)
        have hO17' : Only [] w15 w17 := hO16'.step hO17 (fun g hg => .inr ((hown16.lt g (by simpa using hg)).1))
        rw [HUs.out] at hown17
        rw [← HUl.out] at hr17 hown17
        have HR16 := Lib.hid hr16
        have HR17 := Lib.hid hr17
        have HS17 := Lib.hid (sameT_refl (HS15.out.only0 hO17') (Slc.of_own hown17).1)
        clear hr15 hr16 hr17 hown16 hown17 hO16 hO17 hsz16
        refine check_hold (hold0 _) ?_
        show wpList _ _ _ [_] _ _
        go_big_want
        refine Lib.wp_append_run _ (.const (.slice none 0 0)) (.tmp 141) 22 22 rfl _ _ rfl rfl _ _ HR16.out ?_
        rename_i K hK
        refine hK _ _ ?_
        show wpList _ _ _ [] _ _
        clear hK
        go_wp2_with fail
        try go_frame
        refine check_hold (hold0 _) ?_
        show wpList _ _ _ [_] _ _
        go_big_want
        refine Lib.wp_append_run _ (.tmp 142) (.tmp 143) 22 22 rfl _ _ rfl rfl _ _ HR17.out ?_
        rename_i K hK
        refine hK _ _ ?_
        show wpList _ _ _ [] _ _
        clear hK
        go_wp2_with fail
        try go_frame
        refine check_hold (hold0 _) ?_
        refine stageE ?_
        show wpList _ _ _ [_, _, _] _ _
        go_wp2_with (go_at_call 16; refine HS17.out.mono ?_; rintro e18 w18 ⟨rfl, k18⟩)
        go_ret
        exact ⟨rfl, (hb15.trans hO17').trans k18⟩
      · rw [b1] at HAp
        dsimp only at HAp
        have HAp := Lib.hid HAp
        clear b1 hA12 hge hsn k12 HSm11 HRg k11
        go_wp2_with fail
        refine HAp.out.mono ?_
        rintro e13 w13 ⟨rfl, k13⟩
        obtain ⟨kv13, pv13, xs13, h13⟩ := k13.on
        have HA13 := Lib.hid h13.at_
        have hx13 : xs13.length ≤ 1000000 := by rw [xs_len HA13.out]; show ps2.length ≤ _; omega
        have HLn := Lib.hid fun (W : World) (k : Only [] w13 W) => jlen_any (HA13.out.only0 k) hx13 (by show LogS.len ⟨⟨#[112]⟩, size2, ps2, _, mark2, 0⟩ ≤ _; rw [HLs.out]; omega)
        have hle : ∀ s m, LogS.len ⟨⟨#[112]⟩, size2, ps2, s, m, 0⟩ = (ts.length : Int) := HLs.out
        simp only [hle] at HLn
        have hb13 : Only [] w w13 := k2.trans HA13.out.base
        clear k13 h13 HAp hle
        go_wp2_with (first
          | (go_at_call 9; refine (HAl.out _ hb13).mono ?_; rintro e14 w14 ⟨rfl, k14⟩)
          | (go_at_call 13; refine (HLn.out _ k14).mono ?_; rintro e15 w15 ⟨rfl, k15⟩))
        go_ret
        exact ⟨rfl, (hb13.trans k14).trans k15⟩
    · rcases hW0.good.append (l := ss) (by simp [LogS.new]; omega) with ⟨q, -⟩ | ⟨-, a1⟩
      · exact absurd q hroom
      · rw [a1] at HAp
        dsimp only at HAp
        have HAp := Lib.hid HAp
        clear a1 hW0 HSm hA4 hge hroom
        go_wp2_with fail
        refine HAp.out.mono ?_
        rintro e5 w5 ⟨rfl, k5⟩
        obtain ⟨kv5, pv5, xs5, h5⟩ := k5.on
        have hb5 : Only [] w w5 := k2.trans h5.at_.base
        clear k5 h5 HAp
        go_wp2_with (go_at_call 9; refine (HAl.out _ hb5).mono ?_; rintro e6 w6 ⟨rfl, k6⟩)
        go_ret
        exact ⟨rfl, hb5.trans k6⟩
end
end Go.Proofs.YtfjkjndpndjfpaaGreatDoor
/- LogRewrites: wherever the power goes while a chunk is written anew, it is as it was, or anew, whole. -/
set_option linter.unusedVariables false
set_option linter.unusedSimpArgs false
namespace Go.Proofs.YtfjkjndpndjfpaaGreatDoor
open Go Go.RowKit Go.Sort
theorem wtS_app (l m : List ByteArray) : wtS (l ++ m) = wtS l + wtS m := by unfold wtS; rw [List.map_append, List.sum_append]
theorem sumS_mono (l : List ByteArray) (k : Nat) : sumS (l.take k) ≤ sumS l := sumS_le_take l k
/-- What the loop of appends keeps. -/
structure LoopL (a W : World) (lb db mb : Nat) (ss : List ByteArray) (j : Nat) (L : LogS) (D : DS) (kv pv : Value) (xs : List (Value × PartL)) : Prop where
  at_ : LogAt a W lb db mb D L kv pv xs
  whole : Whole L D
  firm : Firm4 L D
  all : L.all = ss.take j
  pre : L.pre = ⟨#[112]⟩
  size : L.size = 150
  few : L.ps.length ≤ j
  ok : D.Ok (wtS (ss.take j))
  short : ∀ s ∈ ss.take j, s.size ≤ 60
theorem wtS_take (ss : List ByteArray) (j : Nat) : wtS (ss.take j) = sumS (ss.take j) + 100 * (ss.take j).length := wtS_sum _
theorem dropSlc {W : World} {A : Option Addr} {cap k : Nat} {l : List ByteArray} (h : Slc W 1 (.slice A l.length cap) l.length (strs l)) (hk : k ≤ l.length) :
    ∃ B c, (∀ W', (Instr.sliceAt 22 (.slice A l.length cap) (some (.int .i64 k)) none none).run Tryz.prog W' = .ok (.slice B (l.length - k) c) W') ∧ Slc W 1 (.slice B (l.length - k) c) (l.drop k).length (strs (l.drop k)) := by
  obtain ⟨A', c', e, h1, h2, h3, h4⟩ := h
  injection e with e1 e2 e3
  subst e1 e3
  refine ⟨_, _, fun W' => run_dropS A l.length cap k hk h2 W', _, _, by rw [List.length_drop], by simp [strs], by rw [List.length_drop]; omega, by omega, fun h0 => ?_⟩
  rw [List.length_drop] at h0
  obtain ⟨b, off, rfl, hb, hc⟩ := h4 (by omega)
  rw [if_neg (by omega : ¬ cap = k)]
  refine ⟨b, off + k, by simp [Addr.add], hb, fun j hj => ?_⟩
  have hj2 : j < l.length - k := by simpa [strs] using hj
  rw [Nat.add_assoc, hc (k + j) (by simp [strs]; omega)]
  simp [strs]
/-- The files behind the chaser's arming are those ahead of it. -/
theorem risky_arm {L : LogS} {D : DS} (h : Whole L D) (n : Int) (ks : List Int) : Risky L.pre D.fs (D.arm n ks) := ⟨h.good.fine.on, h.good.fine.room, ⟨h.good.fine.nd, fun _ _ => rfl⟩⟩
theorem fine_arm {D : DS} (h1 : D.on = true) (h2 : D.room ≤ 0) (h3 : ANodup D.fs) : Fine (D.arm (-1) []) := ⟨h1, rfl, h2, h3⟩
theorem fine_back {D : DS} (h2 : D.room ≤ 0) (h3 : ANodup D.fs) : Fine ((D.arm (-1) []).restore) := ⟨rfl, rfl, h2, h3⟩
theorem image_len (L : LogS) (k : Int) (l : List ByteArray) : (L.image k l).length ≤ 4100 * l.length + 100 := by
  have h1 := startE_le k L.size
  have h2 := finE_le k (l.length : Int)
  have h3 : (l.flatMap fun s => (putF (1 :: s.data.toList)).1).length ≤ 4100 * l.length := by
    clear h1 h2
    induction l with
    | nil => simp
    | cons s l ih =>
      have := putL_le (1 :: s.data.toList)
      rw [List.flatMap_cons, List.length_append, List.length_cons]
      omega
  unfold LogS.image
  simp only [List.length_append]
  omega
theorem cut_sizes (c : Nat) (l : List ByteArray) : sumS (l.map (cutS c)) ≤ sumS l := by
  induction l with
  | nil => exact Nat.le_refl _
  | cons s l ih =>
    unfold sumS at ih ⊢
    simp only [List.map_cons, List.sum_cons]
    rw [cutS_size]
    omega
theorem new_p : newN ⟨#[112]⟩ = ⟨#[112, 110, 101, 119]⟩ := rfl
section
variable {w : World}
set_option maxRecDepth 100000 in
set_option maxHeartbeats 4000000 in
theorem rewrites_go (w : World) (hT : Tab w) (v0 v3 : Value) (ss : List ByteArray) (cut n : Int) (ks : List Int) (hv0 : Slc w 1 v0 ss.length (strs ss)) (hz : ∀ s ∈ ss, s.size ≤ maxLen) (hg0 : ∀ g, v0.ownBlock = some g → g < w.heap.size ∨ ss = [])
    (hv3 : Slc w 1 v3 ks.length (ints ks)) (hn64 : -9223372036854775808 ≤ n ∧ n ≤ 9223372036854775807) :
    Calls Tryz.prog 6 #[v0, .int .i64 cut, .int .i64 n, v3] w fun e w' => e = .returned (.bool true) ∧ Only [] w w' := by
  have HAl := Lib.hid (fun (W : World) (k : Only [] w W) => alive11_any W (hT.only k))
  have HSh := Lib.hid (bShort_any (few := 40) (room := 3000) hv0 hz (by omega) (by omega) (by omega) (by omega))
  obtain ⟨A0, vc0, rfl⟩ := slc_len hv0
  obtain ⟨A3, c3, rfl⟩ := slc_len hv3
  go_enter Tryz.func6, Tryz.ntmps6
  go_wp2_with fail
  refine HSh.out.mono ?_
  rintro e1 w1 ⟨⟨b, rfl, hb⟩, k1⟩
  cases b with
  | false =>
    go_wp2_with (go_at_call 9; refine (HAl.out _ k1).mono ?_; rintro e2 w2 ⟨rfl, k2⟩)
    go_ret
    exact ⟨rfl, k1.trans k2⟩
  | true =>
    by_cases h1 : cut < 0
    · have q1 : decide (cut < 0) = true := decide_eq_true h1
      go_wp2_with (go_at_call 9; refine (HAl.out _ k1).mono ?_; rintro e2 w2 ⟨rfl, k2⟩)
      go_ret
      exact ⟨rfl, k1.trans k2⟩
    have q1 : decide (cut < 0) = false := decide_eq_false h1
    by_cases h2 : n < 0
    · have q2 : decide (n < 0) = true := decide_eq_true h2
      go_wp2_with (go_at_call 9; refine (HAl.out _ k1).mono ?_; rintro e2 w2 ⟨rfl, k2⟩)
      go_ret
      exact ⟨rfl, k1.trans k2⟩
    have q2 : decide (n < 0) = false := decide_eq_false h2
    by_cases h3 : n > 20
    · have q3 : decide (n > 20) = true := decide_eq_true h3
      go_wp2_with (go_at_call 9; refine (HAl.out _ k1).mono ?_; rintro e2 w2 ⟨rfl, k2⟩)
      go_ret
      exact ⟨rfl, k1.trans k2⟩
    have q3 : decide (n > 20) = false := decide_eq_false h3
    by_cases h4 : (ks.length : Int) > 20
    · have q4 : decide ((ks.length : Int) > 20) = true := decide_eq_true h4
      go_wp2_with (go_at_call 9; refine (HAl.out _ k1).mono ?_; rintro e2 w2 ⟨rfl, k2⟩)
      go_ret
      exact ⟨rfl, k1.trans k2⟩
    have q4 : decide ((ks.length : Int) > 20) = false := decide_eq_false h4
    obtain ⟨hlen, hsum⟩ := hb rfl
    have hT1 := hT.only k1
    have hO1 := Lib.hid fun (W : World) (k : Only [] w1 W) (db mb : Nat) (hd : DiskAt W db mb (DS.new 0) (.slice none 0 0)) (hu : w1.heap.size ≤ db ∧ w1.heap.size ≤ mb) => jopen_new hT1 k hd hu (fun g hg => by cases hg) ⟨#[112]⟩ 150 (by decide)
    have hN := Lib.hid (new_any w1 (room := 0) (by omega))
    have HHb := Lib.hid hb
    clear hb
    go_wp2_with fail
    refine hN.out.mono ?_
    rintro e2 w2 ⟨rfl, hd2, k2⟩
    have HO2 := Lib.hid (hO1.out w2 k2 _ _ hd2 (by omega))
    clear hO1 hN hd2
    go_wp2_with fail
    refine HO2.out.mono ?_
    rintro e3 w3 ⟨lb, kv3, rfl, hA3, k3, hlb⟩
    have hL0 : LoopL w1 w3 lb (w1.heap.size + 1) w1.heap.size ss 0 (LogS.new ⟨#[112]⟩ 150) (DS.new 0) kv3 (.slice none 0 0) [] :=
      ⟨hA3, whole_new (by decide) (by omega) fine_new rfl, (fun n f hf => by cases hf), rfl, rfl, rfl, Nat.le_refl _, by rw [List.take_zero]; exact DS.new_ok 0, fun s hs => by rw [List.take_zero] at hs; cases hs⟩
    have HL0 := Lib.hid hL0
    clear hA3 hL0 HO2
    go_wp2_with fail
    go_loopw [12] (fun i wr => ∃ (j : Nat) (L : LogS) (D : DS) (kv pv : Value) (xs : List (Value × PartL)), i = .int .i64 j ∧ j ≤ ss.length ∧ Hid (LoopL w1 wr lb (w1.heap.size + 1) w1.heap.size ss j L D kv pv xs)) (fun i _ => ss.length - (intOf i).toNat)
    case atStart => exact ⟨0, _, _, _, _, _, rfl, Nat.zero_le _, HL0⟩
    case round =>
      obtain ⟨j, L, D, kv, pv, xs, rfl, hj, HL⟩ := hrel
      have hbk : Only [] w wr := k1.trans HL.out.at_.base
      have hpl := HL.out.few
      by_cases hjl : j < ss.length
      · have hdec : decide ((j : Int) < (ss.length : Int)) = true := decide_eq_true (by omega)
        obtain ⟨VA', vc', hvv, -, -, hvc⟩ := (hv0.only0 hbk).openS
        injection hvv with y1 y2 y3
        subst y1 y3
        obtain ⟨vb, vo, rfl, hvbl, hvbc⟩ := hvc j hjl
        have htk : ss.take (j + 1) = ss.take j ++ [ss[j]] := List.take_succ_eq_append_getElem hjl
        have hsu := sumS_take ss hjl
        have hsm := sumS_le_take ss (j + 1)
        have htl : (ss.take j).length = j := by rw [List.length_take]; omega
        obtain ⟨s, hs⟩ : ∃ s, ss[j] = s := ⟨_, rfl⟩
        rw [hs] at hvbc htk hsu
        by_cases hsz : (s.size : Int) > 60
        · have hd5 : decide ((s.size : Int) > 60) = true := decide_eq_true hsz
          clear hvc hs
          go_wp2_with (go_at_call 9; refine (HAl.out _ hbk).mono ?_; rintro e4 w4 ⟨rfl, k4⟩)
          go_ret
          exact ⟨rfl, hbk.trans k4⟩
        · have hd5 : decide ((s.size : Int) > 60) = false := decide_eq_false hsz
          have hal : Only [] wr (wr.alloc (.cells #[.string s] 9)) := (Only.refl _ _).alloc _
          have hold := HL.out.at_.old
          have hsl : Slc (wr.alloc (.cells #[.string s] 9)) 1 (.slice (some ⟨wr.heap.size, 0, none⟩) 1 1) ([s] : List ByteArray).length (strs [s]) := slc_new1 (w := wr) (e := 9) (size := 1) (cs := strs [s]) rfl
          have hsn := HL.out.whole.smn (N := 10000) (by rw [HL.out.all, htl]; omega)
          have hwt : wtS [s] = s.size + 100 := by simp [wtS]
          have hwj := wtS_sum (ss.take j)
          rw [htl] at hwj
          have hAp := jappend_any (HL.out.at_.only0 hal) hsn HL.out.ok hsl (fun g hg => .inl (fun hm => by
            have h7 := hold g hm
            have h8 : wr.heap.size = g := by simpa [Value.ownBlock] using hg
            omega)) (by simp) (by omega) (by omega)
          obtain ⟨L1, D1, a1, a2, a3, a4, a5, a6, a7, a8⟩ := HL.out.whole.append (l := [s]) (by simp; omega) (fun t ht => by
            rw [List.mem_singleton.1 ht, HL.out.size]
            show (s.size : Int) ≤ 137
            omega)
          have hok1 := LogS.append_ok (L := L) HL.out.ok [s]
          rw [a1] at hAp hok1
          dsimp only at hAp hok1
          have HAp := Lib.hid hAp
          have hnext := fun (W : World) (kv' pv' : Value) (xs' : List (Value × PartL)) (h : LogAt w1 W lb (w1.heap.size + 1) w1.heap.size D1 L1 kv' pv' xs') =>
            (⟨h, a2, a8 HL.out.firm, by rw [a3, HL.out.all, htk], a4.trans HL.out.pre, a5.trans HL.out.size, by simp at a7; omega, by rw [htk, wtS_app]; exact hok1, fun t ht => by
              rw [htk] at ht
              rcases List.mem_append.1 ht with q | q
              · exact HL.out.short t q
              · rw [List.mem_singleton.1 q]; omega⟩ : LoopL w1 W lb (w1.heap.size + 1) w1.heap.size ss (j + 1) L1 D1 kv' pv' xs')
          have HNx := Lib.hid hnext
          clear hvc hs htk hsu hsm htl hold hsl hsn hwt hwj hAp a1 a2 a3 a4 a5 a6 a7 a8 hok1 hnext hal
          go_wp2_with fail
          refine HAp.out.mono ?_
          rintro e4 w4 ⟨rfl, k4⟩
          obtain ⟨kv4, pv4, xs4, h4⟩ := k4.on
          have HL4 := Lib.hid (HNx.out _ _ _ _ h4.at_)
          clear k4 h4 HAp HNx
          go_wp2_with fail
          go_round
          case rel => exact ⟨j + 1, L1, D1, kv4, pv4, xs4, by simp, hjl, HL4⟩
          case measure => simp [intOf]; omega
      · have hje : j = ss.length := by omega
        subst hje
        have hdec : decide ((ss.length : Int) < (ss.length : Int)) = false := decide_eq_false (by omega)
        have hall := HL.out.all
        rw [List.take_length] at hall
        have hok := HL.out.ok
        have hsh := HL.out.short
        rw [List.take_length] at hok hsh
        have hwt := wtS_sum ss
        obtain ⟨pre1, size1, ps1, syn1, mark1, bad1⟩ := L
        have e4 : pre1 = ⟨#[112]⟩ := HL.out.pre
        have e5 : size1 = 150 := HL.out.size
        have e7 : bad1 = 0 := HL.out.whole.good.bad
        subst e4 e5 e7
        obtain ⟨s2, D2, b1, b2, b3⟩ := HL.out.whole.sync
        have hok2 := LogS.sync_ok (L := ⟨⟨#[112]⟩, 150, ps1, syn1, mark1, 0⟩) hok
        have h8 : LogS.sync1 ⟨⟨#[112]⟩, 150, ps1, syn1, mark1, 0⟩ D = LogS.sync ⟨⟨#[112]⟩, 150, ps1, syn1, mark1, 0⟩ D := rfl
        rw [← h8, b1] at hok2
        dsimp only at hok2
        have hfirm := b3 HL.out.firm
        have hpl : ps1.length ≤ ss.length := HL.out.few
        have hS1 := jsync1_at HL.out.at_ rfl (by show (⟨#[112]⟩ : ByteArray).size ≤ 1000; decide) hok (by omega) (by rw [xs_len HL.out.at_]; show ps1.length ≤ _; omega) (by rw [len_all, hall]; omega)
        rw [b1] at hS1
        dsimp only at hS1
        have HS1 := Lib.hid hS1
        have HW2 := Lib.hid b2
        have HFm := Lib.hid hfirm
        have HOk2 := Lib.hid hok2
        have HAll := Lib.hid (show ∀ s : Int, LogS.all ⟨⟨#[112]⟩, 150, ps1, s, mark1, 0⟩ = ss from fun s => hall)
        have HSs := Lib.hid hsh
        have hwb : wtS ss ≤ 7000 := by omega
        clear hall hok hsh hwt b1 b2 b3 hok2 h8 hfirm hS1 hpl
        go_wp2_with fail
        refine HS1.out.mono ?_
        rintro e5 w5 ⟨rfl, k5⟩
        obtain ⟨kv5, h5, -, -⟩ := k5
        have hx5 : xs.length = ps1.length := xs_len h5
        have hp5 : ps1.length ≤ 40 := by have := HL.out.few; omega
        have HA5 := Lib.hid h5
        have HCl := Lib.hid (jchunkL_any h5 (by omega))
        clear h5 HS1
        go_wp2_with fail
        refine HCl.out.mono ?_
        rintro e6 w6 ⟨A6, cc6, rfl, hr6, k6⟩
        have hb6 : Only [] w w6 := (k1.trans HA5.out.base).trans k6
        by_cases hfew : (xs.length : Int) < 2
        · have hd6 : decide ((xs.length : Int) < 2) = true := decide_eq_true hfew
          clear hr6
          go_wp2_with (go_at_call 9; refine (HAl.out _ hb6).mono ?_; rintro e7 w7 ⟨rfl, k7⟩)
          go_ret
          exact ⟨rfl, hb6.trans k7⟩
        · have hd6 : decide ((xs.length : Int) < 2) = false := decide_eq_false hfew
          obtain ⟨p, rest, hps⟩ : ∃ p rest, ps1 = p :: rest := by
            cases ps1 with
            | nil => simp at hx5; rw [hx5] at hfew; simp at hfew
            | cons p rest => exact ⟨p, rest, rfl⟩
          subst hps
          obtain ⟨c0, hc0⟩ : ∃ c0, p.bodies.length = c0 := ⟨_, rfl⟩
          obtain ⟨bs, hbs⟩ : ∃ bs, p.bodies.map (cutS cut.toNat) = bs := ⟨_, rfl⟩
          obtain ⟨rs, hrs⟩ : ∃ rs, rest.flatMap (·.bodies) = rs := ⟨_, rfl⟩
          have hsp : ss = p.bodies ++ rs := by
            rw [← HAll.out s2, ← hrs]
            rfl
          have hbl : bs.length = c0 := by rw [← hbs, List.length_map, hc0]
          have hsl : ss.length = c0 + rs.length := by rw [hsp, List.length_append, hc0]
          have hdr : ss.drop c0 = rs := by rw [hsp, ← hc0, List.drop_left]
          have hcl : LogS.chunkLens ⟨⟨#[112]⟩, 150, p :: rest, s2, mark1, 0⟩ = (c0 : Int) :: rest.map (fun q => (q.bodies.length : Int)) := by
            unfold LogS.chunkLens
            rw [List.map_cons, hc0]
          rw [hcl] at hr6
          have hcs := (Slc.of_own hr6).1.cell
          obtain ⟨A6', cc6', hv6, -, -, -, hc6⟩ := hcs
          injection hv6 with y1 y2 y3
          subst y1 y3
          obtain ⟨cb, co, hcA, hcbl, hcc⟩ := hc6.resolve_left (by omega)
          subst hcA
          have hcb5 : w5.heap.size ≤ cb := (hr6.lt cb rfl).1
          have hcell : w6.cell? ⟨cb, co, none⟩ = some (.int .i64 (c0 : Int)) := by
            have h0 := hcc 0 (by simp [ints])
            simpa [ints] using h0
          have hbj : ∀ j, (hj : j < c0) → ∃ hs : j < ss.length, bs.take (j + 1) = bs.take j ++ [cutS cut.toNat ss[j]] ∧ ss[j].size ≤ 60 := fun j hj => by
            refine ⟨by omega, ?_, ?_⟩
            · rw [List.take_succ_eq_append_getElem (by omega)]
              congr 2
              simp only [← hbs, List.getElem_map, hsp]
              rw [List.getElem_append_left (by omega)]
            · exact HSs.out _ (List.getElem_mem _)
          have HBj := Lib.hid hbj
          have HHs := Lib.hid hsp
          have HHb := Lib.hid hbs
          have HHc := Lib.hid hc0
          have HHd := Lib.hid hdr
          have HHl := Lib.hid hsl
          have HHbl := Lib.hid hbl
          have HHr := Lib.hid hrs
          have hc0l : c0 ≤ ss.length := by omega
          have HX5 := Lib.hid hx5
          clear hbj hsp hbs hc0 hdr hsl hbl hrs hcl hc6 hcc hr6 y2 hx5
          go_wp2_with fail
          go_loopw [16, 17] (fun o i wr => ∃ (j : Nat) (A : Option Addr) (cap : Nat), i = .int .i64 j ∧ j ≤ c0 ∧ o = .slice A j cap ∧ wr.ownsRow w6.heap.size 9 1 (.slice A j cap) j (strs (bs.take j)) ∧ Only [] w6 wr) (fun _ i _ => c0 - (intOf i).toNat)
          case atStart => exact ⟨0, none, 0, rfl, Nat.zero_le _, rfl, by rw [List.take_zero]; exact World.ownsRow_nil _ _ _ _, Only.refl _ _⟩
          case round =>
            obtain ⟨j, A, cap, rfl, hj, rfl, hown, hO⟩ := hrel
            have hce := (hO.cell (p := ⟨cb, co, none⟩) hcbl (by simp)).trans hcell
            by_cases hjl : j < c0
            · have hdec2 : decide ((j : Int) < (c0 : Int)) = true := decide_eq_true (by omega)
              obtain ⟨hjs, htk, hsz⟩ := HBj.out j hjl
              obtain ⟨VA', vc', hvv, -, -, hvc⟩ := (hv0.only0 (hb6.trans hO)).openS
              injection hvv with y1 y2 y3
              subst y1 y3
              obtain ⟨vb, vo, rfl, hvbl, hvbc⟩ := hvc j hjs
              obtain ⟨s, hs⟩ : ∃ s, ss[j] = s := ⟨_, rfl⟩
              rw [hs] at hvbc htk hsz
              have hcut : cutS cut.toNat s = s.extract 0 (min cut.toNat s.size) := rfl
              obtain ⟨z, hzz⟩ : ∃ z, min cut.toNat s.size = z := ⟨_, rfl⟩
              have hmin : min cut (s.size : Int) = (z : Int) := by omega
              have hrun := run_cutS s z (by omega)
              rw [hcut, hzz] at htk
              have HRun := Lib.hid hrun
              have HTk := Lib.hid htk
              have hO1 : Only [] wr (wr.alloc (.cells #[.string (s.extract 0 z)] 9)).drew := ((Only.refl _ _).alloc _).drew
              have hbtl : (bs.take j).length = j := by rw [List.length_take, HHbl.out]; omega
              have hown1 : (wr.alloc (.cells #[.string (s.extract 0 z)] 9)).drew.ownsRow w6.heap.size 9 1 (.slice A j cap) (bs.take j).length (strs (bs.take j)) := by rw [hbtl]; exact own_only hown hO1 (by simp)
              have hsl1 : Slc (wr.alloc (.cells #[.string (s.extract 0 z)] 9)).drew 1 (.slice (some ⟨wr.heap.size, 0, none⟩) 1 1) ([s.extract 0 z] : List ByteArray).length (strs [s.extract 0 z]) := (slc_new1 (w := wr) (e := 9) (size := 1) (cs := strs [s.extract 0 z]) rfl).only0 (Only.refl _ _).drew
              obtain ⟨A7, c7, w7, hr7, hown7, hO7⟩ := appSS hown1 hsl1 (hO.trans hO1).size (by rw [hbtl]; simp; omega)
              have hj1 : (bs.take j).length + ([s.extract 0 z] : List ByteArray).length = j + 1 := by rw [hbtl]; rfl
              have hj2 : (bs.take (j + 1)).length = j + 1 := by rw [List.length_take, HHbl.out]; omega
              rw [← htk, hj1, hj2] at hown7
              rw [hj1] at hr7
              have hO8 : Only [] w6 w7 := (hO.trans hO1).step hO7 (fun g hg => .inr (by have h9 := (hown1.lt g (by simpa using hg)).1; exact h9))
              have HR7 := Lib.hid hr7
              have HW7 := Lib.hid hown7
              have HO8 := Lib.hid hO8
              have hvbw : vb < w6.heap.size := by
                obtain ⟨VA9, vc9, hv9, -, -, h9⟩ := (hv0.only0 hb6).openS
                injection hv9 with z1 z2 z3
                obtain ⟨b9, o9, e9, hl9, h99⟩ := h9 j hjs
                rw [← z1] at e9
                injection e9 with e9
                injection e9 with e9 e10
                rw [e9]
                exact hl9
              have hs6 : w6.cell? ⟨vb, vo + j, none⟩ = some (.string s) := by
                rw [← hvbc]
                exact (hO.cell (p := ⟨vb, vo + j, none⟩) hvbw (by simp)).symm
              obtain ⟨F, hF⟩ : ∃ F : List (Addr × Value), F = [(⟨vb, vo + j, none⟩, .string s)] := ⟨_, rfl⟩
              have hFW : ∀ W : World, Only [] w6 W → ∀ x ∈ F, W.cell? x.1 = some x.2 := fun W k => by rw [hF]; exact hold1 ((k.cell (p := ⟨vb, vo + j, none⟩) hvbw (by simp)).trans hs6)
              have d0 : ∀ p : Hold F, p.W.cell? ⟨vb, vo + j, none⟩ = some (.string s) := fun p => p.h (_, _) (by rw [hF]; simp)
              have HF := Lib.hid hFW
              clear hF hFW hs hcut hzz htk hown hown1 hsl1 hr7 hown7 hO7 hO8 hj1 hj2 hbtl hvc y2 hvbc hrun hO1 hs6
              go_wp2_with fail
              refine wp_region_hold F [0, 1, 2, 3, 4, 5, 6, 7, 8, 9, 10, 11, 12] [13, 14] [15] (HF.out _ hO) (by kernel_rfl) (by kernel_rfl) (by intro c d u a w h; cases d <;> exact h) ?_
              intro hne
              show wpQuiet _ _ _ _ [_, _, _, _, _, _, _, _, _, _, _, _, _] _
              repeat (go_big_quiet_step (fail))
              refine wpQuiet_nil ?_
              show wpList _ _ _ [_] _ _
              go_wp2_with fail
              refine check_hold (HF.out _ (hO.trans ((Only.refl _ _).alloc _).drew)) ?_
              show wpList _ _ _ [_] _ _
              go_wp2_with (at_builtin; refine Lib.wpList_append_run _ rfl (.tmp 101) (.tmp 114) 22 22 rfl _ _ rfl rfl _ _ HR7.out ?_)
              refine check_hold (HF.out _ HO8.out) ?_
              show wpList _ _ _ [_] _ _
              go_wp2
              go_round
              case rel => exact ⟨j + 1, A7, c7, by simp, hjl, rfl, HW7.out, HO8.out⟩
              case measure => simp [intOf]; omega
            · have hje : c0 = j := by omega
              subst hje
              have hdec2 : decide ((c0 : Int) < (c0 : Int)) = false := decide_eq_false (by omega)
              have hbt : bs.take c0 = bs := List.take_of_length_le (by rw [HHbl.out]; exact Nat.le_refl _)
              rw [hbt] at hown
              have hA9 := HA5.out.only0 (k6.trans hO)
              have hArm := arm_any hA9.disk (n := n) ⟨by omega, by omega⟩ (hv3.only0 (hb6.trans hO)) (by omega)
              have HArm := Lib.hid hArm
              have HA9 := Lib.hid hA9
              have HOw := Lib.hid hown
              clear hArm hA9 hown hbt
              go_wp2_with fail
              refine HArm.out.mono ?_
              rintro e10 w10 ⟨rfl, kv10', hd10, hf10, k10⟩
              have hold5 := HA5.out.old
              have hz56 := k6.size
              have hz6r := hO.size
              have hup := HA5.out.up
              have hL10 : Leads (w1.heap.size + 1) w1.heap.size wr kv5 w10 (D2.arm n ks) := ⟨kv10', hd10, fun g hg => .inr (hf10 g hg), k10.mono (fun g hg => by rw [List.mem_singleton.1 hg]; exact List.mem_cons_self ..)⟩
              obtain ⟨kv10, h10, hk10, ho10⟩ := HA9.out.leads hL10
              have hx0 : ∃ v, xs[0]? = some (v, p) := by
                have h1 := HA5.out.ps
                have h2 : (xs.map (·.2))[0]? = some p := by rw [← h1]; rfl
                rw [List.getElem?_map] at h2
                cases hv : xs[0]? with
                | none => rw [hv] at h2; simp at h2
                | some x => rw [hv] at h2; exact ⟨x.1, by rw [← Option.some.inj h2]⟩
              obtain ⟨v0, hx0⟩ := hx0
              have hdone : p.done = true := by
                have h1 := HW2.out.good.done 0 p rfl
                have h2 := HX5.out
                rw [h1]
                have h3 : (0 + 1 < (p :: rest).length) := by omega
                have h4 : decide (0 + 1 < (LogS.ps ⟨⟨#[112]⟩, 150, p :: rest, s2, mark1, 0⟩).length) = true := decide_eq_true h3
                rw [h4]
                rfl
              have hll : bs.length = p.bodies.length := by rw [← HHb.out, List.length_map]
              have hfit : LogS.fitsB bs p.bodies = true := by rw [← HHb.out]; exact fitsB_cut _ _
              have hcz := cut_sizes cut.toNat p.bodies
              rw [HHb.out] at hcz
              have hpz : sumS p.bodies + sumS rs = sumS ss := by rw [HHs.out, sumS_app]
              have hsz : ∀ s ∈ bs, s.size ≤ 4000 := fun s hs => by
                obtain ⟨l1, l2, e⟩ := List.append_of_mem hs
                have h9 : s.size ≤ sumS bs := by rw [e]; unfold sumS; simp; omega
                omega
              have hrow10 : Slc w10 1 (.slice A c0 cap) bs.length (strs bs) := by
                rw [HHbl.out]
                exact (Slc.of_own HOw.out).1.only k10 (fun g hg hm => by
                  have h1 := HOw.out.lt g hg
                  have h2 := HA5.out.lt
                  rw [List.mem_singleton.1 hm] at h1
                  omega)
              have hvb : ∀ g, (Value.slice A c0 cap).ownBlock = some g → g ∉ lblk lb (w1.heap.size + 1) w1.heap.size kv10 pv xs := fun g hg hm => by
                have h1 := HOw.out.lt g hg
                rcases mem_lblk.1 hm with e | e | e | ⟨v, hv, hq⟩
                · have := hold5 lb (mem_lblk.2 (.inl rfl)); omega
                · have := hold5 _ (mem_lblk.2 (.inr (.inl rfl))); omega
                · have := hold5 _ (mem_lblk.2 (.inr (.inr (.inl rfl)))); omega
                · rcases List.mem_cons.1 hv with e | hv
                  · subst e
                    rcases hk10 g hq with q | q
                    · have := hold5 g (mem_lblk.2 (.inr (.inr (.inr ⟨kv5, by simp, q⟩)))); omega
                    · omega
                  · have := hold5 g (mem_lblk.2 (.inr (.inr (.inr ⟨v, List.mem_cons_of_mem _ hv, hq⟩)))); omega
              have hil := image_len ⟨⟨#[112]⟩, 150, p :: rest, s2, mark1, 0⟩ 0 bs
              have hblc := HHbl.out
              have e0 : ((0 : Nat) : Int) = 0 := rfl
              have e0' := e0
              have hRw := jrewrite_any h10 rfl (by show (⟨#[112]⟩ : ByteArray).size ≤ 20; decide) (DS.arm_ok HOk2.out n ks) (by omega) (k := 0) (by omega) hx0 hdone hrow10 hvb hll hfit hsz (by omega) (by rw [e0]; omega)
              have hRok := LogS.rewrite_ok (L := ⟨⟨#[112]⟩, 150, p :: rest, s2, mark1, 0⟩) (DS.arm_ok HOk2.out n ks) ((0 : Nat) : Int) bs
              have hcas := HW2.out.rewrite HFm.out (risky_arm HW2.out n ks) rfl (p := p) (k := 0) rfl hdone hll hfit
              have HBlk : Hid (∀ g ∈ lblk lb (w1.heap.size + 1) w1.heap.size kv10 pv xs, g < w5.heap.size ∨ wr.heap.size ≤ g) := fun g hm => by
                rcases mem_lblk.1 hm with e | e | e | ⟨v, hv, hq⟩
                · have := hold5 lb (mem_lblk.2 (.inl rfl)); left; omega
                · have := hold5 _ (mem_lblk.2 (.inr (.inl rfl))); left; omega
                · have := hold5 _ (mem_lblk.2 (.inr (.inr (.inl rfl)))); left; omega
                · rcases List.mem_cons.1 hv with e | hv
                  · subst e
                    rcases hk10 g hq with q | q
                    · have := hold5 g (mem_lblk.2 (.inr (.inr (.inr ⟨kv5, by simp, q⟩)))); left; omega
                    · right; omega
                  · have := hold5 g (mem_lblk.2 (.inr (.inr (.inr ⟨v, List.mem_cons_of_mem _ hv, hq⟩)))); left; omega
              have hz10 := ho10.size
              have hc10 : w10.cell? ⟨cb, co, none⟩ = some (.int .i64 (c0 : Int)) := (ho10.cell (p := ⟨cb, co, none⟩) (by show cb < _; omega) (fun hm => by
                have h2 := HA5.out.lt
                rcases List.mem_cons.1 hm with e | hm
                · have h9 : cb = w1.heap.size + 1 := e
                  omega
                · have h9 : cb = w1.heap.size := List.mem_singleton.1 hm
                  omega)).trans hce
              have hlt5 := HA5.out.lt
              have HR10 := Lib.hid hrow10
              clear hold5 hd10 hf10 hL10 h10 hk10 hx0 hdone hll hfit hsz hvb hrow10
              rcases hcas with ⟨D', r1, r2, r3, r4, r5⟩ | ⟨L', D', r1, r2, r3, r4⟩
              · rw [r1] at hRw hRok
                dsimp only at hRw hRok
                rw [e0] at hRw
                have HRw := Lib.hid hRw
                clear hRw r1
                go_wp2_with fail
                refine HRw.out.mono ?_
                rintro e11 w11 ⟨rfl, k11⟩
                obtain ⟨kv11, pv11, xs11, h11⟩ := k11.on
                have hz11 := h11.only.size
                have hrow11 := HR10.out.only h11.only (fun g hg hm => by
                  have h1 := HOw.out.lt g hg
                  rcases HBlk.out g hm with q | q <;> omega)
                have hc11 : w11.cell? ⟨cb, co, none⟩ = some (.int .i64 (c0 : Int)) := (h11.only.cell (p := ⟨cb, co, none⟩) (by show cb < _; omega) (fun hm => by
                  have h9 : cb < w5.heap.size ∨ wr.heap.size ≤ cb := HBlk.out cb hm
                  omega)).trans hc10
                have HArm2 := Lib.hid (arm_any h11.at_.disk (n := -1) ⟨by omega, by omega⟩ (v := .slice none 0 0) (zs := []) (Slc.nil _ 1) (by simp))
                have hb11 : Only [] w1 w11 := h11.at_.base
                clear k11 h11 HRw
                go_wp2_with fail
                refine HArm2.out.mono ?_
                rintro e13 w13 ⟨rfl, kv13, hd13, hf13, k13⟩
                have hz13 := k13.size
                have hb13 : Only [] w1 w13 := hb11.step k13 (fun g hg => by rw [List.mem_singleton.1 hg]; exact .inr (by omega))
                have HRow13 := Lib.hid (hrow11.only k13 (fun g hg hm => by
                  have h1 := HOw.out.lt g hg
                  rw [List.mem_singleton.1 hm] at h1
                  omega))
                have hc13 := (k13.cell (p := ⟨cb, co, none⟩) (by show cb < _; omega) (fun hm => by
                  have h9 : cb = w1.heap.size + 1 := List.mem_singleton.1 hm
                  omega)).trans hc11
                have hOn := on_any hd13
                have hon : (D'.arm (-1) []).on = true := r2
                rw [hon] at hOn
                have HOn := Lib.hid hOn
                have hfi : Fine (D'.arm (-1) []) := fine_arm r2 r3 r4
                have hwh := r5 _ hfi rfl
                have hokx : (D'.arm (-1) []).Ok 300000 := DS.arm_ok (hRok.more (by rw [e0']; omega)) _ _
                obtain ⟨D3, hD3⟩ : ∃ D3, D'.arm (-1) [] = D3 := ⟨_, rfl⟩
                rw [hD3] at hd13 hwh hokx
                obtain ⟨Dd, hDd⟩ : ∃ Dd, Dd = D3 := ⟨_, rfl⟩
                obtain ⟨ps3, hp3⟩ : ∃ ps3, (p :: rest).set 0 ⟨bs, usedOf bs, true⟩ = ps3 := ⟨_, rfl⟩
                obtain ⟨us, hus⟩ : ∃ us, bs ++ rs = us := ⟨_, rfl⟩
                have hp13 : ps3.length ≤ 40 := by rw [← hp3, List.length_set]; exact hp5
                have hul : us.length = ss.length := by rw [← hus, List.length_append, HHbl.out, HHl.out]
                have husz : sumS us ≤ 3000 := by rw [← hus, sumS_app]; omega
                have hall13 : LogS.all ⟨⟨#[112]⟩, 150, ps3, s2, mark1, 0⟩ = us := by
                  rw [← hp3, ← hus, ← HHr.out]
                  rfl
                have hwh2 : Whole ⟨⟨#[112]⟩, 150, ps3, s2, mark1, 0⟩ D3 := by rw [← hp3]; exact hwh
                have hdrx : LogS.drop D3 (newN ⟨#[112]⟩) = (0, Dd) := by rw [hDd]; exact hwh2.noNew
                have HW13 : Hid (Whole ⟨⟨#[112]⟩, 150, ps3, s2, mark1, 0⟩ Dd) := by rw [hDd]; exact hwh2
                have HDr := Lib.hid hdrx
                have HAll13 := Lib.hid hall13
                have HD13 := Lib.hid hd13
                have HKf := Lib.hid hf13
                have HOk13 := Lib.hid hokx
                have HUs := Lib.hid hus
                clear hd13 hf13 hOn hon hfi hwh hokx hD3 hDd hp3 hus hall13 hwh2 hdrx r2 r3 r4 r5 hrow11 HArm2
                go_wp2_with (go_at_call 26; refine HOn.out.mono ?_; rintro e12 w12 ⟨rfl, rfl⟩)
                obtain ⟨E1, E2, hX⟩ := HW13.out.openX
                have hnn : E2.list ⟨#[112, 110, 101, 119]⟩ = [] := hX.whole.noneNew
                have hokd := LogS.drop_ok HOk13.out (newN ⟨#[112]⟩)
                have hdr13 : LogS.drop D3 (newN ⟨#[112]⟩) = (0, Dd) := HDr.out
                rw [hdr13] at hokd
                have hok3 : E2.Ok 300000 := hX.ok hokd
                have hdb : w1.heap.size ≤ w1.heap.size + 1 ∧ w1.heap.size ≤ w1.heap.size := ⟨by omega, Nat.le_refl _⟩
                have hOp := jopen_whole hT1 hb13 HD13.out hdb (fun g hg => Nat.le_trans (by omega) (HKf.out g hg)) HOk13.out (by omega) HDr.out HW13.out hX (by rw [HAll13.out]; omega) (by rw [HAll13.out]; omega)
                have HOp := Lib.hid hOp
                have HA3 := Lib.hid (show ∀ s m : Int, LogS.all ⟨⟨#[112]⟩, 150, ps3, s, m, 0⟩ = us from fun s m => HAll13.out)
                have HNn := Lib.hid hnn
                have HOk3 := Lib.hid hok3
                have HUl := Lib.hid hul
                clear hOp hX hnn hokd hok3 hdr13 hul
                go_wp2_with fail
                refine HOp.out.mono ?_
                rintro e14 w14 ⟨lb8, kv8, pv8, xs8, rfl, h8, -, k14⟩
                have hz14 := k14.size
                have HA8 := Lib.hid h8
                have hx8 : xs8.length ≤ 1000000 := by rw [xs_len h8]; show ps3.length ≤ _; omega
                have hul := HUl.out
                have hr8 : ∀ s m : Int, LogS.range ⟨⟨#[112]⟩, 150, ps3, s, m, 0⟩ 0 100 = us := fun s m => by
                  show LogS.range _ ((0 : Nat) : Int) ((100 : Nat) : Int) = us
                  rw [range_at (HA3.out s m), List.drop_zero, List.take_of_length_le (by omega)]
                have hl8 : ∀ s m : Int, LogS.len ⟨⟨#[112]⟩, 150, ps3, s, m, 0⟩ = ss.length := fun s m => by rw [len_all, HA3.out, hul]
                have HLn := Lib.hid fun (W : World) (k : Only [] w14 W) => jlen_any (HA8.out.only0 k) hx8 (by rw [hl8]; omega)
                have HRg := Lib.hid fun (W : World) (k : Only [] w14 W) => jrange_any (HA8.out.only0 k) hx8 (by rw [hl8]; omega) 0 100
                rw [hr8] at HRg
                simp only [hl8] at HLn
                have HLi := fun (W : World) (k : Only [] w14 W) => list_any (HA8.out.only0 k).disk HOk3.out.fs ⟨#[112, 110, 101, 119]⟩
                simp only [HNn.out] at HLi
                have HLi := Lib.hid HLi
                have hb14 : Only [] w w14 := k1.trans h8.base
                have HB14 := Lib.hid ((HRow13.out.only k14 (fun g hg hm => by
                  have h1 := HOw.out.lt g hg
                  have h2 := HA5.out.lt
                  rcases List.mem_cons.1 hm with e | hm
                  · omega
                  · rcases List.mem_cons.1 hm with e | hm
                    · omega
                    · have := HKf.out g (by simpa using hm)
                      omega)))
                have hc14 : w14.cell? ⟨cb, co, none⟩ = some (.int .i64 (c0 : Int)) := (k14.cell (p := ⟨cb, co, none⟩) (by show cb < _; omega) (fun hm => by
                  have h2 := HA5.out.lt
                  rcases List.mem_cons.1 hm with e | hm
                  · have h9 : cb = w1.heap.size + 1 := e
                    omega
                  · rcases List.mem_cons.1 hm with e | hm
                    · have h9 : cb = w1.heap.size := e
                      omega
                    · have := HKf.out cb (by simpa using hm)
                      omega)).trans hc13
                clear h8 hr8 hl8 HOp k14 hul
                go_wp2_with (first
                  | (go_at_call 13; refine (HLn.out _ (Only.refl _ _)).mono ?_; rintro e15 w15 ⟨rfl, k15⟩)
                  | (go_at_call 14; refine (HRg.out _ k15).mono ?_; rintro e16 w16 ⟨A16, c16, rfl, hr16, k16⟩; have HS16 := Lib.hid (Slc.of_own hr16).1; clear hr16))
                have k16 := k15.trans k16
                have hb16 : Only [] w w16 := hb14.trans k16
                obtain ⟨Ad, cd, hdrun, hdslc⟩ := dropSlc (hv0.only0 (hb16.trans (Only.refl _ _).drew)) (k := c0) hc0l
                rw [HHd.out] at hdslc
                have hdl : rs.length = ss.length - c0 := by have := HHl.out; omega
                have hB16 := (HB14.out.only0 (k16.trans (Only.refl _ _).drew))
                obtain ⟨A17, c17, w17, hr17, hown17, hO17⟩ := appSS (W := w16.drew) (base := w16.drew.heap.size) (v := .slice none 0 0) (l := []) (World.ownsRow_nil _ _ _ _) hB16 (Nat.le_refl _) (by show 0 + bs.length ≤ _; rw [HHbl.out]; omega)
                rw [show ([] : List ByteArray).length + bs.length = bs.length from Nat.zero_add _] at hr17 hown17
                rw [show ([] : List ByteArray) ++ bs = bs from rfl] at hown17
                have hO17' : Only [] w16.drew w17 := hO17
                have hdslc2 : Slc w17 1 (.slice Ad (ss.length - c0) cd) rs.length (strs rs) := hdslc.only0 hO17'
                obtain ⟨A18, c18, w18, hr18, hown18, hO18⟩ := appSS hown17 hdslc2 hO17'.size (by rw [HHbl.out]; omega)
                have hO18' : Only [] w16.drew w18 := hO17'.step hO18 (fun g hg => .inr ((hown17.lt g (by simpa using hg)).1))
                have HR17 := Lib.hid hr17
                have HS18 := Lib.hid (Slc.of_own hown18).1
                have HDrun := Lib.hid hdrun
                have hOO : Only [] w16 w18 := (Only.refl _ _).drew.trans hO18'
                have HOO := Lib.hid hOO
                have HR18 := Lib.hid hr18
                obtain ⟨F, hF⟩ : ∃ F : List (Addr × Value), F = [(⟨cb, co, none⟩, .int .i64 (c0 : Int))] := ⟨_, rfl⟩
                have hFW : ∀ W : World, Only [] w14 W → ∀ x ∈ F, W.cell? x.1 = some x.2 := fun W k => by rw [hF]; exact hold1 ((k.cell (p := ⟨cb, co, none⟩) (by show cb < _; omega) (by simp)).trans hc14)
                have d0 : ∀ p : Hold F, p.W.cell? ⟨cb, co, none⟩ = some (.int .i64 (c0 : Int)) := fun p => p.h (_, _) (by rw [hF]; simp)
                have HF := Lib.hid hFW
                have HW17 := Lib.hid (k16.trans ((Only.refl [] w16).drew.trans hO17'))
                have HW16 := Lib.hid k16
                rw [HHbl.out] at HR17 HR18
                clear hF hFW hr17 hown17 hO17 hO17' hr18 hown18 hO18 hO18' hdrun hdslc hdslc2 hB16 hOO k16 hdl
                go_wp2_with fail
                refine wp_region_hold F [0, 2, 3, 4, 5, 6] [1, 7] [8] (HF.out _ HW16.out) (by kernel_rfl) (by kernel_rfl) (by intro c d u a w h; cases d <;> exact h) ?_
                intro hne
                show wpQuiet _ _ _ _ [_, _, _, _, _, _] _
                iterate 5 (go_big_quiet_step (fail))
                go_big_quiet_want
                refine ⟨.slice Ad (ss.length - c0) cd, fun W _ => ?_, ?_⟩
                · unfold Oper.quietAt
                  have hrt := HDrun.out W
                  simp [execOp, Act.eval, Oper.quietUpon, Sem.run_bind, Result.andThen, hrt]
                go_big_quiet_on
                refine wpQuiet_nil ?_
                show wpList _ _ _ [_] _ _
                go_wp2_with (at_builtin; refine Lib.wpList_append_run _ rfl (.const (.slice none 0 0)) (.tmp 152) 22 22 rfl _ _ rfl rfl _ _ HR17.out ?_)
                refine check_hold (HF.out _ HW17.out) ?_
                show wpList _ _ _ [_] _ _
                go_wp2_with (at_builtin; refine Lib.wpList_append_run _ rfl (.tmp 153) (.tmp 158) 22 22 rfl _ _ rfl rfl _ _ HR18.out ?_)
                refine check_hold (HF.out _ (HW16.out.trans HOO.out)) ?_
                show wpList _ _ _ [_] _ _
                have hb18 : Only [] w w18 := hb16.trans HOO.out
                have hs18 := HS18.out
                rw [HHbl.out] at hs18
                have HS18 := Lib.hid hs18
                clear hs18
                have HSm := Lib.hid fun (W : World) (k : Only [] w18 W) => sameT_refl (l := us) (HS16.out.only0 (HOO.out.trans k)) (by have h9 := HS18.out.only0 k; rw [HUs.out] at h9; exact h9)
                go_wp2_with (first
                  | (go_at_call 9; refine (HAl.out _ hb18).mono ?_; rintro e19 w19 ⟨rfl, k19⟩)
                  | (go_at_call 16; refine (HSm.out _ k19).mono ?_; rintro e20 w20 ⟨rfl, k20⟩)
                  | (go_at_call 27; refine (HLi.out _ ((HW16.out.trans HOO.out).trans (k19.trans k20))).mono ?_; rintro e21 w21 ⟨v21, rfl, hs21, -, k21⟩; have hs21 : Slc w21 1 v21 0 [] := hs21; obtain ⟨A21, c21, rfl⟩ := slc_len hs21))
                go_ret
                exact ⟨rfl, (hb18.trans (k19.trans k20)).trans k21⟩
              · rw [r1] at hRw hRok
                dsimp only at hRw hRok
                rw [e0] at hRw
                have HRw := Lib.hid hRw
                clear hRw r1
                go_wp2_with fail
                refine HRw.out.mono ?_
                rintro e11 w11 ⟨rfl, k11⟩
                obtain ⟨kv11, pv11, xs11, h11⟩ := k11.on
                have hz11 := h11.only.size
                have hrow11 := HR10.out.only h11.only (fun g hg hm => by
                  have h1 := HOw.out.lt g hg
                  rcases HBlk.out g hm with q | q <;> omega)
                have hc11 : w11.cell? ⟨cb, co, none⟩ = some (.int .i64 (c0 : Int)) := (h11.only.cell (p := ⟨cb, co, none⟩) (by show cb < _; omega) (fun hm => by
                  have h9 : cb < w5.heap.size ∨ wr.heap.size ≤ cb := HBlk.out cb hm
                  omega)).trans hc10
                have HArm2 := Lib.hid (arm_any h11.at_.disk (n := -1) ⟨by omega, by omega⟩ (v := .slice none 0 0) (zs := []) (Slc.nil _ 1) (by simp))
                have hb11 : Only [] w1 w11 := h11.at_.base
                clear k11 h11 HRw
                go_wp2_with fail
                refine HArm2.out.mono ?_
                rintro e12 w12 ⟨rfl, kv13, hd12, hf13, k12⟩
                have hOn := on_any hd12
                have hon : (D'.arm (-1) []).on = false := r2
                rw [hon] at hOn
                have HOn := Lib.hid hOn
                have HRs := Lib.hid (restore_any hd12)
                clear hOn hon hd12
                go_wp2_with (first
                  | (go_at_call 26; refine HOn.out.mono ?_; rintro e12a w12a ⟨rfl, rfl⟩)
                  | (go_at_call 21; refine HRs.out.mono ?_; rintro e13 w13 ⟨rfl, hd13, k13⟩; have HD0 := Lib.hid hd13; clear hd13))
                have hd13 := HD0.out
                have k13 := k12.trans k13
                have hz13 := k13.size
                have hb13 : Only [] w1 w13 := hb11.step k13 (fun g hg => by rw [List.mem_singleton.1 hg]; exact .inr (by omega))
                have HRow13 := Lib.hid (hrow11.only k13 (fun g hg hm => by
                  have h1 := HOw.out.lt g hg
                  rw [List.mem_singleton.1 hm] at h1
                  omega))
                have hc13 := (k13.cell (p := ⟨cb, co, none⟩) (by show cb < _; omega) (fun hm => by
                  have h9 : cb = w1.heap.size + 1 := List.mem_singleton.1 hm
                  omega)).trans hc11
                obtain ⟨Dd, hdrx, hwh⟩ := HW2.out.dropNew (fine_back r3 r4.nd) r4
                have hokx : ((D'.arm (-1) []).restore).Ok 300000 := (DS.restore_ok (DS.arm_ok (hRok.more (by rw [e0']; omega)) _ _)).1
                obtain ⟨D3, hD3⟩ : ∃ D3, (D'.arm (-1) []).restore = D3 := ⟨_, rfl⟩
                rw [hD3] at hd13 hdrx hokx
                have hdrx : LogS.drop D3 (newN ⟨#[112]⟩) = (0, Dd) := hdrx
                obtain ⟨ps3, hp3⟩ : ∃ ps3, p :: rest = ps3 := ⟨_, rfl⟩
                obtain ⟨us, hus⟩ : ∃ us, us = ss := ⟨_, rfl⟩
                have hp13 : ps3.length ≤ 40 := by rw [← hp3]; exact hp5
                have hul : us.length = ss.length := by rw [hus]
                have husz : sumS us ≤ 3000 := by rw [hus]; omega
                have hall13 : LogS.all ⟨⟨#[112]⟩, 150, ps3, s2, mark1, 0⟩ = us := by
                  rw [← hp3, hus]
                  exact HAll.out s2
                rw [hp3] at hwh
                have HW13 := Lib.hid hwh
                have HDr := Lib.hid hdrx
                have HAll13 := Lib.hid hall13
                have HD13 := Lib.hid hd13
                have HKf := Lib.hid hf13
                have HOk13 := Lib.hid hokx
                have HUs := Lib.hid hus
                have HP3 := Lib.hid hp3
                clear hd13 hf13 hwh hokx hD3 hp3 hus hall13 hdrx r2 r3 r4 hrow11 HArm2 HD0 HRs HOn
                obtain ⟨E1, E2, hX⟩ := HW13.out.openX
                have hnn : E2.list ⟨#[112, 110, 101, 119]⟩ = [] := hX.whole.noneNew
                have hokd := LogS.drop_ok HOk13.out (newN ⟨#[112]⟩)
                have hdr13 : LogS.drop D3 (newN ⟨#[112]⟩) = (0, Dd) := HDr.out
                rw [hdr13] at hokd
                have hok3 : E2.Ok 300000 := hX.ok hokd
                have hdb : w1.heap.size ≤ w1.heap.size + 1 ∧ w1.heap.size ≤ w1.heap.size := ⟨by omega, Nat.le_refl _⟩
                have hOp := jopen_whole hT1 hb13 HD13.out hdb (fun g hg => Nat.le_trans (by omega) (HKf.out g hg)) HOk13.out (by omega) HDr.out HW13.out hX (by rw [HAll13.out]; omega) (by rw [HAll13.out]; omega)
                have HOp := Lib.hid hOp
                have HA3 := Lib.hid (show ∀ s m : Int, LogS.all ⟨⟨#[112]⟩, 150, ps3, s, m, 0⟩ = us from fun s m => HAll13.out)
                have HNn := Lib.hid hnn
                have HOk3 := Lib.hid hok3
                have HUl := Lib.hid hul
                clear hOp hX hnn hokd hok3 hdr13 hul
                go_wp2_with fail
                refine HOp.out.mono ?_
                rintro e14 w14 ⟨lb8, kv8, pv8, xs8, rfl, h8, -, k14⟩
                have hz14 := k14.size
                have HA8 := Lib.hid h8
                have hx8 : xs8.length ≤ 1000000 := by rw [xs_len h8]; show ps3.length ≤ _; omega
                have hul := HUl.out
                have hr8 : ∀ s m : Int, LogS.range ⟨⟨#[112]⟩, 150, ps3, s, m, 0⟩ 0 100 = us := fun s m => by
                  show LogS.range _ ((0 : Nat) : Int) ((100 : Nat) : Int) = us
                  rw [range_at (HA3.out s m), List.drop_zero, List.take_of_length_le (by omega)]
                have hl8 : ∀ s m : Int, LogS.len ⟨⟨#[112]⟩, 150, ps3, s, m, 0⟩ = ss.length := fun s m => by rw [len_all, HA3.out, hul]
                have HLn := Lib.hid fun (W : World) (k : Only [] w14 W) => jlen_any (HA8.out.only0 k) hx8 (by rw [hl8]; omega)
                have HRg := Lib.hid fun (W : World) (k : Only [] w14 W) => jrange_any (HA8.out.only0 k) hx8 (by rw [hl8]; omega) 0 100
                rw [hr8] at HRg
                simp only [hl8] at HLn
                have HLi := fun (W : World) (k : Only [] w14 W) => list_any (HA8.out.only0 k).disk HOk3.out.fs ⟨#[112, 110, 101, 119]⟩
                simp only [HNn.out] at HLi
                have HLi := Lib.hid HLi
                have hb14 : Only [] w w14 := k1.trans h8.base
                have HB14 := Lib.hid ((HRow13.out.only k14 (fun g hg hm => by
                  have h1 := HOw.out.lt g hg
                  have h2 := HA5.out.lt
                  rcases List.mem_cons.1 hm with e | hm
                  · omega
                  · rcases List.mem_cons.1 hm with e | hm
                    · omega
                    · have := HKf.out g (by simpa using hm)
                      omega)))
                have hc14 : w14.cell? ⟨cb, co, none⟩ = some (.int .i64 (c0 : Int)) := (k14.cell (p := ⟨cb, co, none⟩) (by show cb < _; omega) (fun hm => by
                  have h2 := HA5.out.lt
                  rcases List.mem_cons.1 hm with e | hm
                  · have h9 : cb = w1.heap.size + 1 := e
                    omega
                  · rcases List.mem_cons.1 hm with e | hm
                    · have h9 : cb = w1.heap.size := e
                      omega
                    · have := HKf.out cb (by simpa using hm)
                      omega)).trans hc13
                clear h8 hr8 hl8 HOp k14 hul
                go_wp2_with (first
                  | (go_at_call 13; refine (HLn.out _ (Only.refl _ _)).mono ?_; rintro e15 w15 ⟨rfl, k15⟩)
                  | (go_at_call 14; refine (HRg.out _ k15).mono ?_; rintro e16 w16 ⟨A16, c16, rfl, hr16, k16⟩; have HS16 := Lib.hid (Slc.of_own hr16).1; clear hr16))
                have k16 := k15.trans k16
                have hb16 : Only [] w w16 := hb14.trans k16
                obtain ⟨Ad, cd, hdrun, hdslc⟩ := dropSlc (hv0.only0 (hb16.trans (Only.refl _ _).drew)) (k := c0) hc0l
                rw [HHd.out] at hdslc
                have hdl : rs.length = ss.length - c0 := by have := HHl.out; omega
                have hB16 := (HB14.out.only0 (k16.trans (Only.refl _ _).drew))
                obtain ⟨A17, c17, w17, hr17, hown17, hO17⟩ := appSS (W := w16.drew) (base := w16.drew.heap.size) (v := .slice none 0 0) (l := []) (World.ownsRow_nil _ _ _ _) hB16 (Nat.le_refl _) (by show 0 + bs.length ≤ _; rw [HHbl.out]; omega)
                rw [show ([] : List ByteArray).length + bs.length = bs.length from Nat.zero_add _] at hr17 hown17
                rw [show ([] : List ByteArray) ++ bs = bs from rfl] at hown17
                have hO17' : Only [] w16.drew w17 := hO17
                have hdslc2 : Slc w17 1 (.slice Ad (ss.length - c0) cd) rs.length (strs rs) := hdslc.only0 hO17'
                obtain ⟨A18, c18, w18, hr18, hown18, hO18⟩ := appSS hown17 hdslc2 hO17'.size (by rw [HHbl.out]; omega)
                have hO18' : Only [] w16.drew w18 := hO17'.step hO18 (fun g hg => .inr ((hown17.lt g (by simpa using hg)).1))
                have HR17 := Lib.hid hr17
                have HS18 := Lib.hid (Slc.of_own hown18).1
                have HDrun := Lib.hid hdrun
                have hOO : Only [] w16 w18 := (Only.refl _ _).drew.trans hO18'
                have HOO := Lib.hid hOO
                have HR18 := Lib.hid hr18
                obtain ⟨F, hF⟩ : ∃ F : List (Addr × Value), F = [(⟨cb, co, none⟩, .int .i64 (c0 : Int))] := ⟨_, rfl⟩
                have hFW : ∀ W : World, Only [] w14 W → ∀ x ∈ F, W.cell? x.1 = some x.2 := fun W k => by rw [hF]; exact hold1 ((k.cell (p := ⟨cb, co, none⟩) (by show cb < _; omega) (by simp)).trans hc14)
                have d0 : ∀ p : Hold F, p.W.cell? ⟨cb, co, none⟩ = some (.int .i64 (c0 : Int)) := fun p => p.h (_, _) (by rw [hF]; simp)
                have HF := Lib.hid hFW
                have HW17 := Lib.hid (k16.trans ((Only.refl [] w16).drew.trans hO17'))
                have HW16 := Lib.hid k16
                rw [HHbl.out] at HR17 HR18
                clear hF hFW hr17 hown17 hO17 hO17' hr18 hown18 hO18 hO18' hdrun hdslc hdslc2 hB16 hOO k16 hdl
                go_wp2_with fail
                refine wp_region_hold F [0, 2, 3, 4, 5, 6] [1, 7] [8] (HF.out _ HW16.out) (by kernel_rfl) (by kernel_rfl) (by intro c d u a w h; cases d <;> exact h) ?_
                intro hne
                show wpQuiet _ _ _ _ [_, _, _, _, _, _] _
                iterate 5 (go_big_quiet_step (fail))
                go_big_quiet_want
                refine ⟨.slice Ad (ss.length - c0) cd, fun W _ => ?_, ?_⟩
                · unfold Oper.quietAt
                  have hrt := HDrun.out W
                  simp [execOp, Act.eval, Oper.quietUpon, Sem.run_bind, Result.andThen, hrt]
                go_big_quiet_on
                refine wpQuiet_nil ?_
                show wpList _ _ _ [_] _ _
                go_wp2_with (at_builtin; refine Lib.wpList_append_run _ rfl (.const (.slice none 0 0)) (.tmp 152) 22 22 rfl _ _ rfl rfl _ _ HR17.out ?_)
                refine check_hold (HF.out _ HW17.out) ?_
                show wpList _ _ _ [_] _ _
                go_wp2_with (at_builtin; refine Lib.wpList_append_run _ rfl (.tmp 153) (.tmp 158) 22 22 rfl _ _ rfl rfl _ _ HR18.out ?_)
                refine check_hold (HF.out _ (HW16.out.trans HOO.out)) ?_
                show wpList _ _ _ [_] _ _
                have hb18 : Only [] w w18 := hb16.trans HOO.out
                have hs18 := HS18.out
                rw [HHbl.out] at hs18
                have HS18 := Lib.hid hs18
                clear hs18
                have HSm1 := Lib.hid fun (W : World) (k : Only [] w18 W) => sameT_some (l := us) (m := bs ++ rs) (HS16.out.only0 (HOO.out.trans k)) (HS18.out.only0 k)
                have HSm2 := Lib.hid fun (W : World) (k : Only [] w18 W) => sameT_refl (l := us) (HS16.out.only0 (HOO.out.trans k)) (by rw [HUs.out]; exact hv0.only0 (hb18.trans k))
                go_wp2_with (go_at_call 9; refine (HAl.out _ hb18).mono ?_; rintro e19 w19 ⟨rfl, k19⟩)
                refine (HSm1.out _ k19).mono ?_
                rintro e20 w20 ⟨b, rfl, k20⟩
                have k20 := k19.trans k20
                cases b with
                | true =>
                  go_wp2_with (go_at_call 27; refine (HLi.out _ ((HW16.out.trans HOO.out).trans k20)).mono ?_; rintro e21 w21 ⟨v21, rfl, hs21, -, k21⟩; have hs21 : Slc w21 1 v21 0 [] := hs21; obtain ⟨A21, c21, rfl⟩ := slc_len hs21)
                  go_ret
                  exact ⟨rfl, (hb18.trans k20).trans k21⟩
                | false =>
                  have hsm := HSm2.out _ k20
                  have HSm3 := Lib.hid hsm
                  clear hsm
                  go_wp2_with (first
                    | (go_at_call 16; refine HSm3.out.mono ?_; rintro e22 w22 ⟨rfl, k22⟩)
                    | (go_at_call 27; refine (HLi.out _ ((HW16.out.trans HOO.out).trans (k20.trans k22))).mono ?_; rintro e21 w21 ⟨v21, rfl, hs21, -, k21⟩; have hs21 : Slc w21 1 v21 0 [] := hs21; obtain ⟨A21, c21, rfl⟩ := slc_len hs21))
                  go_ret
                  exact ⟨rfl, (hb18.trans (k20.trans k22)).trans k21⟩
end
end Go.Proofs.YtfjkjndpndjfpaaGreatDoor
/- LogRewrites: the walk in the row's form. -/
set_option linter.unusedVariables false
namespace Go.Proofs.YtfjkjndpndjfpaaGreatDoor
open Go Go.RowKit Go.Sort
theorem rewritesW (v : Value) (ss : List ByteArray) (cut : Int) (hc : (Lit.int .i64 cut).wf = true) (n : Int) (hn : (Lit.int .i64 n).wf = true) (v3 : Value) (ks : List Int) (W : World) (hT : Tab W)
    (hv : Slc W 1 v ss.length (strs ss)) (hz : ∀ s ∈ ss, s.size ≤ maxLen) (hg : ∀ g, v.ownBlock = some g → g < W.heap.size ∨ ss = [])
    (hv3 : Slc W 1 v3 ks.length (ints ks)) (hz3 : ∀ z ∈ ks, (Lit.int .i64 z).wf = true) (hg3 : ∀ g, v3.ownBlock = some g → g < W.heap.size ∨ ks = []) :
    Calls Tryz.prog 6 #[v, .int .i64 cut, .int .i64 n, v3] W fun e w' => e = .returned (.bool true) ∧ Only [] W w' :=
  rewrites_go W hT v v3 ss cut n ks hv hz hg hv3 (by
    have h : IntKind.i64.min ≤ n ∧ n ≤ 9223372036854775807 := by simpa [Lit.wf] using hn
    rw [show IntKind.i64.min = (-9223372036854775808 : Int) from rfl] at h
    exact h)
end Go.Proofs.YtfjkjndpndjfpaaGreatDoor
