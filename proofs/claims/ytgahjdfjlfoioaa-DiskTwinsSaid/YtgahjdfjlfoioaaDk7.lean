/- Contract: Crash. -/
import Derived.Test.YtgahjdfjlfoioaaDk6
import Derived.Test.YtgahjdfjlfoioaaRegion
import Derived.BigRegion
namespace Go.Proofs.Ytgahjdfjlfoioaa
open Go.RowKit Go.Sort

theorem getV' (fs : Files) (n : ByteArray) : (aget (fs.map fun p => (p.1, p.2.val)) n).getD File.zero.val = .agg #[.string ((aget fs n).getD File.zero).b, .int .i64 ((aget fs n).getD File.zero).lasts, .bool ((aget fs n).getD File.zero).known] := by
  rw [aget_map]
  cases aget fs n <;> rfl

theorem DiskAt.files {w w' : World} {db mb : Nat} {d : DS} {kv : Value} (h : DiskAt w db mb d kv) (ho : Only [mb] w w') (fs' : Files) (hm : MapIs Value.string w' mb (fs'.map fun p => (p.1, p.2.val))) : DiskAt w' db mb { d with fs := fs' } kv :=
  ⟨ho.blk h.blk (by simp; exact fun e => h.ne e.symm), hm, h.slc.only ho (fun g hg => by simp [(h.apart g hg).2]), h.apart, h.left, h.room, fun g hg => Nat.lt_of_lt_of_le (h.old g hg) ho.size⟩
theorem crashAll_drop (fs : Files) (l : List ByteArray) (ks : List Int) (j : Nat) (h : j < l.length) : DS.crashAll fs (l.drop j) (ks.drop j) = DS.crashAll (DS.crashOne fs l[j] (max ((ks.drop j).headD 0) 0)) (l.drop (j + 1)) (ks.drop (j + 1)) := by
  rw [List.drop_eq_getElem_cons h]
  show DS.crashAll _ _ (ks.drop j).tail = _
  rw [List.tail_drop]
theorem lostAll_drop (fs : Files) (l : List ByteArray) (ks : List Int) (j : Nat) (h : j < l.length) : DS.lostAll fs (l.drop j) (ks.drop j) = (((aget fs l[j]).getD File.zero).b.size - (DS.crashFile ((aget fs l[j]).getD File.zero) (max ((ks.drop j).headD 0) 0)).lasts) + DS.lostAll (DS.crashOne fs l[j] (max ((ks.drop j).headD 0) 0)) (l.drop (j + 1)) (ks.drop (j + 1)) := by
  rw [List.drop_eq_getElem_cons h]
  show _ + DS.lostAll _ _ (ks.drop j).tail = _
  rw [List.tail_drop]

theorem crash_off {w : World} {db mb : Nat} {d : DS} {kv v : Value} (h : DiskAt w db mb d kv) (ho : d.on = false) :
    Calls Try.prog 18 #[.pointer (some ⟨db, 0, none⟩), v] w fun e w' => e = .returned (.int .i64 0) ∧ w = w' := by
  have c0 : w.cell? ⟨db, 0, none⟩ = some (.bool d.on) := h.blk.cell 0
  rw [ho] at c0
  go_enter Try.func18, Try.ntmps18
  go_wp2
  go_ret
  exact ⟨rfl, rfl⟩
theorem crash_nil (w : World) (v : Value) :
    Calls Try.prog 18 #[.pointer none, v] w fun e w' => e = .returned (.int .i64 0) ∧ w = w' := by
  go_enter Try.func18, Try.ntmps18
  go_wp2
  go_ret
  exact ⟨rfl, rfl⟩

set_option maxHeartbeats 1000000 in
set_option maxRecDepth 100000 in
theorem crash_on {w : World} {db mb : Nat} {d : DS} {kv v : Value} {keep : List Int} {M : Nat} (h : DiskAt w db mb d kv) (ho : d.on = true) (hk : Fs d.fs M) (hM : M ≤ 1125899906842624)
    (hs : Slc w 1 v keep.length (ints keep)) (hap : ∀ g, v.ownBlock = some g → (g ≠ db ∧ g ≠ mb) ∨ keep = []) :
    Calls Try.prog 18 #[.pointer (some ⟨db, 0, none⟩), v] w fun e w' => e = .returned (.int .i64 (DS.lostAll d.fs d.names keep)) ∧ (∃ kv', DiskAt w' db mb (d.crash keep) kv' ∧ (∀ g, kv'.ownBlock = some g → w.heap.size ≤ g)) ∧ Only [db, mb] w w' := by
  have c0 : w.cell? ⟨db, 0, none⟩ = some (.bool d.on) := h.blk.cell 0
  rw [ho] at c0
  have hf0 : FOk M d.fs := hk.fok
  obtain ⟨A1, cap1, rfl, hnc1, hcm1, hl1, hc1⟩ := hs.cell
  go_enter Try.func18, Try.ntmps18
  go_wp2_with (first | (go_at_call 15; refine (arm_any h (n := -1) (by omega) (Slc.nil _ _) (zs := []) (by simp)).mono ?_; rintro e w1 ⟨rfl, kv1, h1, hf1, ho1⟩) | (go_at_call 38; refine (names_any h1 (M := M) hk).mono ?_; rintro e w2 ⟨v2, rfl, hs2, hf2, ho2⟩; obtain ⟨A2, cap2, hv2, hnc2, hcm2, hl2, hc2⟩ := (show Slc w2 1 v2 d.names.length (strs d.names) from hs2).cell; rw [hv2]))
  have hnl : d.names.length ≤ 200 := by have := hk.few; simpa [DS.names] using this
  have hN : (d.arm (-1) []).names = d.names := rfl
  go_loopw [5, 23] (fun l i wr => ∃ (j : Nat) (lost : Int) (fs : Files), j ≤ d.names.length ∧ i = .int .i64 j ∧ l = .int .i64 lost ∧ 0 ≤ lost ∧ lost ≤ j * M ∧
      Hid (DS.lostAll d.fs d.names keep = lost + DS.lostAll fs (d.names.drop j) (keep.drop j)) ∧ Hid (DS.crashAll d.fs d.names keep = DS.crashAll fs (d.names.drop j) (keep.drop j)) ∧
      FOk M fs ∧ DiskAt wr db mb { d.arm (-1) [] with fs := fs } kv1 ∧ Only [db, mb] w2 wr) (fun _ i _ => d.names.length - (intOf i).toNat)
  case atStart => exact ⟨0, 0, d.fs, Nat.zero_le _, rfl, rfl, by omega, by simp, by unfold Hid; simp, by unfold Hid; simp, hf0, h1.only0 ho2, Only.refl _ _⟩
  case round =>
    obtain ⟨j, lost, fs, hj, rfl, rfl, hl0, hlM, hL, hC, hF, hD, hO⟩ := hrel
    by_cases hlt : j < d.names.length
    case neg =>
      have hjn : j = d.names.length := by omega
      have hl2' : Hid (DS.lostAll d.fs d.names keep = lost) := by have := hL.out; rw [hjn, List.drop_length] at this; unfold Hid; rw [this]; simp [DS.lostAll]
      have hc2' : Hid (DS.crashAll d.fs d.names keep = fs) := by have := hC.out; rw [hjn, List.drop_length] at this; unfold Hid; rw [this]; rfl
      have hW : Only [db, mb] w wr := ((ho1.mono (by simp)).trans (ho2.of_nil)).trans hO
      have f0 : wr.frozen? ⟨db, 0, none⟩ = false := hD.blk.free 0
      have e0 : wr.cell? ⟨db, 0, none⟩ = some (.bool (d.arm (-1) []).on) := hD.blk.cell 0
      clear hjn
      go_wp2
      go_ret
      have hO' : Only [db] wr (wr.setCell ⟨db, 0, none⟩ (.bool false)) := (Only.refl _ wr).setCell (.inl (by simp)) _
      refine ⟨?_, ⟨kv1, ?_, hf1⟩, hW.trans (hO'.mono (by simp))⟩
      · rw [hl2'.out]; rfl
      · have hcr : d.crash keep = { ({ d.arm (-1) [] with fs := fs } : DS) with on := false } := by
          unfold DS.crash
          rw [ho, if_pos rfl, hc2'.out]
          simp [DS.arm]
        rw [hcr]
        refine ⟨hD.blk.set 0 _, hD.map.only hO' (by simp; exact hD.ne), hD.slc.only hO' (fun g hg => by simp [(hD.apart g hg).1]), hD.apart, hD.left, hD.room, fun g hg => Nat.lt_of_lt_of_le (hD.old g hg) hO'.size⟩
    have d2 : wr.cell? ⟨db, 2, none⟩ = some (.map (some mb)) := hD.blk.cell 2
    obtain ⟨b2, off2, hA2, hb2, hc2'⟩ : ∃ b off, A2 = some ⟨b, off, none⟩ ∧ b < w2.heap.size ∧ ∀ j, j < (strs d.names).length → w2.cell? ⟨b, off + j, none⟩ = (strs d.names)[j]? := by
      rcases hc2 with h0 | h0
      · omega
      · exact h0
    subst hA2
    obtain ⟨s, hse⟩ : ∃ s, s = d.names[j] := ⟨_, rfl⟩
    have cs : wr.cell? ⟨b2, off2 + j, none⟩ = some (.string s) := by
      have hg := hf2 b2 (by rw [hv2]; rfl)
      rw [hO.cell hb2 (by have := h1.blk.lt; have := h1.map.lt; simp; omega), hc2' j (by simpa [strs] using hlt), hse]
      simp [strs, hlt]
    have hse' := Lib.hid hse
    clear hse
    obtain ⟨f, hfe⟩ : ∃ f, f = (aget fs s).getD File.zero := ⟨_, rfl⟩
    obtain ⟨hq1, hq2, hq3⟩ := hF.get s
    rw [← hfe] at hq1 hq2 hq3
    have hgv := getV' fs s
    rw [← hfe] at hgv
    have HG := Lib.hid hgv
    have HF := Lib.hid hfe
    clear hgv hfe
    obtain ⟨kk, hkk⟩ : ∃ kk, kk = max ((keep.drop j).headD 0) 0 := ⟨_, rfl⟩
    have hkk0 : 0 ≤ kk := by omega
    have hlb : lost ≤ 225179981368524800 := by
      have : (j : Int) * M ≤ 200 * 1125899906842624 := Int.mul_le_mul (by omega) (by omega) (by omega) (by omega)
      omega
    have hW : Only [db, mb] w wr := ((ho1.mono (by simp)).trans (ho2.of_nil)).trans hO
    obtain ⟨n, hn⟩ : ∃ n, n = f.lasts + min kk (f.b.size - f.lasts) := ⟨_, rfl⟩
    have hn1 : 0 ≤ n := by omega
    have hn2 : n ≤ f.b.size := by omega
    have hns : (f.b.extract 0 n.toNat).size = n.toNat := by simp; omega
    have g2 : ∀ o e os, (grow (redrawn (wr.alloc o).drew e) os).cell? ⟨db, 2, none⟩ = some (.map (some mb)) := fun o e os => cell_regrown ((World.cell?_alloc_lt wr o _ (block_lt_of_cell d2)).trans d2) e os
    have b0 : ∀ x y z t e os, (grow (redrawn (wr.alloc (.cells #[x, y, z] t)).drew e) os).cell? ⟨wr.heap.size, 0, none⟩ = some x := fun x y z t e os => cell_regrown (Blk.cell (Blk.new wr t #[x, y, z]) 0) e os
    have b1' : ∀ x y z t e os, (grow (redrawn (wr.alloc (.cells #[x, y, z] t)).drew e) os).cell? ⟨wr.heap.size, 1, none⟩ = some y := fun x y z t e os => cell_regrown (Blk.cell (Blk.new wr t #[x, y, z]) 1) e os
    have b2' : ∀ x y z t e os, (grow (redrawn (wr.alloc (.cells #[x, y, z] t)).drew e) os).cell? ⟨wr.heap.size, 2, none⟩ = some z := fun x y z t e os => cell_regrown (Blk.cell (Blk.new wr t #[x, y, z]) 2) e os
    have hMW : ∀ o e os, MapIs Value.string (grow (redrawn (wr.alloc o).drew e) os) mb (fvals fs) := fun o e os => hD.map.only (((Only.refl [] wr).alloc o).drew.trans (Only.regrown [] _ e os)) (by simp)
    have hOW : ∀ o e os, Only [mb] wr (grow (redrawn (wr.alloc o).drew e) os) := fun o e os => ((Only.refl [mb] wr).alloc o).drew.trans (Only.regrown [mb] _ e os)
    have hbW : ∀ x y z t e os, Blk (grow (redrawn (wr.alloc (.cells #[x, y, z] t)).drew e) os) wr.heap.size t #[x, y, z] := fun x y z t e os => (Only.regrown [] (wr.alloc (.cells #[x, y, z] t)) e os).blk (Blk.new wr t #[x, y, z]) (by simp)
    have hmw : wr.heap.size ∉ [mb] := by have := hD.map.lt; simp; omega
    have hjM : Hid (((j + 1 : Nat) : Int) * M = j * M + M) := by unfold Hid; rw [Int.natCast_add, Int.add_mul]; simp
    have hcf : DS.crashFile f kk = ⟨f.b.extract 0 n.toNat, n, f.known || decide (0 < n)⟩ := by simp [DS.crashFile, hn]
    have hc1' : DS.crashOne fs s kk = if (f.known || decide (0 < n)) = true then aput fs s ⟨f.b.extract 0 n.toNat, n, f.known || decide (0 < n)⟩ else adel (aput fs s ⟨f.b.extract 0 n.toNat, n, f.known || decide (0 < n)⟩) s := by
      simp only [DS.crashOne, ← HF.out, hcf]
    have hs1 : Hid (DS.lostAll d.fs d.names keep = lost + (f.b.size - n) + DS.lostAll (DS.crashOne fs s kk) (d.names.drop (j + 1)) (keep.drop (j + 1))) := by
      have e := lostAll_drop fs d.names keep j hlt
      rw [← hse'.out, ← hkk, ← HF.out, hcf] at e
      unfold Hid
      rw [hL.out, e]
      simp only []
      omega
    have hs2' : Hid (DS.crashAll d.fs d.names keep = DS.crashAll (DS.crashOne fs s kk) (d.names.drop (j + 1)) (keep.drop (j + 1))) := by
      have e := crashAll_drop fs d.names keep j hlt
      rw [← hse'.out, ← hkk] at e
      unfold Hid
      rw [hC.out, e]
    have hF' : FOk M (DS.crashOne fs s kk) := by
      have h3 : FOk M (aput fs s ⟨f.b.extract 0 n.toNat, n, f.known || decide (0 < n)⟩) := hF.put _ _ ⟨hn1, by show n ≤ ((f.b.extract 0 n.toNat).size : Int); rw [hns]; omega, by show (f.b.extract 0 n.toNat).size ≤ M; rw [hns]; omega⟩
      rw [hc1']
      split
      · exact h3
      · exact h3.del _
    have HN := Lib.hid hn
    have HC1 := Lib.hid hc1'
    clear hn hcf hc1' hns
    by_cases hjk : j < keep.length
    · obtain ⟨b1, off1, rfl, hb1, hcc1⟩ : ∃ b off, A1 = some ⟨b, off, none⟩ ∧ b < w.heap.size ∧ ∀ j, j < (ints keep).length → w.cell? ⟨b, off + j, none⟩ = (ints keep)[j]? := by
        rcases hc1 with h0 | h0
        · omega
        · exact h0
      obtain ⟨z, hz⟩ : ∃ z, z = keep[j] := ⟨_, rfl⟩
      have ck : wr.cell? ⟨b1, off1 + j, none⟩ = some (.int .i64 z) := by
        have hg := (hap b1 rfl).resolve_right (by intro q; rw [q] at hjk; simp at hjk)
        rw [hW.cell hb1 (by simp; exact hg), hcc1 j (by simpa [ints] using hjk), hz]
        simp [ints, hjk]
      have ck1 : ∀ o1, (wr.alloc o1).cell? ⟨b1, off1 + j, none⟩ = some (.int .i64 z) := fun o1 => (World.cell?_alloc_lt wr o1 _ (block_lt_of_cell ck)).trans ck
      have hkz : max z 0 = kk := by rw [hkk, hz, List.headD_eq_head?_getD, List.head?_drop]; simp [hjk]
      have HK := Lib.hid hkz
      have HKK := Lib.hid hkk
      clear hz hkz hkk
      go_wp2_with (at_lookup; refine wpList_lookup_is rfl 55 rfl keyEnc_string Try.underlying55 Try.underlying9 (zeroFile _) s rfl rfl hD.map _ HG.out ?_)
      rw [HK.out, ← HN.out]
      cases hkn : f.known
      · by_cases h0n : 0 < n
        · have HB : Hid ((f.known || decide (0 < n)) = true) := by unfold Hid; simp [hkn, h0n]
          go_region
          go_wp2
          refine wp_region_btail 6 (by kernel_rfl) (by kernel_rfl) ?_
          simp only [List.take_succ_cons, List.take_zero]
          repeat (go_big_quiet_step (fail))
          refine wpQuiet_nil ?_
          rintro _ ⟨p, rfl⟩
          simp only [List.drop_succ_cons, List.drop_zero]
          refine wpList_update_is rfl 55 rfl keyEnc_string Try.underlying55 Try.underlying9 s (.agg #[.string (f.b.extract 0 n.toNat), .int .i64 n, .bool true]) rfl rfl rfl (hMW _ p.d p.os) ?_
          intro w5 hm5 hu5
          have hO5 := (hOW _ p.d p.os).trans hu5
          have hb5 := hu5.blk (hbW _ _ _ _ p.d p.os) hmw
          have k5 := hb5.cell 2
          have d5 : w5.cell? ⟨db, 2, none⟩ = some (.map (some mb)) := (hO5.cell (block_lt_of_cell d2) (by simp; exact fun q => h.ne q.symm)).trans d2
          clear hu5
          go_wp2
          have HE : DS.crashOne fs s kk = aput fs s ⟨f.b.extract 0 n.toNat, n, true⟩ := by rw [HC1.out, HB.out, if_pos rfl]
          have HD := hD.files hO5 (DS.crashOne fs s kk) (by rw [HE, aput_map]; exact hm5)
          have HO := hO.trans (hO5.mono (S' := [db, mb]) (by simp))
          clear HE
          go_roundw
          case rel => exact ⟨j + 1, _, _, by omega, by go_num, rfl, by omega, by rw [hjM.out]; omega, hs1, hs2', hF', HD, HO⟩
          case measure => simp [intOf]; omega
        · have HB : Hid ((f.known || decide (0 < n)) = false) := by unfold Hid; rw [hkn]; simp; omega
          go_region
          go_wp2
          refine wp_region_btail 6 (by kernel_rfl) (by kernel_rfl) ?_
          simp only [List.take_succ_cons, List.take_zero]
          repeat (go_big_quiet_step (fail))
          refine wpQuiet_nil ?_
          rintro _ ⟨p, rfl⟩
          simp only [List.drop_succ_cons, List.drop_zero]
          refine wpList_update_is rfl 55 rfl keyEnc_string Try.underlying55 Try.underlying9 s (.agg #[.string (f.b.extract 0 n.toNat), .int .i64 n, .bool false]) rfl rfl rfl (hMW _ p.d p.os) ?_
          intro w5 hm5 hu5
          have hO5 := (hOW _ p.d p.os).trans hu5
          have hb5 := hu5.blk (hbW _ _ _ _ p.d p.os) hmw
          have k5 := hb5.cell 2
          have d5 : w5.cell? ⟨db, 2, none⟩ = some (.map (some mb)) := (hO5.cell (block_lt_of_cell d2) (by simp; exact fun q => h.ne q.symm)).trans d2
          clear hu5
          go_wp2_with (at_delete; refine wpList_delete_is rfl 55 9 rfl keyEnc_string Try.underlying55 Try.underlying9 s rfl rfl hm5 ?_; intro w6 hm6 hu6)
          have HE : DS.crashOne fs s kk = adel (aput fs s ⟨f.b.extract 0 n.toNat, n, false⟩) s := by rw [HC1.out, HB.out, if_neg Bool.false_ne_true]
          have HD := hD.files (hO5.trans hu6) (DS.crashOne fs s kk) (by rw [HE, adel_map, aput_map]; exact hm6)
          have HO := hO.trans ((hO5.trans hu6).mono (S' := [db, mb]) (by simp))
          clear HE
          go_roundw
          case rel => exact ⟨j + 1, _, _, by omega, by go_num, rfl, by omega, by rw [hjM.out]; omega, hs1, hs2', hF', HD, HO⟩
          case measure => simp [intOf]; omega
      · have HB : Hid ((f.known || decide (0 < n)) = true) := by unfold Hid; simp [hkn]
        go_region
        go_wp2
        refine wp_region_btail 6 (by kernel_rfl) (by kernel_rfl) ?_
        simp only [List.take_succ_cons, List.take_zero]
        repeat (go_big_quiet_step (fail))
        refine wpQuiet_nil ?_
        rintro _ ⟨p, rfl⟩
        simp only [List.drop_succ_cons, List.drop_zero]
        refine wpList_update_is rfl 55 rfl keyEnc_string Try.underlying55 Try.underlying9 s (.agg #[.string (f.b.extract 0 n.toNat), .int .i64 n, .bool true]) rfl rfl rfl (hMW _ p.d p.os) ?_
        intro w5 hm5 hu5
        have hO5 := (hOW _ p.d p.os).trans hu5
        have hb5 := hu5.blk (hbW _ _ _ _ p.d p.os) hmw
        have k5 := hb5.cell 2
        have d5 : w5.cell? ⟨db, 2, none⟩ = some (.map (some mb)) := (hO5.cell (block_lt_of_cell d2) (by simp; exact fun q => h.ne q.symm)).trans d2
        clear hu5
        go_wp2
        have HE : DS.crashOne fs s kk = aput fs s ⟨f.b.extract 0 n.toNat, n, true⟩ := by rw [HC1.out, HB.out, if_pos rfl]
        have HD := hD.files hO5 (DS.crashOne fs s kk) (by rw [HE, aput_map]; exact hm5)
        have HO := hO.trans (hO5.mono (S' := [db, mb]) (by simp))
        clear HE
        go_roundw
        case rel => exact ⟨j + 1, _, _, by omega, by go_num, rfl, by omega, by rw [hjM.out]; omega, hs1, hs2', hF', HD, HO⟩
        case measure => simp [intOf]; omega
    · have hkz : kk = 0 := by rw [hkk, List.headD_eq_head?_getD, List.head?_drop]; simp [hjk]
      have HK := Lib.hid hkz
      have HKK := Lib.hid hkk
      clear hkz hkk
      go_wp2_with (at_lookup; refine wpList_lookup_is rfl 55 rfl keyEnc_string Try.underlying55 Try.underlying9 (zeroFile _) s rfl rfl hD.map _ HG.out ?_)
      rw [show min 0 ((f.b.size : Int) - f.lasts) = min kk ((f.b.size : Int) - f.lasts) from by rw [HK.out], ← HN.out]
      cases hkn : f.known
      · by_cases h0n : 0 < n
        · have HB : Hid ((f.known || decide (0 < n)) = true) := by unfold Hid; simp [hkn, h0n]
          go_region
          go_wp2
          refine wp_region_btail 6 (by kernel_rfl) (by kernel_rfl) ?_
          simp only [List.take_succ_cons, List.take_zero]
          repeat (go_big_quiet_step (fail))
          refine wpQuiet_nil ?_
          rintro _ ⟨p, rfl⟩
          simp only [List.drop_succ_cons, List.drop_zero]
          refine wpList_update_is rfl 55 rfl keyEnc_string Try.underlying55 Try.underlying9 s (.agg #[.string (f.b.extract 0 n.toNat), .int .i64 n, .bool true]) rfl rfl rfl (hMW _ p.d p.os) ?_
          intro w5 hm5 hu5
          have hO5 := (hOW _ p.d p.os).trans hu5
          have hb5 := hu5.blk (hbW _ _ _ _ p.d p.os) hmw
          have k5 := hb5.cell 2
          have d5 : w5.cell? ⟨db, 2, none⟩ = some (.map (some mb)) := (hO5.cell (block_lt_of_cell d2) (by simp; exact fun q => h.ne q.symm)).trans d2
          clear hu5
          go_wp2
          have HE : DS.crashOne fs s kk = aput fs s ⟨f.b.extract 0 n.toNat, n, true⟩ := by rw [HC1.out, HB.out, if_pos rfl]
          have HD := hD.files hO5 (DS.crashOne fs s kk) (by rw [HE, aput_map]; exact hm5)
          have HO := hO.trans (hO5.mono (S' := [db, mb]) (by simp))
          clear HE
          go_roundw
          case rel => exact ⟨j + 1, _, _, by omega, by go_num, rfl, by omega, by rw [hjM.out]; omega, hs1, hs2', hF', HD, HO⟩
          case measure => simp [intOf]; omega
        · have HB : Hid ((f.known || decide (0 < n)) = false) := by unfold Hid; rw [hkn]; simp; omega
          go_region
          go_wp2
          refine wp_region_btail 6 (by kernel_rfl) (by kernel_rfl) ?_
          simp only [List.take_succ_cons, List.take_zero]
          repeat (go_big_quiet_step (fail))
          refine wpQuiet_nil ?_
          rintro _ ⟨p, rfl⟩
          simp only [List.drop_succ_cons, List.drop_zero]
          refine wpList_update_is rfl 55 rfl keyEnc_string Try.underlying55 Try.underlying9 s (.agg #[.string (f.b.extract 0 n.toNat), .int .i64 n, .bool false]) rfl rfl rfl (hMW _ p.d p.os) ?_
          intro w5 hm5 hu5
          have hO5 := (hOW _ p.d p.os).trans hu5
          have hb5 := hu5.blk (hbW _ _ _ _ p.d p.os) hmw
          have k5 := hb5.cell 2
          have d5 : w5.cell? ⟨db, 2, none⟩ = some (.map (some mb)) := (hO5.cell (block_lt_of_cell d2) (by simp; exact fun q => h.ne q.symm)).trans d2
          clear hu5
          go_wp2_with (at_delete; refine wpList_delete_is rfl 55 9 rfl keyEnc_string Try.underlying55 Try.underlying9 s rfl rfl hm5 ?_; intro w6 hm6 hu6)
          have HE : DS.crashOne fs s kk = adel (aput fs s ⟨f.b.extract 0 n.toNat, n, false⟩) s := by rw [HC1.out, HB.out, if_neg Bool.false_ne_true]
          have HD := hD.files (hO5.trans hu6) (DS.crashOne fs s kk) (by rw [HE, adel_map, aput_map]; exact hm6)
          have HO := hO.trans ((hO5.trans hu6).mono (S' := [db, mb]) (by simp))
          clear HE
          go_roundw
          case rel => exact ⟨j + 1, _, _, by omega, by go_num, rfl, by omega, by rw [hjM.out]; omega, hs1, hs2', hF', HD, HO⟩
          case measure => simp [intOf]; omega
      · have HB : Hid ((f.known || decide (0 < n)) = true) := by unfold Hid; simp [hkn]
        go_region
        go_wp2
        refine wp_region_btail 6 (by kernel_rfl) (by kernel_rfl) ?_
        simp only [List.take_succ_cons, List.take_zero]
        repeat (go_big_quiet_step (fail))
        refine wpQuiet_nil ?_
        rintro _ ⟨p, rfl⟩
        simp only [List.drop_succ_cons, List.drop_zero]
        refine wpList_update_is rfl 55 rfl keyEnc_string Try.underlying55 Try.underlying9 s (.agg #[.string (f.b.extract 0 n.toNat), .int .i64 n, .bool true]) rfl rfl rfl (hMW _ p.d p.os) ?_
        intro w5 hm5 hu5
        have hO5 := (hOW _ p.d p.os).trans hu5
        have hb5 := hu5.blk (hbW _ _ _ _ p.d p.os) hmw
        have k5 := hb5.cell 2
        have d5 : w5.cell? ⟨db, 2, none⟩ = some (.map (some mb)) := (hO5.cell (block_lt_of_cell d2) (by simp; exact fun q => h.ne q.symm)).trans d2
        clear hu5
        go_wp2
        have HE : DS.crashOne fs s kk = aput fs s ⟨f.b.extract 0 n.toNat, n, true⟩ := by rw [HC1.out, HB.out, if_pos rfl]
        have HD := hD.files hO5 (DS.crashOne fs s kk) (by rw [HE, aput_map]; exact hm5)
        have HO := hO.trans (hO5.mono (S' := [db, mb]) (by simp))
        clear HE
        go_roundw
        case rel => exact ⟨j + 1, _, _, by omega, by go_num, rfl, by omega, by rw [hjM.out]; omega, hs1, hs2', hF', HD, HO⟩
        case measure => simp [intOf]; omega

theorem crash_any' {w : World} {db mb : Nat} {d : DS} {kv v : Value} {keep : List Int} {M : Nat} (h : DiskAt w db mb d kv) (hk : Fs d.fs M) (hM : M ≤ 1125899906842624)
    (hs : Slc w 1 v keep.length (ints keep)) (hap : ∀ g, v.ownBlock = some g → (g ≠ db ∧ g ≠ mb) ∨ keep = []) :
    Calls Try.prog 18 #[.pointer (some ⟨db, 0, none⟩), v] w fun e w' => e = .returned (.int .i64 (d.lost keep)) ∧ (∃ kv', DiskAt w' db mb (d.crash keep) kv' ∧ (∀ g, kv'.ownBlock = some g → kv.ownBlock = some g ∨ w.heap.size ≤ g)) ∧ Only [db, mb] w w' := by
  cases ho : d.on
  · refine (crash_off h ho).mono fun e w' ⟨h1, h2⟩ => ?_
    subst h2
    have e1 : d.crash keep = d := by simp [DS.crash, ho]
    have e2 : d.lost keep = 0 := by simp [DS.lost, ho]
    rw [e1, e2]
    exact ⟨h1, ⟨kv, h, fun g hg => .inl hg⟩, Only.refl _ _⟩
  · refine (crash_on h ho hk hM hs hap).mono fun e w' ⟨h1, ⟨kv', h2, h3⟩, h4⟩ => ?_
    have e2 : d.lost keep = DS.lostAll d.fs d.names keep := by simp [DS.lost, ho]
    rw [e2]
    exact ⟨h1, ⟨kv', h2, fun g hg => .inr (h3 g hg)⟩, h4⟩
theorem crash_any {w : World} {db mb : Nat} {d : DS} {kv v : Value} {keep : List Int} {M : Nat} (h : DiskAt w db mb d kv) (hk : Fs d.fs M) (hM : M ≤ 1125899906842624)
    (hs : Slc w 1 v keep.length (ints keep)) (hap : ∀ g, v.ownBlock = some g → g ≠ db ∧ g ≠ mb) :
    Calls Try.prog 18 #[.pointer (some ⟨db, 0, none⟩), v] w fun e w' => e = .returned (.int .i64 (d.lost keep)) ∧ (∃ kv', DiskAt w' db mb (d.crash keep) kv' ∧ (∀ g, kv'.ownBlock = some g → kv.ownBlock = some g ∨ w.heap.size ≤ g)) ∧ Only [db, mb] w w' :=
  crash_any' h hk hM hs fun g hg => .inl (hap g hg)
end Go.Proofs.Ytgahjdfjlfoioaa
