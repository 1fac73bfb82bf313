/- Contract: Next. -/
import Derived.Test.YthjgplgfcbhihaaGc6
set_option linter.unusedVariables false
set_option linter.unusedSimpArgs false
namespace Go.Proofs.Ythjgplgfcbhihaa
open Go.RowKit Go Go.Sort Go.Lib
def GS.next1 (g : GS) (who : ByteArray) : (Int × Bool) × GS := match g.take1 who with | none => ((0, false), g) | some r => ((r.1, true), r.2)
section
variable {w : World} {gb fb tb N : Nat} {vw vp va vs : Value} {pf : ByteArray → Value} {g : GS}
theorem kept_map {b : Nat} {kv : List (ByteArray × Value)} (h : MapIs Value.string w b kv) (p : Kept w [] w) : MapIs Value.string p.W b kv := by
  obtain ⟨S, h1, h2⟩ := p.h
  exact h.only h1 (fun q => by have := (h2 b q).1; have := h.lt; omega)
theorem lookF (h : GAt w gb fb tb vw vp va vs pf g) (who : ByteArray) (p : Kept w [] w) : (Instr.lookup 50 (.map (some fb)) (.string who) false).run Try.prog p.W = .ok (fv pf g who) p.W := by
  have := (kept_map h.flight p).lookup (P := Try.prog) keyEnc_string Try.underlying50 Try.underlying9 (zeroInts _) who false
  rw [flightOf] at this
  exact this
set_option maxRecDepth 100000 in
set_option maxHeartbeats 2000000 in
theorem next_any (h : GAt w gb fb tb vw vp va vs pf g) (hok : g.Ok N) (hN : N ≤ 10000) (who : ByteArray) :
    Calls Try.prog 11 #[.pointer (some ⟨gb, 0, none⟩), .string who] w fun e w' => e = .returned (.tuple #[.int .i64 (g.next1 who).1.1, .bool (g.next1 who).1.2]) ∧ GOut w (hG gb fb tb (rowsOf vw vp va vs pf g)) gb fb tb (g.next1 who).2 w' := by
  have HRefl := Lib.hid (fun (w' : World) (k : Only [] w w') => GOut.refl h k)
  obtain ⟨H, hH⟩ : ∃ H, H = hG gb fb tb (rowsOf vw vp va vs pf g) := ⟨_, rfl⟩
  rw [← hH] at HRefl ⊢
  have HH := Lib.hid hH
  clear hH
  have HI := Lib.hid (fun (W : World) (hW : Only [] w W) => is_any (h.only0 hW) who)
  have c1 : w.cell? ⟨gb, 1, none⟩ = some (.int .i64 g.buffer) := h.blk.cell 1
  have c4 : w.cell? ⟨gb, 4, none⟩ = some vw := h.blk.cell 4
  have c5 : w.cell? ⟨gb, 5, none⟩ = some (.map (some fb)) := h.blk.cell 5
  have hgl := h.blk.lt
  have k1 := Kept.cell (a := w) (R := []) c1 (.inl hgl)
  have k4 := Kept.cell (a := w) (R := []) c4 (.inl hgl)
  have k5 := Kept.cell (a := w) (R := []) c5 (.inl hgl)
  have klk := lookF h who
  cases hi : g.is who with
  | false =>
    have hR : g.next1 who = ((0, false), g) := by unfold GS.next1 GS.take1; rw [if_pos (.inl hi)]
    rw [hR]
    rw [hi] at HI
    clear hR hi klk k1 k4 k5
    go_enter Try.func11, Try.ntmps11
    go_wp2_with fail
    refine wp_region_stages (C := fun W => ∃ p : Kept w [] w, W = p.W) [([0, 1], [2]), ([3, 4, 5, 6, 7, 8, 9, 10, 11, 12, 13, 14, 15, 16, 17, 18, 19, 20, 21, 22, 23, 24, 25, 26], [])] [] (by kernel_rfl) (by kernel_rfl) (by intro c d u a w h; cases d <;> exact h) ⟨⟨_, (Keeps.refl _ _ _).drew⟩, rfl⟩ ?_
    refine stagesFirst ?_
    show wpQuiet _ _ _ _ [_, _] _
    repeat (go_big_quiet_step (fail))
    refine wpQuiet_nil ?_
    show wpList _ _ _ [_] _ _
    go_wp2_with (go_at_call 30; refine (HI.out _ (Only.refl _ _).drew).mono ?_; rintro e w1 ⟨rfl, rfl⟩)
    refine check_kept ((Keeps.refl _ _ _).drew) ?_
    refine stagesNext ?_
    show wpQuiet _ _ _ _ [_, _, _, _, _, _, _, _, _, _, _, _, _, _, _, _, _, _, _, _, _, _, _, _] _
    try go_frame
    repeat (go_big_quiet_step (fail))
    refine wpQuiet_nil ?_
    refine stagesDone ?_
    go_wp2
    go_ret2
    exact ⟨rfl, HRefl.out _ (Only.refl _ _).drew⟩
  | true =>
    rw [hi] at HI
    obtain ⟨Aw, cw, rfl, hwn1, hwn2, helw⟩ := h.ownW.slc.openI
    obtain ⟨Af, cf, hfv, hf1, hf2⟩ := own_form (h.fl who)
    rw [hfv] at klk
    obtain ⟨fl, hfl⟩ : ∃ fl, fl = g.fl who := ⟨_, rfl⟩
    rw [← hfl] at klk
    by_cases h2 : g.buffer ≤ fl.length
    · have hR : g.next1 who = ((0, false), g) := by unfold GS.next1 GS.take1; rw [if_pos (.inr (by rw [← hfl]; exact h2))]
      rw [hR]
      clear hR hi hfl hfv helw
      go_enter Try.func11, Try.ntmps11
      go_wp2_with fail
      refine wp_region_stages (C := fun W => ∃ p : Kept w [] w, W = p.W) [([0, 1], [2]), ([3, 4, 5, 6, 7, 8, 9, 10, 11, 12, 13, 14, 15, 16, 17, 18, 19, 20, 21, 22, 23, 24, 25, 26], [])] [] (by kernel_rfl) (by kernel_rfl) (by intro c d u a w h; cases d <;> exact h) ⟨⟨_, (Keeps.refl _ _ _).drew⟩, rfl⟩ ?_
      refine stagesFirst ?_
      show wpQuiet _ _ _ _ [_, _] _
      repeat (go_big_quiet_step (fail))
      refine wpQuiet_nil ?_
      show wpList _ _ _ [_] _ _
      go_wp2_with (go_at_call 30; refine (HI.out _ (Only.refl _ _).drew).mono ?_; rintro e w1 ⟨rfl, rfl⟩)
      refine check_kept ((Keeps.refl _ _ _).drew) ?_
      refine stagesNext ?_
      show wpQuiet _ _ _ _ [_, _, _, _, _, _, _, _, _, _, _, _, _, _, _, _, _, _, _, _, _, _, _, _] _
      try go_frame
      repeat (go_big_quiet_step (fail))
      refine wpQuiet_nil ?_
      refine stagesDone ?_
      go_wp2
      go_ret2
      exact ⟨rfl, HRefl.out _ (Only.refl _ _).drew⟩
    · cases hw : g.waiting with
      | nil =>
        have hb2 : decide (g.buffer ≤ (fl.length : Int)) = false := decide_eq_false h2
        have hR : g.next1 who = ((0, false), g) := by unfold GS.next1 GS.take1; rw [if_neg (by rw [hi, ← hfl]; simp; omega), hw]
        rw [hR]
        rw [hw] at k4
        clear hR hi hfl hfv helw
        go_enter Try.func11, Try.ntmps11
        go_wp2_with fail
        refine wp_region_stages (C := fun W => ∃ p : Kept w [] w, W = p.W) [([0, 1], [2]), ([3, 4, 5, 6, 7, 8, 9, 10, 11, 12, 13, 14, 15, 16, 17, 18, 19, 20, 21, 22, 23, 24, 25, 26], [])] [] (by kernel_rfl) (by kernel_rfl) (by intro c d u a w h; cases d <;> exact h) ⟨⟨_, (Keeps.refl _ _ _).drew⟩, rfl⟩ ?_
        refine stagesFirst ?_
        show wpQuiet _ _ _ _ [_, _] _
        repeat (go_big_quiet_step (fail))
        refine wpQuiet_nil ?_
        show wpList _ _ _ [_] _ _
        go_wp2_with (go_at_call 30; refine (HI.out _ (Only.refl _ _).drew).mono ?_; rintro e w1 ⟨rfl, rfl⟩)
        refine check_kept ((Keeps.refl _ _ _).drew) ?_
        refine stagesNext ?_
        show wpQuiet _ _ _ _ [_, _, _, _, _, _, _, _, _, _, _, _, _, _, _, _, _, _, _, _, _, _, _, _] _
        try go_frame
        repeat (go_big_quiet_step (fail))
        refine wpQuiet_nil ?_
        refine stagesDone ?_
        go_wp2
        go_ret2
        exact ⟨rfl, HRefl.out _ (Only.refl _ _).drew⟩
      | cons x xs =>
        have hb2 : decide (g.buffer ≤ (fl.length : Int)) = false := decide_eq_false h2
        have hR : g.next1 who = ((x, true), { g with waiting := xs, flight := aput g.flight who (insL (g.fl who) x), tries := aput g.tries x (g.tr x + 1) }) := by unfold GS.next1 GS.take1; rw [if_neg (by rw [hi, ← hfl]; simp; omega), hw]
        rw [hR]
        have hln : (0 : Int) < (x :: xs).length := by simp
        obtain ⟨b, off, rfl, hbb, hc⟩ := helw 0 (by rw [hw]; simp)
        have d0 : w.drew.cell? ⟨b, off, none⟩ = some (.int .i64 x) := by
          show w.cell? _ = _
          rw [Nat.add_zero] at hc
          rw [hc]
          simp [hw]
        have hbl : (((x :: xs).length : Int) == 0) = false := by rw [beq_eq_false_iff_ne]; simp; omega
        rw [hw] at k4 c4
        obtain ⟨L, hL⟩ : ∃ L, L = (x :: xs).length := ⟨_, rfl⟩
        rw [← hL] at k4 c4 hln hbl
        have hLp : 0 < L := by omega
        have HFl := Lib.hid hfl
        have HFv := Lib.hid hfv
        clear hR hi helw hc hfl hfv
        go_enter Try.func11, Try.ntmps11
        go_wp2_with fail
        refine wp_region_stages (C := fun W => ∃ p : Kept w [] w, W = p.W) [([0, 1], [2]), ([3, 4, 5, 6, 7, 8, 9, 10, 11, 12, 13, 14, 15, 16, 17, 18, 19, 20, 21, 22, 23, 24, 25, 26], [])] [] (by kernel_rfl) (by kernel_rfl) (by intro c d u a w h; cases d <;> exact h) ⟨⟨_, (Keeps.refl _ _ _).drew⟩, rfl⟩ ?_
        refine stagesFirst ?_
        show wpQuiet _ _ _ _ [_, _] _
        repeat (go_big_quiet_step (fail))
        refine wpQuiet_nil ?_
        show wpList _ _ _ [_] _ _
        go_wp2_with (go_at_call 30; refine (HI.out _ (Only.refl _ _).drew).mono ?_; rintro e w1 ⟨rfl, rfl⟩)
        refine check_kept ((Keeps.refl _ _ _).drew) ?_
        refine stagesNext ?_
        show wpQuiet _ _ _ _ [_, _, _, _, _, _, _, _, _, _, _, _, _, _, _, _, _, _, _, _, _, _, _, _] _
        try go_frame
        repeat (go_big_quiet_step (fail))
        refine wpQuiet_nil ?_
        refine stagesDone ?_
        have hd : Only [] w w.drew := (Only.refl [] w).drew
        have h0 := h.only0 hd
        have hwO : Own w.drew (.slice (some ⟨b, off, none⟩) (xs.length + 1) cw) (x :: xs) := by
          have := h0.ownW
          rw [hw] at this
          exact this
        have hxl : (x :: xs).length ≤ 1000000000 := by
          have := hok.len hok.wa
          rw [hw] at this
          omega
        have hD : Calls Try.prog 34 #[.slice (some ⟨b, off, none⟩) (xs.length + 1) cw, .int .i64 0, .int .i64 1] w.drew fun e w' => ∃ v', e = .returned v' ∧ RowTo w.drew (.slice (some ⟨b, off, none⟩) (xs.length + 1) cw) w' v' xs := deleteI_any hwO hxl (i := 0) (by simp)
        have hset : ∀ (w2 : World) (v2 : Value), RowTo w.drew (.slice (some ⟨b, off, none⟩) (xs.length + 1) cw) w2 v2 xs → GAt (w2.setCell ⟨gb, 4, none⟩ v2) gb fb tb v2 vp va vs pf { g with waiting := xs } ∧ Stepped w (w2.setCell ⟨gb, 4, none⟩ v2) H (hG gb fb tb (rowsOf v2 vp va vs pf { g with waiting := xs })) := fun w2 v2 k => by
          have hk : RowTo w.drew (.slice (some ⟨b, off, none⟩) g.waiting.length cw) w2 v2 xs := by rw [hw]; exact k
          obtain ⟨k1, k2⟩ := h0.setW hk
          rw [HH.out]
          exact ⟨k1, Stepped.first0 hd k2⟩
        have hne : b ≠ gb := (h.rowne b (mem_blocksOf.2 ⟨(.slice (some ⟨b, off, none⟩) g.waiting.length cw, g.waiting), by simp [rowsOf], rfl⟩)).1
        have hgb4 : gb ∉ (Value.slice (some ⟨b, off, none⟩) (xs.length + 1) cw).ownBlock.toList := by
          simp [Value.ownBlock]
          exact fun q => hne q.symm
        have hB0 := h0.blk
        have HD := Lib.hid hD
        have HSet := Lib.hid hset
        have HOk := Lib.hid hok
        have hflb := hok.len (hok.flOf who)
        have hflr := (hok.flOf who).ris
        rw [← HFl.out] at hflb hflr
        have htr := hok.trOf x
        clear hD hset h0 hwO hw hok
        go_wp2_with (go_at_call 34; refine HD.out.mono ?_; rintro e w2 ⟨v2, rfl, kr2⟩
                     obtain ⟨A2, c2, rfl, _, _⟩ := own_form kr2.own
                     have hB2 := kr2.only.blk hB0 hgb4
                     have e4 : w2.cell? ⟨gb, 4, none⟩ = some (.slice (some ⟨b, off, none⟩) g.waiting.length cw) := hB2.cell 4
                     have ef : w2.frozen? ⟨gb, 4, none⟩ = false := hB2.free 4)
        have q3 := HSet.out w2 _ kr2
        obtain ⟨v2, hv2⟩ : ∃ v2, v2 = Value.slice A2 xs.length c2 := ⟨_, rfl⟩
        rw [← hv2] at q3 ⊢
        obtain ⟨w3, hw3⟩ : ∃ w3, w3 = w2.setCell ⟨gb, 4, none⟩ v2 := ⟨_, rfl⟩
        rw [← hw3] at q3 ⊢
        obtain ⟨h3, st3⟩ := q3
        clear hw3 hv2 e4 ef hB2 kr2 HSet HD hB0 hgb4
        have hfv3 : fv pf { g with waiting := xs } who = .slice Af fl.length cf := by
          have := HFv.out
          rw [← HFl.out] at this
          exact this
        have hfl3 : GS.fl { g with waiting := xs } who = fl := HFl.out.symm
        have hF3 := h3.fl who
        rw [hfv3, hfl3] at hF3
        obtain ⟨S, hS⟩ : ∃ S, S = (Value.slice Af fl.length cf).ownBlock.toList := ⟨_, rfl⟩
        have hSin : ∀ y ∈ S, y ≠ gb ∧ y ≠ fb ∧ y ≠ tb := fun y hy => by
          rw [hS] at hy
          have hy' : (fv pf { g with waiting := xs } who).ownBlock = some y := by rw [hfv3]; simpa using hy
          have hmem : y ∈ blocksOf (rowsOf v2 vp va vs pf { g with waiting := xs }) := by
            unfold fv GS.is at hy'
            cases hx : aget g.flight who with
            | none => simp only [hx] at hy'; cases hy'
            | some l =>
              simp only [hx] at hy'
              refine mem_blocksOf.2 ⟨(pf who, l), ?_, hy'⟩
              simp only [rowsOf, List.mem_cons]
              exact .inr (.inr (.inr (.inr (List.mem_map.2 ⟨(who, l), aget_mem hx, rfl⟩))))
          exact h3.rowne y hmem
        have hgS : gb ∉ S := fun q => (hSin gb q).1 rfl
        have hfS : fb ∉ S := fun q => (hSin fb q).2.1 rfl
        have m5 := Within.cell (S := S) (h3.blk.cell 5 : w3.cell? ⟨gb, 5, none⟩ = some (.map (some fb))) hgS
        have mlk : ∀ p : Within S w3, (Instr.lookup 50 (.map (some fb)) (.string who) false).run Try.prog p.W = .ok (.slice Af fl.length cf) p.W := fun p => by
          have := (h3.flight.only p.h hfS).lookup (P := Try.prog) keyEnc_string Try.underlying50 Try.underlying9 (zeroInts _) who false
          rw [flightOf, hfv3] at this
          exact this
        have HIn := Lib.hid (insert_any (hF3.only0 ((Only.refl [] w3).drew)) hflr (by omega) x)
        clear k1 k4 k5 klk c1 c4 c5 HI hfl3
        refine wp_region_stages (C := fun W => ∃ p : Within S w3, W = p.W) [([0, 1, 2, 3, 4, 5, 6, 7, 8, 9, 10, 11], [12])] [13] (by kernel_rfl) (by kernel_rfl) (by intro c d u a w h; cases d <;> exact h) ⟨⟨_, (Only.refl _ _).drew⟩, rfl⟩ ?_
        refine stagesFirst ?_
        show wpQuiet _ _ _ _ [_, _, _, _, _, _, _, _, _, _, _, _] _
        repeat (go_big_quiet_step (fail))
        refine wpQuiet_nil ?_
        show wpList _ _ _ [_] _ _
        go_wp2_with (go_at_call 35; refine HIn.out.mono ?_; rintro e w4 ⟨v4, rfl, kr4⟩)
        have kr : RowTo w3 (.slice Af fl.length cf) w4 v4 (insL fl x) := RowTo.first0 ((Only.refl [] w3).drew) kr4
        have hkS : Only S w3 w4 := by rw [hS]; exact kr.only
        have hmF := h3.flight.only hkS hfS
        have hput := fun (w5 : World) (k2 : Only [fb] w4 w5) (hm : MapIs Value.string w5 fb (aput (g.flight.map fun p => (p.1, pf p.1)) who v4)) => h3.putF (who := who) (by rw [hfv3]; exact kr) k2 hm
        have HPut := Lib.hid hput
        clear hput kr kr4 hF3 mlk m5 HIn hS hfv3
        refine check_of (S := S) hkS ?_
        refine stagesEnd ?_
        show wpList _ _ _ [_] _ _
        refine wpList_update_is rfl 50 rfl keyEnc_string Try.underlying50 Try.underlying9 who v4 rfl rfl rfl hmF ?_
        intro w5 hm5 hk5
        obtain ⟨h5, st5⟩ := HPut.out w5 hk5 hm5
        clear hm5 hk5 HPut hmF
        have c9 : w5.cell? ⟨gb, 9, none⟩ = some (.map (some tb)) := h5.blk.cell 9
        have HTr := Lib.hid (show (aget (g.tries.map fun p => (p.1, Value.int .i64 p.2)) x).getD (.int .i64 0) = .int .i64 (g.tr x) from triesOf g x)
        have hm5t : MapIs (Value.int .i64) w5 tb (g.tries.map fun p => (p.1, Value.int .i64 p.2)) := h5.tries
        have HM5 := Lib.hid hm5t
        have hnT := h5.nodT
        have hap : aput (g.tries.map fun p => (p.1, Value.int .i64 p.2)) x (.int .i64 (g.tr x + 1)) = (aput g.tries x (g.tr x + 1)).map fun p => (p.1, Value.int .i64 p.2) := aput_mapk (fun _ k => Value.int .i64 k) (fun _ k => Value.int .i64 k) g.tries hnT x (g.tr x + 1) _ rfl (fun _ _ => rfl)
        have HAp := Lib.hid hap
        obtain ⟨t, ht⟩ : ∃ t, t = g.tr x := ⟨_, rfl⟩
        rw [← ht] at HTr HAp htr
        have HTe := Lib.hid ht
        clear hap hm5t ht
        go_wp2_with (first
          | (refine wpList_lookup_is rfl 51 rfl (keyEnc_int .i64) Try.underlying51 Try.underlying3 (zeroInt _) x rfl rfl HM5.out _ HTr.out ?_)
          | (refine wpList_update_is rfl 51 rfl (keyEnc_int .i64) Try.underlying51 Try.underlying3 x (.int .i64 (t + 1)) rfl rfl rfl HM5.out ?_; intro w6 hm6 hk6))
        rw [HAp.out] at hm6
        obtain ⟨h6, st6⟩ := h5.setT hk6 hm6
        go_ret2
        rw [← HFl.out, ← HTe.out]
        exact ⟨rfl, _, _, _, _, _, h6, (st3.trans st5).trans st6⟩
end
end Go.Proofs.Ythjgplgfcbhihaa
