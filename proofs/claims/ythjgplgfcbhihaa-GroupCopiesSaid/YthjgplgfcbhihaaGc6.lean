/- Contracts: Sort of a rising row; Feed. -/
import Derived.Test.YthjgplgfcbhihaaGc5
set_option linter.unusedVariables false
set_option linter.unusedSimpArgs false
namespace Go.Proofs.Ythjgplgfcbhihaa
open Go.RowKit Go Go.Sort Go.Lib
theorem rangeUp_snoc : ∀ (k : Nat) (a : Int), rangeUp (k + 1) a = rangeUp k a ++ [a + k]
  | 0, a => by simp [rangeUp]
  | k + 1, a => by
    rw [rangeUp, rangeUp_snoc k (a + 1), rangeUp]
    simp
    omega
theorem sortI_any {w : World} {v : Value} {xs : List Int} (h : Own w v xs) (hr : Ris xs) (hb : xs.length ≤ 1000000000) :
    Calls Try.prog 33 #[v] w fun e w' => e = .returned (.tuple #[]) ∧ RowTo w v w' v xs := by
  by_cases hv : v = .slice none 0 0
  · subst hv
    have hx : xs = [] := by
      rcases own_parts h with ⟨_, q⟩ | ⟨g, cap, cs, q, _⟩
      · exact q
      · cases q
    subst hx
    exact (Try.slices_Sort_int_none none 0 w).mono fun e w' ⟨h1, h2⟩ => ⟨h1, by rw [h2]; exact RowTo.same h (Only.refl _ _)⟩
  · obtain ⟨g, cap, rfl, _, hg, hn, hm, hz, hH⟩ := holds_of_ownsRow (enc := Value.int .i64) (zs := xs) h hv
    refine (Try.slices_Sort_int g 0 cap xs w hH hg (by omega)).mono ?_
    rintro e w' ⟨rfl, q, os, rfl⟩
    rw [ris_sort hr]
    have hr2 := ownsRow_putRow (enc := Value.int .i64) (q := q) (ys := xs) (k := xs.length) h rfl (Nat.le_refl _)
    rw [List.take_length] at hr2
    have hO : Only [g] w (putRow (Value.int .i64) (Sort.ahead w q) g 0 xs.toArray) := ⟨rfl, rfl, rfl, by simp [putRow, mapBlock, Sort.ahead], fun k _ hk => by
      have : g ≠ k := by simp at hk; omega
      simp [putRow, mapBlock, Sort.ahead, Array.getElem?_modify, this]⟩
    have hG : ∀ W : World, Only [] W (grow W os) := fun W => ⟨rfl, rfl, rfl, by simp [grow], fun k hk _ => by simp [grow, Array.getElem?_append_left hk]⟩
    exact ⟨rfl, ⟨(show Own _ _ xs from hr2).only0 (hG _), hO.trans ((hG _).of_nil), fun b hb => .inl hb⟩⟩
section
variable {w : World} {gb fb tb N : Nat} {vw vp va vs : Value} {pf : ByteArray → Value} {g : GS}
def feedTo (g : GS) (i : Nat) : GS := { g with waiting := g.waiting ++ rangeUp i g.next, next := g.next + i }
theorem feedTo_zero (g : GS) : feedTo g 0 = g := by
  cases g
  simp [feedTo, rangeUp]
theorem feedTo_succ (g : GS) (i : Nat) : feedTo g (i + 1) = { feedTo g i with waiting := (feedTo g i).waiting ++ [g.next + i], next := g.next + i + 1 } := by
  unfold feedTo
  simp only [GS.mk.injEq, true_and, and_true]
  rw [rangeUp_snoc, List.append_assoc]
  refine ⟨?_, rfl⟩
  omega
theorem feedTo_ok (hok : g.Ok N) {i : Nat} (hi : i ≤ 1000) : (feedTo g i).Ok (N + 1) := by
  have h' := hok.more (Nat.le_succ N)
  have hw := hok.wa.up hok.nx.1 i
  have hn : g.next ≤ g.next + (i : Int) := by omega
  exact ⟨hok.fr, hok.bu, hok.re, ⟨by show g.from_ ≤ g.next + i; have := hok.nx.1; omega, by show g.next + i ≤ g.from_ + 1000 * ((N + 1 : Nat) : Int); have := hok.nx.2; omega⟩, hw, hok.pa.more hn, hok.ac.more hn, hok.sk.more hn, fun p hp => (hok.fl p hp).more hn, hok.few, hok.nod, h'.tr⟩
set_option maxRecDepth 100000 in
set_option maxHeartbeats 2000000 in
theorem feed_any (h : GAt w gb fb tb vw vp va vs pf g) (hok : g.Ok N) (hN : N ≤ 10000) (n : Int) :
    Calls Try.prog 10 #[.pointer (some ⟨gb, 0, none⟩), .int .i64 n] w fun e w' => e = .returned (.int .i64 (g.feed n).1) ∧ GOut w (hG gb fb tb (rowsOf vw vp va vs pf g)) gb fb tb (g.feed n).2 w' := by
  have HN := Lib.hid (none_any h)
  by_cases h1 : n < 1
  · have hR : g.feed n = (0, g) := by unfold GS.feed; rw [if_pos h1]
    rw [hR]
    clear hR
    go_enter Try.func10, Try.ntmps10
    go_wp2_with (go_at_call 29; refine HN.out.mono ?_; rintro e w1 ⟨rfl, rfl⟩)
    go_ret
    exact ⟨rfl, GOut.refl h (Only.refl _ _)⟩
  · obtain ⟨k, hk⟩ : ∃ k, k = (max (min n (1000 - (g.openN : Int))) 0).toNat := ⟨_, rfl⟩
    have hkI : max (min n (1000 - (g.openN : Int))) 0 = (k : Int) := by omega
    have hk1 : k ≤ 1000 := by omega
    have hR : g.feed n = ((k : Int), feedTo g k) := by
      unfold GS.feed feedTo
      rw [if_neg h1]
      dsimp only
      rw [← hk, GS.feed_wait hok]
    rw [hR]
    have hO := Lib.hid (open_any h hok (by omega))
    have hT := hok.open_le
    obtain ⟨T, hT2⟩ : ∃ T, T = g.openN := ⟨_, rfl⟩
    rw [← hT2] at hO hT hkI
    obtain ⟨i0, hi, hz0, hz1, hz2⟩ := info_parts infoI
    clear hR hk hT2
    go_enter Try.func10, Try.ntmps10
    go_wp2_with (first
      | (go_at_call 29; refine HN.out.mono ?_; rintro e w1 ⟨rfl, rfl⟩)
      | (go_at_call 32; refine hO.out.mono ?_; rintro e w1 ⟨rfl, ho1⟩))
    have hnx1 := hok.nx
    have hfr1 := hok.fr
    go_loopw [18] (fun iv wr => ∃ (i : Nat) (vw' : Value), i ≤ k ∧ iv = .int .i64 i ∧ GAt wr gb fb tb vw' vp va vs pf (feedTo g i) ∧ Stepped w wr (hG gb fb tb (rowsOf vw vp va vs pf g)) (hG gb fb tb (rowsOf vw' vp va vs pf (feedTo g i)))) (fun iv _ => k - (intOf iv).toNat)
    case atStart => exact ⟨0, vw, Nat.zero_le _, rfl, by rw [feedTo_zero]; exact h.only0 ho1, by rw [feedTo_zero]; exact Stepped.first0 ho1 (Stepped.refl _ _)⟩
    case round =>
      obtain ⟨i, vw', hik, rfl, hA, hSt⟩ := hrel
      by_cases hlt : i < k
      · have hwl := (feedTo_ok hok (i := i) (by omega)).len (feedTo_ok hok (i := i) (by omega)).wa
        have c4 : wr.cell? ⟨gb, 4, none⟩ = some vw' := hA.blk.cell 4
        have c3 : wr.cell? ⟨gb, 3, none⟩ = some (.int .i64 (g.next + i)) := hA.blk.cell 3
        have hstep : ∀ (w4 : World) (v' : Value), RowTo wr vw' w4 v' ((feedTo g i).waiting ++ [g.next + i]) → GAt ((w4.setCell ⟨gb, 4, none⟩ v').setCell ⟨gb, 3, none⟩ (.int .i64 (g.next + i + 1))) gb fb tb v' vp va vs pf (feedTo g (i + 1)) ∧ Stepped w ((w4.setCell ⟨gb, 4, none⟩ v').setCell ⟨gb, 3, none⟩ (.int .i64 (g.next + i + 1))) (hG gb fb tb (rowsOf vw vp va vs pf g)) (hG gb fb tb (rowsOf v' vp va vs pf (feedTo g (i + 1)))) := fun w4 v' kr => by
          obtain ⟨k1, k2⟩ := hA.setW kr
          obtain ⟨k3, k4⟩ := k1.setN (g.next + i + 1)
          rw [feedTo_succ]
          exact ⟨k3, (hSt.trans k2).trans k4⟩
        have HStep := Lib.hid hstep
        obtain ⟨Aw, cw, rfl, hw1, hw2⟩ := own_form hA.ownW
        have hnS : gb ∉ (Value.slice Aw (feedTo g i).waiting.length cw).ownBlock.toList := fun q => (hA.rowne gb (mem_blocksOf.2 ⟨(.slice Aw (feedTo g i).waiting.length cw, (feedTo g i).waiting), by simp [rowsOf], by simpa using q⟩)).1 rfl
        have hB := hA.blk
        have hown := hA.ownW
        obtain ⟨xs, hxs⟩ : ∃ xs, xs = (feedTo g i).waiting := ⟨_, rfl⟩
        rw [← hxs] at hown HStep c4 hw1 hwl hnS hB
        obtain ⟨S, hS⟩ : ∃ S, S = (Value.slice Aw xs.length cw).ownBlock.toList := ⟨_, rfl⟩
        rw [← hS] at hnS
        have k4 := Within.cell (S := S) c4 hnS
        have k3 := Within.cell (S := S) c3 hnS
        have hlw := hA.blk.lt
        clear hstep c3 c4 hxs hA
        go_wp2_with fail
        refine wp_region_stages (C := fun W => ∃ p : Within S wr, W = p.W) [([0, 1, 2, 3, 4, 5, 6, 7, 8], [9, 10])] [11, 12, 13] (by kernel_rfl) (by kernel_rfl) (by intro c d u a w h; cases d <;> exact h) ⟨⟨_, (Only.refl _ _).drew⟩, rfl⟩ ?_
        refine stagesFirst ?_
        show wpQuiet _ _ _ _ [_, _, _, _, _, _, _, _, _] _
        repeat (go_big_quiet_step (fail))
        refine wpQuiet_nil ?_
        show wpList _ _ _ [_] _ _
        go_wp2_with fail
        refine check_of (S := S) (((Only.refl S wr).drew).alloc _) ?_
        show wpList _ _ _ [_] _ _
        have hOw : ∀ o, Only [] wr (wr.alloc o).drew := fun o => ((Only.refl [] wr).alloc o).drew
        have hown0 : ∀ o, ((wr.alloc o).drew).ownsRow 0 3 1 (.slice Aw xs.length cw) xs.length (ints xs) := fun o => hown.only0 (hOw o)
        have hnb : Blk (wr.alloc (.cells #[.int .i64 (g.next + i)] 3)).drew wr.heap.size 3 #[.int .i64 (g.next + i)] := Blk.new wr 3 #[.int .i64 (g.next + i)]
        refine wpList_append_lies _ rfl (.tmp 24) (.tmp 29) 22 rfl 0 3 i0 (.int .i64 0) 1 8 Try.underlying22 hi hz0 hz1 hz2 rfl (by decide) (.slice Aw xs.length cw) xs.length _ rfl (hown0 _) ⟨wr.heap.size, 0, none⟩ 1 1 [.int .i64 (g.next + i)] rfl rfl (news_blk hnb) ?c2 (by decide) ?c3 ?c4 (Nat.zero_le _) _ rfl ?_
        case c2 => simp [Value.oneCell']
        case c3 => unfold maxLen; omega
        case c4 => omega
        intro g4 cap4 w4 hown4 hgrow4 hlie4 hg4
        have hO4 : Only S wr w4 := ((hOw _).of_nil).grown hgrow4 (fun b hb => .inl (by rw [hS]; simp [hb]))
        have hrt : RowTo wr (.slice Aw xs.length cw) w4 (.slice (some ⟨g4, 0, none⟩) (xs.length + 1) cap4) (xs ++ [g.next + i]) := by
          refine ⟨?_, by rw [← hS]; exact hO4, fun b hb => ?_⟩
          · unfold Own
            rw [show ints (xs ++ [g.next + (i : Int)]) = ints xs ++ [.int .i64 (g.next + i)] by simp [ints], List.length_append]
            exact hown4
          · cases hb
            exact hlie4.imp id (fun q => by rw [q]; simp)
        have hres := HStep.out w4 _ hrt
        have HRes := Lib.hid hres
        have hB4 := hO4.blk hB hnS
        have e3 : w4.cell? ⟨gb, 3, none⟩ = some (.int .i64 (g.next + i)) := hB4.cell 3
        have e4 : w4.cell? ⟨gb, 4, none⟩ = some (.slice Aw xs.length cw) := hB4.cell 4
        have ef := fun j => hB4.free j
        clear hown4 hgrow4 hlie4 hrt hres hnb hown0 hown
        refine check_of hO4 ?_
        refine stagesEnd ?_
        show wpList _ _ _ [_, _, _] _ _
        go_wp2
        exact ⟨⟨i + 1, _, hlt, by simp, HRes.out.1, HRes.out.2⟩, by simp [intOf]; omega⟩
      · have hke : i = k := by omega
        subst hke
        have hOk := feedTo_ok hok (i := i) (by omega)
        have hsrt := sortI_any hA.ownW hOk.wa.ris (by have := hOk.len hOk.wa; omega)
        have c4 : wr.cell? ⟨gb, 4, none⟩ = some vw' := hA.blk.cell 4
        have HT := Lib.hid (fun (w1 : World) (kr : RowTo wr vw' w1 vw' (feedTo g i).waiting) => hA.touchW kr)
        obtain ⟨Aw, cw, rfl, _, _⟩ := own_form hA.ownW
        have HS := Lib.hid hsrt
        clear hsrt
        go_wp2_with (go_at_call 33; refine HS.out.mono ?_; rintro e w5 ⟨rfl, hr5⟩)
        go_ret
        have q := HT.out w5 hr5
        exact ⟨rfl, _, _, _, _, _, q.1, hSt.trans q.2⟩
end
end Go.Proofs.Ythjgplgfcbhihaa
