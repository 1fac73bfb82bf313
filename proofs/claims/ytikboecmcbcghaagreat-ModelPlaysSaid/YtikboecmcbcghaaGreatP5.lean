/- Proved here: contracts of functions and plain laws, part 5 of one proof. Conditions: each theorem names its own. -/
import Derived.Test.YtikboecmcbcghaaGreatP4
import Derived.Laws.IdiomStrings
import Derived.OrdersIn
import Derived.RangeFuncNested
import Derived.RangeFuncCalls
import Derived.Shelf.Small.Bits
import Derived.Shelf.Strconv.Itoa0
import Derived.Shelf.Sort.Plain
import Derived.Ground.Names2Prog
import Derived.Shelf.Slices.Clone
import Derived.Shelf.Slices.In.SortNone
import Derived.Ground.SlgfProg
import Derived.Shelf.SlicesE.IndexFunc
import Derived.Shelf.SlicesE.DeleteFunc
import Derived.Shelf.SlIter.Nil
import Derived.Shelf.SortM.Plain
import Derived.Shelf.SortM.SortNone
import Derived.Ground.GgzProg
import Derived.Ground.SlgmProg
import Derived.Shelf.SlMaps.Clone
import Derived.Ground.SlmcProg
import Derived.Shelf.SlIter.Collect
import Derived.Test.YtikboecmcbcghaaGreatProg
/- The document's Do: an append of what is not there. -/
set_option linter.unusedVariables false
set_option linter.unusedSimpArgs false
namespace Go.Proofs.YtikboecmcbcghaaGreat
open Go Go.RowKit Go.Sort
section
variable {a w : World} {H : List Nat} {rb : Nat} {r : RS}
set_option maxRecDepth 100000 in
set_option maxHeartbeats 4000000 in
theorem ddo_app2 (h : HasD a w H rb r) (hf : r.Fine) (hs : r.s.length + 3 ≤ 1000000) (hdb : 0 ≤ r.done ∧ r.done ≤ 1000000000) (c : Cmd) (v : Value) (he : Slc w 4 v c.events.length (c.events.flatMap EventR.cells)) (hn : ∀ g, v.ownBlock = some g → g ∉ H) (ho : CmdOk c) (hk : c.check = 0) (h4 : c.kind = 1) (hd : (r.get c.stream).deleted = false)
    (hlm : r.l.length + c.events.length ≤ 1000000) (hv : ¬ 0 ≤ firstAt (((c.events.head?).map (·.id)).getD 0) (r.of c.stream) 0) :
    Calls Tryz.prog 12 #[.pointer (some ⟨rb, 0, none⟩), c.val v] w fun e w' => e = .returned ((r.tick c.time).act c).1.val ∧ DTo a w H rb ((r.tick c.time).act c).2 w' := by
  have hsf := stF
  have HV := Lib.hid hv
  clear hv
  have hb2 : (c.kind == 2) = false := by rw [beq_eq_false_iff_ne]; omega
  have hb3 : (c.kind == 3) = false := by rw [beq_eq_false_iff_ne]; omega
  have hlt4 : c.kind < 4 := by omega
  have H4 := Lib.hid h4
  clear h4
  have hft := hf.tick (check_kind hk).2.2
  obtain ⟨A1, cap1, hev, hn3, hn4, hes⟩ := he.openE EventR.cells (fun _ => rfl)
  unfold maxLen at hn4
  subst hev
  have HCk := Lib.hid (fun (W : World) (hw : Only [] w W) => show Calls Tryz.prog 43 #[.agg #[.int .i64 c.kind, .int .i64 c.time, .string c.stream, .int .i64 c.expected, .slice A1 c.events.length cap1, .int .i64 c.mt.maxCount, .int .i64 c.mt.maxAge, .int .i64 c.mt.before]] W fun e w' => e = .returned (.int .i64 c.check) ∧ Only [] W w' from r7check_any c _ W (he.only0 hw) ho)
  have h2 : ∀ o1 o2, Only [] w ((w.alloc o1).alloc o2) := fun o1 o2 => ((Only.refl [] w).alloc o1).alloc o2
  have kC : ∀ cs t o2, Blk ((w.alloc (.cells cs t)).alloc o2) w.heap.size t cs := fun cs t o2 => ((Only.refl [] _).alloc o2).blk (Blk.new w t cs) (by simp)
  have kA : ∀ cs t o1, Blk ((w.alloc o1).alloc (.cells cs t)) (w.heap.size + 1) t cs := fun cs t o1 => by
    have := Blk.new (w.alloc o1) t cs
    simpa using this
  rw [show c.val (.slice A1 c.events.length cap1) = .agg #[.int .i64 c.kind, .int .i64 c.time, .string c.stream, .int .i64 c.expected, .slice A1 c.events.length cap1, .int .i64 c.mt.maxCount, .int .i64 c.mt.maxAge, .int .i64 c.mt.before] from rfl]
  rw [hk] at HCk
  have hHl := h.lt
  have hfd3 := fldD3
  go_enter Tryz.func12, Tryz.ntmps12
  go_wp2_with fail
  refine (HCk.out _ (h2 _ _)).mono ?_
  rintro e1 w1 ⟨rfl, k1⟩
  go_wp2_with fail
  have hO1 : Only [] w w1 := (h2 _ _).trans k1
  have bC1 := k1.blk (kC _ _ _) (by simp)
  have bA1 := k1.blk (kA _ _ _) (by simp)
  have hD1 := h.keep0 hO1
  obtain ⟨M2, M3, X2, X3⟩ := hD1.nums
  have hrbH := h.rbH
  have hrbl := h.lt rb hrbH
  obtain ⟨t, ht⟩ : ∃ t, t = max r.now c.time := ⟨_, rfl⟩
  have hmx : (if r.now < c.time then c.time else r.now) = t := by rw [ht]; split <;> omega
  have hmy : (if c.time > r.now then c.time else r.now) = t := hmx
  have HTt := Lib.hid ht
  clear ht
  have C1 := Within.cell (S := []) (bC1.cell 1) (by simp)
  have D2 := Within.cell (S := []) M2 (by simp)
  have D3 := Within.cell (S := []) M3 (by simp)
  refine wp_region_in [] [0, 1, 2, 3, 4, 5, 6, 7, 8, 9] [] [10] (by kernel_rfl) (by kernel_rfl) (by intro c d u a w h; cases d <;> exact h) ?_
  show wpQuiet _ _ _ _ [_, _, _, _, _, _, _, _, _, _] _
  repeat (go_big_quiet_step (fail))
  refine wpQuiet_nil ?_
  have N2 := M2
  have N3 := M3
  have Y2 := X2
  have Y3 := X3
  clear C1 D2 D3
  show wpList _ _ _ [_] _ _
  have hne1 : w.heap.size ≠ rb := by omega
  have hne2 : w.heap.size + 1 ≠ rb := by omega
  have hdn := IntWalk.i64_in (r.done + 1) ⟨by omega, by omega⟩
  go_upto_region 6 with (fail)
  have hSt1 : Stepped w w1 H H := Stepped.first0 hO1 (Stepped.refl _ _)
  have q2 := hD1.setNow (max r.now c.time)
  have q3 := q2.1.setDone (r.done + 1)
  have hD5 := q3.1.keep0 (Only.refl [] _).drew
  have hS5 := (q2.2.trans q3.2).then0 (Only.refl [] _).drew
  have hgC : w.heap.size ∉ H := fun q => by have := hHl _ q; omega
  have hgA : w.heap.size + 1 ∉ H := fun q => by have := hHl _ q; omega
  have haz : a.heap.size ≤ w.heap.size + 1 := by have := h.only.size; omega
  have bC5 := (hS5.keepB bC1 hgC).1
  have bA5 := (hS5.keepB bA1 hgA).1
  have hSt5 := hSt1.trans hS5
  obtain ⟨W5, hW5⟩ : ∃ W, W = ((w1.setCell ⟨rb, 2, none⟩ (.int .i64 (max r.now c.time))).setCell ⟨rb, 3, none⟩ (.int .i64 (r.done + 1))).drew := ⟨_, rfl⟩
  rw [← hW5] at hD5 hS5 bC5 bA5 hSt5 ⊢
  rw [show ({ ({ r with now := max r.now c.time } : RS) with done := r.done + 1 } : RS) = r.tick c.time from rfl] at hD5
  clear hW5 q2 q3 hS5 hSt1 M2 M3 X2 X3 N2 N3 Y2 Y3 bC1 bA1 hmx hmy HTt hD1 k1
  have HGt := dget_any hD5 c.stream
  unfold DStr.val at HGt
  rw [show ((r.tick c.time).get c.stream).deleted = false from hd] at HGt
  have HG := Lib.hid HGt
  have HOf := Lib.hid (fun (W : World) (k : Only [] W5 W) => dof_any (hD5.keep0 k) hft.few c.stream)
  have hC5 := fun i => bC5.cell i
  clear HGt
  go_wp2_with fail
  refine HG.out.mono ?_
  rintro e2 w8 ⟨rfl, k8⟩
  have bC8 := k8.blk bC5 (by simp)
  have hC8 := fun i => bC8.cell i
  clear HG hC5
  go_wp2_with fail
  refine (HOf.out _ k8).mono ?_
  rintro e3 w9 ⟨v6, rfl, hown6, k9⟩
  obtain ⟨A6, c6, rfl, hn6, hm6⟩ := own_form hown6
  unfold maxLen at hm6
  have hk9 := k8.trans k9
  have hD9 := hD5.keep0 hk9
  have hSt9 := hSt5.then0 hk9
  have bC9 := hk9.blk bC5 (by simp)
  have bA9 := hk9.blk bA5 (by simp)
  obtain ⟨Al, cl, hls, hl1, hl2⟩ := hD9.ls
  have hlf := hft.few
  have hofl : ((r.tick c.time).of c.stream).length ≤ 1000000 := Nat.le_trans (List.length_filter_le _ _) hft.few
  obtain ⟨R, hR⟩ : ∃ R, R = r.tick c.time := ⟨_, rfl⟩
  rw [← hR] at hown6 hn6 hofl hD9 hls hl1 hlf hft ⊢
  have HR := Lib.hid hR
  clear HOf hC8 bC5 bA5 bC8 hD5 hSt5 hk9 k8 k9 hR hf hd HCk
  have hC9 := fun i => bC9.cell i
  have hwm := IntWalk.i64_in (((R.of c.stream).length : Int) - 1) ⟨by omega, by omega⟩
  obtain ⟨nL, hnL⟩ : ∃ n, n = (R.of c.stream).length := ⟨_, rfl⟩
  obtain ⟨nA, hnA⟩ : ∃ n, n = R.l.length := ⟨_, rfl⟩
  rw [← hnL] at hn6 hofl hwm ⊢
  rw [← hnA] at hls hl1 hlf
  have HnL := Lib.hid hnL
  have HnA := Lib.hid hnA
  have HOwn6 := Lib.hid hown6
  clear hnL hnA hown6
  go_upto_region 14 with (fail)
  obtain ⟨W14, hW14⟩ : ∃ W, W = (w9.alloc (.cells #[.int .i64 0, .int .i64 nL, .int .i64 nA, .bool false] 54)).alloc (.cells #[.int .i64 22, .int .i64 ((nL : Int) - 1), .int .i64 0, .bool false] 54) := ⟨_, rfl⟩
  rw [← hW14]
  have k14 : Only [] w9 W14 := by rw [hW14]; exact ((Only.refl [] w9).alloc _).alloc _
  have bh : Blk W14 w9.heap.size 54 #[.int .i64 0, .int .i64 nL, .int .i64 nA, .bool false] := by rw [hW14]; exact ((Only.refl [] _).alloc _).blk (Blk.new _ _ _) (by simp)
  have bx : Blk W14 (w9.heap.size + 1) 54 #[.int .i64 22, .int .i64 ((nL : Int) - 1), .int .i64 0, .bool false] := by
    rw [hW14]
    have := Blk.new (w9.alloc (.cells #[.int .i64 0, .int .i64 nL, .int .i64 nA, .bool false] 54)) 54 #[.int .i64 22, .int .i64 ((nL : Int) - 1), .int .i64 0, .bool false]
    simpa using this
  have hgh : w9.heap.size ∉ H := fun q => absurd (hD9.lt _ q) (by omega)
  have hgx : w9.heap.size + 1 ∉ H := fun q => absurd (hD9.lt _ q) (by omega)
  have hD14 := hD9.keep0 k14
  have hSt14 := hSt9.then0 k14
  have bC14 := k14.blk bC9 (by simp)
  have bA14 := k14.blk bA9 (by simp)
  have hOwn14 := Lib.hid (own_only HOwn6.out k14 (by simp))
  have hlt6 := Lib.hid (World.ownsRow.lt HOwn6.out)
  have hz9 : w.heap.size ≤ w9.heap.size := hSt9.size
  have hlt9 := bA9.lt
  have hz14 := k14.size
  have hls14 := (k14.cell (p := ⟨rb, 0, none⟩) (hD9.lt rb hrbH) (by simp)).trans hls
  have hC14 := fun i => bC14.cell i
  clear hC9 hls hW14 bC9 bA9 HOwn6 hSt9 w1 hO1
  have hne1 := evs_one (check_evs hk H4.out)
  obtain ⟨L, hL⟩ : ∃ L, L = R.of c.stream := ⟨_, rfl⟩
  rw [← hL] at hOwn14 HnL
  have HL := Lib.hid hL
  clear hL
  have hev : ∀ j (hj : j < c.events.length), ∃ b off, A1 = some ⟨b, off, none⟩ ∧ b < W14.heap.size ∧ ∀ t, t < 4 → W14.cell? ⟨b, off + j * 4 + t, none⟩ = (c.events[j].cells)[t]? := by
    obtain ⟨A', c', e, _, _, q⟩ := (hSt14.keepS he hn).openE EventR.cells (fun _ => rfl)
    injection e with e1 e2 e3
    subst e1
    exact q
  have hel : ∀ j (hj : j < L.length), ∃ b off, A6 = some ⟨b, off, none⟩ ∧ b < W14.heap.size ∧ ∀ t, t < 8 → W14.cell? ⟨b, off + j * 8 + t, none⟩ = (L[j].cells)[t]? := by
    obtain ⟨A', c', e, _, _, q⟩ := (Slc.of_own hOwn14.out).1.openE StoredR.cells (fun _ => rfl)
    injection e with e1 e2 e3
    subst e1
    exact q
  have HEv := Lib.hid hev
  have HEl := Lib.hid hel
  clear hev hel hes hOwn14
  obtain ⟨id0, hid0⟩ : ∃ i, i = ((c.events.head?).map (·.id)).getD 0 := ⟨_, rfl⟩
  have hid1 : c.events[0].id = id0 := by
    rw [hid0]
    exact head_id c.events hne1
  have HI0 := Lib.hid hid0
  have HI1 := Lib.hid hid1
  clear hid0 hid1
  go_wp2_with fail
  go_loopw [11, 12] (fun av iv wr => ∃ (i : Nat) (f : Int), i ≤ nL ∧ iv = .int .i64 i ∧ av = .int .i64 f ∧ Hid (f = firstAt id0 (L.take i) 0) ∧ Only [] W14 wr) (fun _ iv _ => nL - (intOf iv).toNat)
  case atStart => exact ⟨0, -1, Nat.zero_le _, rfl, rfl, rfl, Only.refl _ _⟩
  case round =>
    obtain ⟨i, f, hi, rfl, rfl, hf, hO⟩ := hrel
    by_cases hlt : i < nL
    · obtain ⟨b6, o6, hA6, hb6, hc6⟩ := HEl.out i (by have := HnL.out; omega)
      obtain ⟨b1, o1, hA1, hb1, hc1⟩ := HEv.out 0 hne1
      subst hA6 hA1
      have htk : L.take (i + 1) = L.take i ++ [L[i]] := List.take_succ_eq_append_getElem (by have := HnL.out; omega)
      have hmn : (L.take i).length = i := by rw [List.length_take]; have := HnL.out; omega
      have hold : Hid (0 ≤ f → firstAt id0 (L.take (i + 1)) 0 = f) := fun q => by rw [htk, firstAt_old _ _ _ _ (by decide) (by rw [← hf.out]; exact q), ← hf.out]
      have hnew : Hid (f < 0 → firstAt id0 (L.take (i + 1)) 0 = if L[i].ev.id = id0 then (i : Int) else -1) := fun q => by rw [htk, firstAt_new _ _ _ _ (by decide) (by rw [← hf.out]; exact q), hmn, Int.zero_add]
      obtain ⟨x, hx⟩ : ∃ x, x = L[i] := ⟨_, rfl⟩
      rw [← hx] at hc6 hnew
      have hc60 : W14.cell? ⟨b6, o6 + i * 8, none⟩ = some (.int .i64 x.ev.id) := hc6 0 (by omega)
      have hc10 : W14.cell? ⟨b1, o1, none⟩ = some (.int .i64 id0) := by
        have := hc1 0 (by omega)
        rw [show o1 + 0 * 4 + 0 = o1 by omega] at this
        rw [this, ← HI1.out]
        rfl
      have C6 : ∀ (e : Nat) (os : Array Obj), World.cell? (grow (redrawn wr e) os) _ = some _ := fun e os => cell_regrown ((hO.cell (p := ⟨b6, o6 + i * 8, none⟩) hb6 (by simp)).trans hc60) e os
      have C1 : ∀ (e : Nat) (os : Array Obj), World.cell? (grow (redrawn wr e) os) _ = some _ := fun e os => cell_regrown ((hO.cell (p := ⟨b1, o1, none⟩) hb1 (by simp)).trans hc10) e os
      have CB : ∀ (e : Nat) (os : Array Obj), World.cell? (grow (redrawn wr e) os) ⟨w.heap.size, 4, none⟩ = some (.slice (some ⟨b1, o1, none⟩) c.events.length cap1) := fun e os => cell_regrown ((hO.blk bC14 (by simp)).cell 4) e os
      clear hc6 hc1 hc60 hc10 hx htk hmn
      by_cases hf0 : f < 0
      · have hfm : f = -1 := by
          rcases firstAt_bd id0 (L.take i) 0 (by decide) with q | q
          · rw [hf.out]; exact q
          · have := hf.out; omega
        have hnw := Lib.hid (hnew.out hf0)
        subst hfm
        by_cases hxi : x.ev.id = id0
        · have hnx : Hid ((i : Int) = firstAt id0 (L.take (i + 1)) 0) := by have := hnw.out; rw [if_pos hxi] at this; exact this.symm
          have hxb : (x.ev.id == id0) = true := by simpa using hxi
          clear hxi
          go_wp2_with fail
          refine wp_region_quiet_below (by kernel_rfl) (by kernel_rfl) ?_
          repeat (go_big_quiet_step (fail))
          refine wpQuiet_nil ?_
          rintro _ ⟨p, rfl⟩
          go_wp2
          go_round
          case rel => exact ⟨i + 1, i, hlt, by simp, rfl, hnx, hO.trans (Only.regrown [] _ p.d p.os)⟩
          case measure => simp [intOf]; omega
        · have hnx : Hid ((-1 : Int) = firstAt id0 (L.take (i + 1)) 0) := by have := hnw.out; rw [if_neg hxi] at this; exact this.symm
          have hxb : (x.ev.id == id0) = false := by simpa using hxi
          clear hxi
          go_wp2_with fail
          refine wp_region_quiet_below (by kernel_rfl) (by kernel_rfl) ?_
          repeat (go_big_quiet_step (fail))
          refine wpQuiet_nil ?_
          rintro _ ⟨p, rfl⟩
          go_wp2
          go_round
          case rel => exact ⟨i + 1, -1, hlt, by simp, rfl, hnx, hO.trans (Only.regrown [] _ p.d p.os)⟩
          case measure => simp [intOf]; omega
      · have hnx : Hid (f = firstAt id0 (L.take (i + 1)) 0) := (hold.out (by omega)).symm
        have hfb : decide (f < 0) = false := by simpa using hf0
        go_wp2_with fail
        refine wp_region_quiet_below (by kernel_rfl) (by kernel_rfl) ?_
        repeat (go_big_quiet_step (fail))
        refine wpQuiet_nil ?_
        rintro _ ⟨p, rfl⟩
        go_wp2
        go_round
        case rel => exact ⟨i + 1, f, hlt, by simp, rfl, hnx, hO.trans (Only.regrown [] _ p.d p.os)⟩
        case measure => simp [intOf]; omega
    · have hin : nL = i := by omega
      subst hin
      have hfL : f = firstAt id0 L 0 := by have := hf.out; rwa [List.take_of_length_le (by have := HnL.out; omega)] at this
      have hfm : f = -1 := by
        rcases firstAt_bd id0 L 0 (by decide) with q | q
        · rw [hfL]; exact q
        · exact absurd (by have := q.1; rwa [HI0.out, HL.out, HR.out] at this) (Int.not_le.2 HV.out)
      subst hfm
      have HFL := Lib.hid hfL
      have bC17 := hO.blk bC14 (by simp)
      have hC17 := fun t => bC17.cell t
      have hev8 : c.events.length ≤ 8 := by have := check_evs hk H4.out; unfold eventsE at this; (repeat (split at this; first | omega | skip)); all_goals omega
      have HFt := Lib.hid (fun (W : World) => dfits_any c.expected nL W (by omega))
      have hsR : R.s.length + 1 ≤ 1000000 := by rw [HR.out]; show r.s.length + 1 ≤ _; omega
      have HAct := Lib.hid (show (r.tick c.time).act c = if fitsD c.expected nL = false then (⟨22, (nL : Int) - 1, 0, false⟩, R.keep c.stream) else (⟨0, nL, (nA : Int) + c.events.length - 1, false⟩, ({ R with l := R.l ++ storedOf c.stream R.now c.events nL nA } : RS).keep c.stream) from by
        rw [← HR.out]
        unfold RS.act
        dsimp only
        rw [if_neg (by rw [H4.out]; decide), if_neg (by rw [H4.out]; decide), ← HL.out, ← HI0.out, ← HFL.out, if_neg (by decide), HnL.out, HnA.out]
        rfl)
      clear hfL hf
      cases hq : fitsD c.expected nL with
      | false =>
        rw [hq] at HFt HAct
        have HFin : Hid ((((r.tick c.time).act c).1.val = .agg #[.int .i64 22, .int .i64 ((nL : Int) - 1), .int .i64 0, .bool false]) ∧ ((r.tick c.time).act c).2 = R.keep c.stream) := by
          unfold Hid
          rw [HAct.out, if_pos rfl]
          exact ⟨rfl, rfl⟩
        have hXc := fun t => (hO.blk bx (by simp)).cell t
        have hHc := fun t => (hO.blk bh (by simp)).cell t
        have hHf := fun t => (hO.blk bh (by simp)).free t
        have hD2 := hD14.keep0 hO
        have hSt2 := hSt14.then0 hO
        have bh2 := hO.blk bh (by simp)
        have bA2 := hO.blk bA14 (by simp)
        go_upto_region 50 with (go_at_call 48; refine (HFt.out _).mono ?_; rintro e15 w15 ⟨rfl, rfl⟩)
        have bhW := (((bh2.set 0 (.int .i64 22)).set 1 (.int .i64 ((nL : Int) - 1))).set 2 (.int .i64 0)).set 3 (.bool false)
        have koW : Only [w9.heap.size] wr ((((wr.setCell ⟨w9.heap.size, 0, none⟩ (.int .i64 22)).setCell ⟨w9.heap.size, 1, none⟩ (.int .i64 ((nL : Int) - 1))).setCell ⟨w9.heap.size, 2, none⟩ (.int .i64 0)).setCell ⟨w9.heap.size, 3, none⟩ (.bool false)) := by
          iterate 4 (refine Only.setCell ?_ (.inl (by simp)) _)
          exact Only.refl _ _
        have bCW := koW.blk bC17 (by simp; omega)
        have bAW := koW.blk bA2 (by simp; omega)
        have hDW := hD2.keep koW (by have := h.only.size; simp; omega) (fun b hb => by simp; exact fun e => hgh (e ▸ hb))
        have hStW := (((hSt2.setB (g := w9.heap.size) (k := 0) (u := .int .i64 22) hz9).setB (g := w9.heap.size) (k := 1) (u := .int .i64 ((nL : Int) - 1)) hz9).setB (g := w9.heap.size) (k := 2) (u := .int .i64 0) hz9).setB (g := w9.heap.size) (k := 3) (u := .bool false) hz9
        obtain ⟨WW, hWW⟩ : ∃ W, W = (((wr.setCell ⟨w9.heap.size, 0, none⟩ (.int .i64 22)).setCell ⟨w9.heap.size, 1, none⟩ (.int .i64 ((nL : Int) - 1))).setCell ⟨w9.heap.size, 2, none⟩ (.int .i64 0)).setCell ⟨w9.heap.size, 3, none⟩ (.bool false) := ⟨_, rfl⟩
        rw [← hWW] at bhW koW bCW bAW hDW hStW ⊢
        clear hWW
        clear hXc hHc hHf hC17 HFt
        have HKp := Lib.hid (dkeep_any hDW c.stream (hft).few hsR ((hft).mt _) ((hft).kept _) (hft).now)
        have hCz := fun i => (bCW).cell i
        go_wp2_with fail
        refine HKp.out.mono ?_
        rintro eK wK ⟨rfl, HK, hDK, hStK⟩
        obtain ⟨bAK, gAK⟩ := hStK.keepB bAW hgA
        obtain ⟨bhK, ghK⟩ := hStK.keepB bhW hgh
        have hAKc := fun i => bAK.cell i
        have hAKf := fun i => bAK.free i
        have hhKc := fun i => bhK.cell i
        have hStT := (hStW).trans hStK
        clear HKp hCz
        rw [← HFin.out.2] at hDK
        go_wp2
        have hS4 := (((bAK.set 0 (.int .i64 22)).set 1 (.int .i64 ((nL : Int) - 1))).set 2 (.int .i64 0)).set 3 (.bool false)
        have hge : w.heap.size ≤ w.heap.size + 1 := by omega
        have hD4 := (((hDK.setB (k := 0) (u := .int .i64 22) gAK haz).setB (k := 1) (u := .int .i64 ((nL : Int) - 1)) gAK haz).setB (k := 2) (u := .int .i64 0) gAK haz).setB (k := 3) (u := .bool false) gAK haz
        have hSt4 := (((hStT.setB (k := 0) (u := .int .i64 22) hge).setB (k := 1) (u := .int .i64 ((nL : Int) - 1)) hge).setB (k := 2) (u := .int .i64 0) hge).setB (k := 3) (u := .bool false) hge
        have hc4 := hS4.cell
        refine bodyPost_ret (v := .agg #[.int .i64 22, .int .i64 ((nL : Int) - 1), .int .i64 0, .bool false]) (by simp [results, Tryz.results12, go_sem, hc4]) rfl ⟨?ans, _, hD4, hSt4⟩
        case ans => rw [HFin.out.1]
      | true =>
        rw [hq, if_neg (by simp)] at HAct
        rw [hq] at HFt
        obtain ⟨Rk, hRk⟩ : ∃ Rk : Nat → RS, Rk = fun k => ({ R with l := R.l ++ storedOf c.stream R.now (c.events.take k) nL nA } : RS) := ⟨_, rfl⟩
        have hRk0 : Rk 0 = R := by
          rw [hRk]
          show ({ R with l := R.l ++ storedOf c.stream R.now (c.events.take 0) nL nA } : RS) = R
          rw [List.take_zero, show storedOf c.stream R.now [] nL nA = [] from rfl, List.append_nil]
        have HRk := Lib.hid hRk
        have HD0 : Hid (DTo a W14 H rb (Rk 0) wr) := by
          rw [hRk0]
          exact ⟨H, hD14.keep0 hO, Stepped.first0 hO (Stepped.refl _ _)⟩
        clear hRk hRk0
        go_wp2_with (go_at_call 48; refine (HFt.out _).mono ?_; rintro e15 w15 ⟨rfl, rfl⟩)
        go_loopw [15] (fun kv w2 => ∃ k : Nat, k ≤ c.events.length ∧ kv = .int .i64 k ∧ DTo a W14 H rb (Rk k) w2) (fun kv _ => c.events.length - (intOf kv).toNat)
        case atStart => exact ⟨0, Nat.zero_le _, rfl, HD0.out⟩
        case round =>
          obtain ⟨k, hkn, rfl, H2, hD2, hSt2⟩ := hrel
          obtain ⟨bC2, gC2⟩ := hSt2.keepB bC14 hgC
          obtain ⟨bA2, gA2⟩ := hSt2.keepB bA14 hgA
          obtain ⟨bh2, gh2⟩ := hSt2.keepB bh hgh
          have hC2 := fun t => bC2.cell t
          have hrow := hD2
          obtain ⟨⟨vl, vs, hA2, hH2⟩, -, -⟩ := hrow
          have hll : (Rk k).l.length = nA + k := by
            rw [HRk.out]
            show (R.l ++ storedOf c.stream R.now (c.events.take k) nL nA).length = _
            rw [List.length_append, storedOf_len, List.length_take, HnA.out]
            omega
          have hnow : (Rk k).now = R.now := by rw [HRk.out]
          obtain ⟨Al2, cl2, hls2, hl21, hl22⟩ := hD2.ls
          obtain ⟨M2, -, -, -⟩ := hD2.nums
          rw [hll] at hls2 hl21
          rw [hnow] at M2
          have hbnd : nA + c.events.length ≤ 1000000 := by rw [HnA.out, HR.out]; exact hlm
          by_cases hlt2 : k < c.events.length
          · have hev2 : ∀ j (hj : j < c.events.length), ∃ b off, A1 = some ⟨b, off, none⟩ ∧ b < wr.heap.size ∧ ∀ t, t < 4 → wr.cell? ⟨b, off + j * 4 + t, none⟩ = (c.events[j].cells)[t]? := by
              obtain ⟨A', c', e, _, _, q⟩ := ((hSt14.trans hSt2).keepS he hn).openE EventR.cells (fun _ => rfl)
              injection e with e1 e2 e3
              subst e1
              exact q
            obtain ⟨b1, o1, hA1, hb1, hc1⟩ := hev2 k hlt2
            clear hev2
            subst hA1
            have htk := storedOf_take c.stream R.now c.events k hlt2 nL nA
            obtain ⟨y, hy⟩ : ∃ y, y = c.events[k] := ⟨_, rfl⟩
            rw [← hy] at hc1 htk
            have HTk := Lib.hid htk
            have c0 := Within.cell (S := []) (show wr.cell? ⟨b1, o1 + k * 4, none⟩ = some (.int .i64 y.id) from hc1 0 (by omega)) (by simp)
            have c1 := Within.cell (S := []) (show wr.cell? ⟨b1, o1 + k * 4 + 1, none⟩ = some (.string y.type) from hc1 1 (by omega)) (by simp)
            have c2 := Within.cell (S := []) (show wr.cell? ⟨b1, o1 + k * 4 + 2, none⟩ = some (.string y.data) from hc1 2 (by omega)) (by simp)
            have c3 := Within.cell (S := []) (show wr.cell? ⟨b1, o1 + k * 4 + 3, none⟩ = some (.float .f64 y.value) from hc1 3 (by omega)) (by simp)
            have C2 := Within.cell (S := []) (show wr.cell? ⟨w.heap.size, 2, none⟩ = some (.string c.stream) from bC2.cell 2) (by simp)
            have C4 := Within.cell (S := []) (show wr.cell? ⟨w.heap.size, 4, none⟩ = some (.slice (some ⟨b1, o1, none⟩) c.events.length cap1) from bC2.cell 4) (by simp)
            have D0 := Within.cell (S := []) hls2 (by simp)
            have D2 := Within.cell (S := []) M2 (by simp)
            have hwk := IntWalk.i64_in ((nL : Int) + (k : Int)) ⟨by omega, by omega⟩
            have HRow := Lib.hid hA2.l
            have HA2 := Lib.hid hA2
            have HH2 := Lib.hid hH2
            obtain ⟨nk, hnk⟩ : ∃ nk, nk = nA + k := ⟨_, rfl⟩
            rw [← hnk] at D0 hls2 hl21 hll
            have hnk2 : nk + 1 ≤ 1000000 := by omega
            have HLl := Lib.hid hll
            have HNk := Lib.hid hnk
            clear hc1 htk hy hA2 hH2 hll hnk hnow hC17 bC17
            go_wp2_with fail
            refine wp_region_in [] [0, 1, 2, 3, 4, 5, 6, 7, 8, 9, 10, 11, 12, 13, 14, 15, 16, 17, 18, 19, 20] [21] [22] (by kernel_rfl) (by kernel_rfl) (by intro c d u a w h; cases d <;> exact h) ?_
            show wpQuiet _ _ _ _ [_, _, _, _, _, _, _, _, _, _, _, _, _, _, _, _, _, _, _, _, _] _
            repeat (go_big_quiet_step (fail))
            refine wpQuiet_nil ?_
            clear c0 c1 c2 c3 C2 C4 D0 D2
            show wpList _ _ _ [_] _ _
            go_wp2_with fail
            refine check_of (S := []) ((Only.refl [] wr).drew.alloc _) ?_
            show wpList _ _ _ [_] _ _
            go_upto_region 37 with (go_at_call 49; refine (r1canon_any _ _).mono ?_; rintro e16 w16 ⟨rfl, rfl⟩)
            obtain ⟨x, hx⟩ : ∃ x, x = stOne c.stream R.now y ((nL : Int) + k) nk := ⟨_, rfl⟩
            have hxc : x.cells = [.int .i64 y.id, .string y.type, .string y.data, .float .f64 (canon y.value), .string c.stream, .int .i64 ((nL : Int) + k), .int .i64 nk, .int .i64 R.now] := by rw [hx]; rfl
            obtain ⟨W37, hW37⟩ : ∃ W, W = (wr.alloc (.cells #[.int .i64 y.id, .string y.type, .string y.data, .float .f64 (canon y.value), .string c.stream, .int .i64 ((nL : Int) + k), .int .i64 nk, .int .i64 R.now] 66)).drew := ⟨_, rfl⟩
            rw [← hW37]
            have k37 : Only [] wr W37 := by rw [hW37]; exact ((Only.refl [] wr).alloc _).drew
            have b37 : Blk W37 wr.heap.size 66 #[.int .i64 y.id, .string y.type, .string y.data, .float .f64 (canon y.value), .string c.stream, .int .i64 ((nL : Int) + k), .int .i64 nk, .int .i64 R.now] := by rw [hW37]; exact (Only.refl [] _).drew.blk (Blk.new _ _ _) (by simp)
            have hNext : (Rk (k + 1)).l = (Rk k).l ++ [x] := by
              rw [HRk.out]
              show R.l ++ storedOf c.stream R.now (c.events.take (k + 1)) nL nA = (R.l ++ storedOf c.stream R.now (c.events.take k) nL nA) ++ [x]
              rw [HTk.out, hx, HNk.out, List.append_assoc]
              rfl
            have hNext2 : Rk (k + 1) = { Rk k with l := (Rk k).l ++ [x] } := by
              rw [← hNext, HRk.out]
            obtain ⟨A7, c7, hvl, -, -⟩ := own_form HRow.out
            have hvA : A7 = Al2 ∧ c7 = cl2 := by
              have h1 := HA2.out.blk.cell 0
              rw [hls2] at h1
              rw [hvl, HLl.out] at h1
              have h2 : some (Value.slice Al2 nk cl2) = some (Value.slice A7 nk c7) := h1
              injection h2 with h2
              injection h2 with q1 q2 q3
              exact ⟨q1.symm, q3.symm⟩
            obtain ⟨rfl, rfl⟩ := hvA
            rw [HLl.out] at hvl
            have hrow := (Slc.of_own HRow.out).1.only0 k37
            rw [hvl, HLl.out] at hrow
            have D0 := Within.cell (S := []) ((k37.cell (p := ⟨rb, 0, none⟩) (hD2.lt rb hD2.rbH) (by simp)).trans hls2) (by simp)
            have E0 := Within.cell (S := []) (show W37.cell? ⟨wr.heap.size, 0, none⟩ = some (.int .i64 y.id) from b37.cell 0) (by simp)
            have E1 := Within.cell (S := []) (show W37.cell? ⟨wr.heap.size, 1, none⟩ = some (.string y.type) from b37.cell 1) (by simp)
            have E2 := Within.cell (S := []) (show W37.cell? ⟨wr.heap.size, 2, none⟩ = some (.string y.data) from b37.cell 2) (by simp)
            have E3 := Within.cell (S := []) (show W37.cell? ⟨wr.heap.size, 3, none⟩ = some (.float .f64 (canon y.value)) from b37.cell 3) (by simp)
            have E4 := Within.cell (S := []) (show W37.cell? ⟨wr.heap.size, 4, none⟩ = some (.string c.stream) from b37.cell 4) (by simp)
            have E5 := Within.cell (S := []) (show W37.cell? ⟨wr.heap.size, 5, none⟩ = some (.int .i64 ((nL : Int) + k)) from b37.cell 5) (by simp)
            have E6 := Within.cell (S := []) (show W37.cell? ⟨wr.heap.size, 6, none⟩ = some (.int .i64 nk) from b37.cell 6) (by simp)
            have E7 := Within.cell (S := []) (show W37.cell? ⟨wr.heap.size, 7, none⟩ = some (.int .i64 R.now) from b37.cell 7) (by simp)
            have HApp := Lib.hid (fun (W : World) (hW : Only [] W37 W) => run_app (P := Tryz.prog) 28 28 W37.heap.size 66 (.agg #[.int .i64 0, .string ⟨#[]⟩, .string ⟨#[]⟩, .float .f64 0, .string ⟨#[]⟩, .int .i64 0, .int .i64 0, .int .i64 0]) 8 88 Tryz.underlying28 infoSt rfl (by decide) (World.ownsRow_nil W W37.heap.size 66 8) (hrow.only0 hW) (stored_one (Rk k).l) (by omega) (by unfold maxLen; omega) hW.size)
            have hD37 := hD2.keep0 k37
            have hA37 := HA2.out.only0 k37
            rw [HH2.out] at hD37
            have HD37 := Lib.hid hD37
            have HA37 := Lib.hid hA37
            have HN2 := Lib.hid hNext2
            have HX := Lib.hid hx
            have HXc := Lib.hid hxc
            have hbk37 := HA37.out.blk
            clear hrow hx hxc hW37 hNext hNext2 hD37 hA37 hls2 hvl hD2
            go_wp2_with fail
            refine wp_region_fork [] [0, 1, 2, 3, 4, 6] 5 7 [8] [9, 10, 11] (by kernel_rfl) (by kernel_rfl) (by intro c d u a w h; cases d <;> exact h) ?_
            show wpQuiet _ _ _ _ [_, _, _, _, _, _] _
            repeat (go_big_quiet_step (fail))
            refine wpQuiet_nil ?_
            clear D0 E0 E1 E2 E3 E4 E5 E6 E7
            refine fork_intro (fun a0 a1 W => ∃ (A4 : Option Addr) (c4 g : Nat), a1 = (a0.put (some 212) (.slice A4 nk c4)).put (some 214) (.slice (some ⟨g, 0, none⟩) 1 1) ∧ Only [] W37 W ∧ W.ownsRow W37.heap.size 66 8 (.slice A4 nk c4) nk ((Rk k).l.flatMap StoredR.cells) ∧ Slc W 8 (.slice (some ⟨g, 0, none⟩) 1 1) 1 x.cells) ?_ ?_ ?_
            · obtain ⟨A4, c4, w4, hr4, hown4, hO4, _⟩ := HApp.out W37.drew (Only.refl _ _).drew
              simp only [Nat.zero_add, List.nil_append] at hr4 hown4
              have hO4' : Only [] W37.drew w4 := by simpa [Value.ownBlock] using hO4
              have HR4 := Lib.hid hr4
              clear hr4 hO4
              show wpList _ _ _ [_] _ _
              go_wp2_with (at_builtin; refine Lib.wpList_append_run _ rfl (.const (.slice none 0 0)) (.tmp 211) 28 28 rfl _ _ rfl rfl _ _ HR4.out ?_)
              refine check_of (S := []) ((Only.refl [] _).drew.trans hO4') ?_
              show wpList _ _ _ [_] _ _
              go_wp2
              exact check_of (S := []) (((Only.refl [] _).drew.trans hO4').alloc _) ⟨A4, c4, w4.heap.size, rfl, ((Only.refl [] _).drew.trans hO4').alloc _, hown4.alloc _, by rw [HXc.out]; exact slc_new1 rfl⟩
            · obtain ⟨A4, c4, w4, hr4, hown4, hO4, _⟩ := HApp.out (W37.drew.alloc (.cells #[.int .i64 y.id, .string y.type, .string y.data, .float .f64 (canon y.value), .string c.stream, .int .i64 ((nL : Int) + k), .int .i64 nk, .int .i64 R.now] 66)) ((Only.refl _ _).drew.alloc _)
              simp only [Nat.zero_add, List.nil_append] at hr4 hown4
              have hO4' : Only [] (W37.drew.alloc (.cells #[.int .i64 y.id, .string y.type, .string y.data, .float .f64 (canon y.value), .string c.stream, .int .i64 ((nL : Int) + k), .int .i64 nk, .int .i64 R.now] 66)) w4 := by simpa [Value.ownBlock] using hO4
              have HR4 := Lib.hid hr4
              clear hr4 hO4
              show wpList _ _ _ [_] _ _
              go_wp2
              refine check_of (S := []) ((Only.refl [] _).drew.alloc _) ?_
              show wpList _ _ _ [_] _ _
              go_wp2_with (at_builtin; refine Lib.wpList_append_run _ rfl (.const (.slice none 0 0)) (.tmp 211) 28 28 rfl _ _ rfl rfl _ _ HR4.out ?_)
              exact check_of (S := []) (((Only.refl [] _).drew.alloc _).trans hO4') ⟨A4, c4, W37.drew.heap.size, rfl, ((Only.refl [] _).drew.alloc _).trans hO4', hown4, by rw [HXc.out]; exact (slc_new1 (size := 8) rfl).only0 hO4'⟩
            · rintro _ W ⟨A4, c4, g, rfl, hW, hown4, hs1⟩
              obtain ⟨A5, c5, w5, hr5, hown5, hO5, _⟩ := run_app (P := Tryz.prog) 28 28 W37.heap.size 66 (.agg #[.int .i64 0, .string ⟨#[]⟩, .string ⟨#[]⟩, .float .f64 0, .string ⟨#[]⟩, .int .i64 0, .int .i64 0, .int .i64 0]) 8 88 Tryz.underlying28 infoSt rfl (by decide) hown4 hs1 (by simpa using stored_one [x]) (by omega) (by unfold maxLen; omega) hW.size
              have k5 : Only [] W37 w5 := hW.step hO5 (fun g hg => .inr (World.ownsRow.lt hown4 g (by simpa using hg)).1)
              have hlx : ((Rk k).l ++ [x]).length = nk + 1 := by rw [List.length_append, HLl.out]; rfl
              have ho5 : w5.ownsRow W37.heap.size 66 8 (.slice A5 (nk + 1) c5) ((Rk k).l ++ [x]).length (((Rk k).l ++ [x]).flatMap StoredR.cells) := by
                rw [hlx]
                simpa using hown5
              have hto := DTo.setL HD37.out HA37.out k5 ho5 (Nat.le_refl _)
              rw [← HN2.out] at hto
              have hb5 := k5.blk hbk37 (by simp)
              have hb5c := fun t => hb5.cell t
              have hb5f := fun t => hb5.free t
              have HR5 := Lib.hid hr5
              have HTo := Lib.hid hto
              clear hr5 hown4 hown5 hO5 hs1 ho5 hto hlx hb5
              show wpList _ _ _ [_] _ _
              go_frame
              go_wp2_with (at_builtin; refine Lib.wpList_append_run _ rfl (.tmp 212) (.tmp 214) 28 28 rfl _ _ rfl rfl _ _ HR5.out ?_)
              refine check_of (S := []) k5 ?_
              show wpList _ _ _ [_, _, _] _ _
              go_wp2
              go_round
              case rel => exact ⟨k + 1, hlt2, by simp, DTo.trans (hSt2.then0 k37) (HH2.out ▸ HTo.out)⟩
              case measure => simp [intOf]; omega
          · have hkn2 : k = c.events.length := by omega
            have hkge : ¬ (k : Int) < (c.events.length : Int) := by omega
            have hRn : Rk k = { R with l := R.l ++ storedOf c.stream R.now c.events nL nA } := by
              rw [HRk.out]
              dsimp only
              rw [List.take_of_length_le (by omega)]
            obtain ⟨n, hn8⟩ : ∃ n, n = c.events.length := ⟨_, rfl⟩
            have HFin : Hid ((((r.tick c.time).act c).1.val = .agg #[.int .i64 0, .int .i64 nL, .int .i64 ((nA : Int) + k - 1), .bool false]) ∧ ((r.tick c.time).act c).2 = (Rk k).keep c.stream) := by
              unfold Hid
              rw [HAct.out, hRn, hkn2]
              exact ⟨rfl, rfl⟩
            have hfk : (Rk k).Fine := by
              have hlk : (Rk k).l.length ≤ 1000000 := by omega
              have := hft.more (l := (Rk k).l) hlk
              rw [show ({ R with l := (Rk k).l } : RS) = Rk k by rw [HRk.out]] at this
              exact this
            have hsk : (Rk k).s.length + 1 ≤ 1000000 := by
              rw [HRk.out]
              exact hsR
            have hww := IntWalk.i64_in (((nA + k : Nat) : Int) - 1) ⟨by omega, by omega⟩
            obtain ⟨nk, hnk⟩ : ∃ nk, nk = nA + k := ⟨_, rfl⟩
            rw [← hnk] at hls2 hl21 hll hww
            have hHc := fun t => bh2.cell t
            have hHf := fun t => bh2.free t
            have HNk := Lib.hid hnk
            clear hkn2 hRn hn8 hll hnk hnow hC17 bC17 hA2 hH2
            go_upto_region 50 with (fail)
            have bhW := bh2.set 2 (.int .i64 ((nk : Int) - 1))
            have koW : Only [w9.heap.size] wr (wr.setCell ⟨w9.heap.size, 2, none⟩ (.int .i64 ((nk : Int) - 1))) := (Only.refl _ _).setCell (.inl (by simp)) _
            have bCW := koW.blk bC2 (by simp; omega)
            have bAW := koW.blk bA2 (by simp; omega)
            have hDW := hD2.setB (k := 2) (u := .int .i64 ((nk : Int) - 1)) gh2 (by have := h.only.size; omega)
            have hStW := (hSt14.trans hSt2).setB (g := w9.heap.size) (k := 2) (u := .int .i64 ((nk : Int) - 1)) hz9
            obtain ⟨WW, hWW⟩ : ∃ W, W = wr.setCell ⟨w9.heap.size, 2, none⟩ (.int .i64 ((nk : Int) - 1)) := ⟨_, rfl⟩
            rw [← hWW] at bhW bCW bAW hDW hStW ⊢
            clear hWW koW hHc hHf hC2
            have HKp := Lib.hid (dkeep_any hDW c.stream (hfk).few hsk ((hfk).mt _) ((hfk).kept _) (hfk).now)
            have hCz := fun i => (bCW).cell i
            go_wp2_with fail
            refine HKp.out.mono ?_
            rintro eK wK ⟨rfl, HK, hDK, hStK⟩
            obtain ⟨bAK, gAK⟩ := hStK.keepB bAW gA2
            obtain ⟨bhK, ghK⟩ := hStK.keepB bhW gh2
            have hAKc := fun i => bAK.cell i
            have hAKf := fun i => bAK.free i
            have hhKc := fun i => bhK.cell i
            have hStT := (hStW).trans hStK
            clear HKp hCz
            rw [← HFin.out.2] at hDK
            go_wp2
            have hS4 := (((bAK.set 0 (.int .i64 0)).set 1 (.int .i64 nL)).set 2 (.int .i64 ((nk : Int) - 1))).set 3 (.bool false)
            have hge : w.heap.size ≤ w.heap.size + 1 := by omega
            have hD4 := (((hDK.setB (k := 0) (u := .int .i64 0) gAK haz).setB (k := 1) (u := .int .i64 nL) gAK haz).setB (k := 2) (u := .int .i64 ((nk : Int) - 1)) gAK haz).setB (k := 3) (u := .bool false) gAK haz
            have hSt4 := (((hStT.setB (k := 0) (u := .int .i64 0) hge).setB (k := 1) (u := .int .i64 nL) hge).setB (k := 2) (u := .int .i64 ((nk : Int) - 1)) hge).setB (k := 3) (u := .bool false) hge
            have hc4 := hS4.cell
            refine bodyPost_ret (v := .agg #[.int .i64 0, .int .i64 nL, .int .i64 ((nk : Int) - 1), .bool false]) (by simp [results, Tryz.results12, go_sem, hc4]) rfl ⟨?ans, _, hD4, hSt4⟩
            case ans =>
              rw [HFin.out.1, HNk.out]
              rfl
end
end Go.Proofs.YtikboecmcbcghaaGreat
/- The document's Do: every command. -/
set_option linter.unusedVariables false
set_option linter.unusedSimpArgs false
namespace Go.Proofs.YtikboecmcbcghaaGreat
open Go Go.RowKit Go.Sort
section
variable {a w : World} {H : List Nat} {rb : Nat} {r : RS}
theorem ddo_any (h : HasD a w H rb r) (hf : r.Fine) (hs : r.s.length + 3 ≤ 1000000) (hdb : 0 ≤ r.done ∧ r.done ≤ 1000000000) (c : Cmd) (v : Value) (he : Slc w 4 v c.events.length (c.events.flatMap EventR.cells)) (hn : ∀ g, v.ownBlock = some g → g ∉ H ∨ c.events = []) (ho : CmdOk c)
    (hlm : r.l.length + c.events.length ≤ 1000000) :
    Calls Tryz.prog 12 #[.pointer (some ⟨rb, 0, none⟩), c.val v] w fun e w' => e = .returned (r.do c).1.val ∧ DTo a w H rb (r.do c).2 w' := by
  by_cases hk : c.check = 0
  · obtain ⟨hk1, hk2, -⟩ := check_kind hk
    by_cases h4 : 4 ≤ c.kind
    · have e : r.do c = (⟨0, 0, r.l.length, false⟩, r.tick c.time) := by
        unfold RS.do
        rw [if_neg (by simp [hk])]
        dsimp only
        rw [if_pos h4]
        try rfl
      rw [e]
      exact ddo_mark h hf hdb c v he ho hk h4
    · cases hd : (r.get c.stream).deleted with
      | true =>
        have e : r.do c = (⟨23, 0, 0, false⟩, (r.tick c.time).keep c.stream) := by
          unfold RS.do
          rw [if_neg (by simp [hk])]
          dsimp only
          rw [if_neg h4, if_pos (show ((r.tick c.time).get c.stream).deleted = true from hd)]
        rw [e]
        exact ddo_gone h hf (by omega) hdb c v he ho hk (by omega) hd
      | false =>
        have e : r.do c = (r.tick c.time).act c := by
          unfold RS.do
          rw [if_neg (by simp [hk])]
          dsimp only
          rw [if_neg h4, if_neg (by rw [show ((r.tick c.time).get c.stream).deleted = false from hd]; simp)]
        rw [e]
        by_cases h2 : c.kind = 2
        · exact ddo_meta h hf hs hdb c v he ho hk h2 hd
        · by_cases h3 : c.kind = 3
          · exact ddo_del h hf hs hdb c v he ho hk h3 hd
          · have h1 : c.kind = 1 := by omega
            have hn : ∀ g, v.ownBlock = some g → g ∉ H := fun g hg => (hn g hg).resolve_right (fun q => by have := check_evs hk h1; rw [q] at this; simp [eventsE] at this)
            by_cases hv : 0 ≤ firstAt (((c.events.head?).map (·.id)).getD 0) (r.of c.stream) 0
            · exact ddo_app1 h hf hs hdb c v he hn ho hk h1 hd hv
            · exact ddo_app2 h hf hs hdb c v he hn ho hk h1 hd hlm hv
  · have e : r.do c = (⟨c.check, 0, 0, false⟩, r) := by
      unfold RS.do
      rw [if_pos hk]
    rw [e]
    exact ddo_bad h c v he ho hk
theorem do_slen (r : RS) (c : Cmd) : (r.do c).2.s.length ≤ r.s.length + 3 := by
  have k1 := fun (R : RS) n => keep_len R n
  have p1 := fun (R : RS) x => put_len R x
  unfold RS.do
  split
  · show r.s.length ≤ _; omega
  · dsimp only
    split
    · show r.s.length ≤ _; omega
    · split
      · have := k1 (r.tick c.time) c.stream
        have e : (r.tick c.time).s.length = r.s.length := rfl
        dsimp only at *
        omega
      · unfold RS.act
        dsimp only
        have e : (r.tick c.time).s.length = r.s.length := rfl
        split
        · have q1 := k1 (r.tick c.time) c.stream
          have q2 := p1 ((r.tick c.time).keep c.stream) { ((r.tick c.time).keep c.stream).get c.stream with mt := c.mt }
          have q3 := k1 (((r.tick c.time).keep c.stream).put { ((r.tick c.time).keep c.stream).get c.stream with mt := c.mt }) c.stream
          dsimp only at *
          omega
        · split
          · split
            · have q1 := k1 (r.tick c.time) c.stream
              dsimp only at *
              omega
            · have q2 := p1 (r.tick c.time) { (r.tick c.time).get c.stream with deleted := true }
              have q3 := k1 ((r.tick c.time).put { (r.tick c.time).get c.stream with deleted := true }) c.stream
              dsimp only at *
              omega
          · split
            · have q1 := k1 (r.tick c.time) c.stream
              dsimp only at *
              omega
            · split
              · have q1 := k1 (r.tick c.time) c.stream
                dsimp only at *
                omega
              · have q1 := k1 ({ r.tick c.time with l := (r.tick c.time).l ++ storedOf c.stream (r.tick c.time).now c.events ((r.tick c.time).of c.stream).length (r.tick c.time).l.length } : RS) c.stream
                have e2 : ({ r.tick c.time with l := (r.tick c.time).l ++ storedOf c.stream (r.tick c.time).now c.events ((r.tick c.time).of c.stream).length (r.tick c.time).l.length } : RS).s.length = r.s.length := rfl
                dsimp only at *
                omega
end
end Go.Proofs.YtikboecmcbcghaaGreat
/- Contract of names: the streams of commands. -/
set_option linter.unusedVariables false
set_option linter.unusedSimpArgs false
namespace Go.Proofs.YtikboecmcbcghaaGreat
open Go Go.RowKit Go.Sort
theorem appT1 {W : World} {base : Nat} {v : Value} {l : List ByteArray} (hown : W.ownsRow base 9 1 v l.length (strs l)) (hb : base ≤ W.heap.size) (hl : l.length ≤ 1000000) (x : ByteArray) :
    ∃ A cap w', (Builtin.append_ #[41, 41] 41 #[v, .slice (some ⟨W.heap.size, 0, none⟩) 1 1]).run Tryz.prog (W.alloc (.cells #[.string x] 9)) = .ok (.slice A (l.length + 1) cap) w' ∧ w'.ownsRow base 9 1 (.slice A (l.length + 1) cap) (l ++ [x]).length (strs (l ++ [x])) ∧ Only v.ownBlock.toList (W.alloc (.cells #[.string x] 9)) w' := by
  obtain ⟨A, cap, w', h1, h2, h3, _⟩ := run_app (P := Tryz.prog) (w := W.alloc (.cells #[.string x] 9)) 41 41 base 9 (.string ⟨#[]⟩) 1 16 Tryz.underlying41 infoS rfl (by decide) (hown.alloc _) (slc_new1 (w := W) (e := 9) (size := 1) (cs := strs [x]) rfl) (strs_one _) (by omega) (by unfold maxLen; omega) (Nat.le_trans hb (by simp))
  refine ⟨A, cap, w', h1, ?_, h3⟩
  rw [List.length_append]
  simpa [strs] using h2
section
variable {a w : World} {v : Value} {l : List CmdV}
set_option maxRecDepth 100000 in
set_option maxHeartbeats 2000000 in
theorem names_any (h : CmdsAt a w v l) (hl : l.length ≤ 1000) :
    Calls Tryz.prog 7 #[v] w fun e w' => ∃ v' ts, e = .returned v' ∧ w'.ownsRow w.heap.size 9 1 v' ts.length (strs ts) ∧ ts.length ≤ 8 ∧ Only [] w w' := by
  obtain ⟨Al, cl, rfl, hnc, hcm, hel⟩ := h.cells
  unfold maxLen at hcm
  have Hel := Lib.hid hel
  clear hel h
  go_enter Tryz.func7, Tryz.ntmps7
  go_wp2
  go_loopw [3, 4] (fun o i wr => ∃ (k : Nat) (ts : List ByteArray) (A : Option Addr) (cap : Nat), k ≤ l.length ∧ i = .int .i64 k ∧ o = .slice A ts.length cap ∧ wr.ownsRow w.heap.size 9 1 (.slice A ts.length cap) ts.length (strs ts) ∧ ts.length ≤ 8 ∧ Only [] w wr) (fun _ i _ => l.length - (intOf i).toNat)
  case atStart => exact ⟨0, [], none, 0, Nat.zero_le _, rfl, rfl, World.ownsRow_nil _ _ _ _, Nat.zero_le _, Only.refl _ _⟩
  case round =>
    obtain ⟨k, ts, A, cap, hk, rfl, rfl, hown, h8, hO⟩ := hrel
    by_cases hlt : k < l.length
    · obtain ⟨b, off, rfl, hbb, _, hcc⟩ := Hel.out k hlt
      obtain ⟨x, hx⟩ : ∃ x, x = l[k] := ⟨_, rfl⟩
      rw [← hx] at hcc
      have c2 : wr.cell? ⟨b, off + k * 8 + 2, none⟩ = some (.string x.c.stream) := (hO.cell hbb (by simp)).trans (hcc 2 (by omega))
      have hbr := Nat.lt_of_lt_of_le hbb hO.size
      have HOwn := Lib.hid hown
      clear hcc hx hown
      go_wp2
      go_loopw [5, 6] (fun sv kv w2 => ∃ (s : Bool) (j : Nat), j ≤ ts.length ∧ kv = .int .i64 j ∧ sv = .bool s ∧ Only [] wr w2) (fun _ kv _ => ts.length - (intOf kv).toNat)
      case atStart => exact ⟨false, 0, Nat.zero_le _, rfl, rfl, Only.refl _ _⟩
      case round =>
        rename World => w2
        obtain ⟨s, j, hj, rfl, rfl, hO2⟩ := hrel
        have c2r := (hO2.cell (p := ⟨b, off + k * 8 + 2, none⟩) hbr (by simp)).trans c2
        by_cases hlj : j < ts.length
        · obtain ⟨b2, off2, hA2, hb2, hc2⟩ : ∃ b off, A = some ⟨b, off, none⟩ ∧ b < wr.heap.size ∧ wr.cell? ⟨b, off + j, none⟩ = some (.string ts[j]) := by
            obtain ⟨A', cap', e, h1, h2, h3, h4⟩ := (Slc.of_own HOwn.out).1
            injection e with e1 e2 e3
            obtain ⟨b', off', rfl, hb, hc⟩ := h4 (by omega)
            refine ⟨b', off', e1, hb, ?_⟩
            rw [hc j (by simpa [strs] using hlj)]
            simp [strs, hlj]
          subst hA2
          obtain ⟨z, hz⟩ : ∃ z, z = ts[j] := ⟨_, rfl⟩
          rw [← hz] at hc2
          have hzr := (hO2.cell (p := ⟨b2, off2 + j, none⟩) hb2 (by simp)).trans hc2
          have G0 : ∀ (e : Nat) (os : Array Obj), World.cell? (grow (redrawn w2 e) os) _ = some _ := fun e os => cell_regrown c2r e os
          have Z0 : ∀ (e : Nat) (os : Array Obj), World.cell? (grow (redrawn w2 e) os) _ = some _ := fun e os => cell_regrown hzr e os
          have c2' := Lib.hid c2
          clear c2 c2r hc2 hzr hz
          cases s with
          | true =>
            go_wp2_with fail
            refine wp_region_quiet_below (by kernel_rfl) (by kernel_rfl) ?_
            repeat (go_big_quiet_step (fail))
            refine wpQuiet_nil ?_
            rintro _ ⟨p, rfl⟩
            clear G0
            go_wp2
            go_round
            case rel => exact ⟨true, j + 1, hlj, by simp, rfl, hO2.trans (Only.regrown [] _ p.d p.os)⟩
            case measure => simp [intOf]; omega
          | false =>
            by_cases he : z = x.c.stream
            · have he2 := eqD_t he
              clear he
              go_wp2_with fail
              refine wp_region_quiet_below (by kernel_rfl) (by kernel_rfl) ?_
              repeat (go_big_quiet_step (fail))
              refine wpQuiet_nil ?_
              rintro _ ⟨p, rfl⟩
              clear G0
              go_wp2
              go_round
              case rel => exact ⟨true, j + 1, hlj, by simp, rfl, hO2.trans (Only.regrown [] _ p.d p.os)⟩
              case measure => simp [intOf]; omega
            · have he2 := eqD_f he
              clear he
              go_wp2_with fail
              refine wp_region_quiet_below (by kernel_rfl) (by kernel_rfl) ?_
              repeat (go_big_quiet_step (fail))
              refine wpQuiet_nil ?_
              rintro _ ⟨p, rfl⟩
              clear G0
              go_wp2
              go_round
              case rel => exact ⟨false, j + 1, hlj, by simp, rfl, hO2.trans (Only.regrown [] _ p.d p.os)⟩
              case measure => simp [intOf]; omega
        · have hown := HOwn.out
          cases s with
          | true =>
            go_wp2
            go_round
            case rel => exact ⟨k + 1, ts, A, cap, hlt, by simp, rfl, own_only hown hO2 (by simp), h8, hO.trans hO2⟩
            case measure => simp [intOf]; omega
          | false =>
            by_cases h7 : ts.length < 8
            · have hown2 := own_only hown hO2 (by simp)
              obtain ⟨A4, c4', w4, hr4, hown4, hO4⟩ := appT1 hown2 (hO.trans hO2).size (by omega) x.c.stream
              have hb3 := fun g hg => (World.ownsRow.lt hown2 g hg).1
              have hO5 : Only [] w w4 := ((hO.trans hO2).alloc _).step hO4 (fun g hg => .inr (by have := hb3 g (by simpa using hg); omega))
              have HR4 := Lib.hid hr4
              have HW4 := Lib.hid hown4
              have HO5 := Lib.hid hO5
              have h7' : (ts.length : Int) < 8 := by omega
              clear hr4 hown4 hO4 hO5 hb3 hown2 hown
              go_wp2_with (at_builtin; refine Lib.wpList_append_run _ rfl (.tmp 39) (.tmp 45) 41 41 rfl _ _ rfl rfl _ _ HR4.out ?_)
              go_round
              case rel => exact ⟨k + 1, ts ++ [x.c.stream], A4, c4', hlt, by simp, by simp, by simpa using HW4.out, by simp; omega, HO5.out⟩
              case measure => simp [intOf]; omega
            · have h7' : ¬ (ts.length : Int) < 8 := by omega
              go_wp2
              go_round
              case rel => exact ⟨k + 1, ts, A, cap, hlt, by simp, rfl, own_only hown hO2 (by simp), h8, hO.trans hO2⟩
              case measure => simp [intOf]; omega
    · go_wp2
      go_ret
      exact ⟨_, ts, rfl, hown, h8, hO⟩
end
end Go.Proofs.YtikboecmcbcghaaGreat
/- The book's names. -/
set_option linter.unusedVariables false
set_option linter.unusedSimpArgs false
namespace Go.Proofs.YtikboecmcbcghaaGreat
open Go.RowKit Go Go.Sort
theorem stagesDoneT {P : Program} {C : World → Prop} {Q : Exit → Act → World → Prop} {l : List Oper} {a : Act} {w : World} (h : Q .normal a w) : wpT1 P l.toArray C Q (opsAt l []) (wpStages P l C Q (fun a w => wpList P l.toArray Q (opsAt l []) a w) []) a w := h
set_option maxRecDepth 100000 in
set_option maxHeartbeats 1000000 in
theorem sameT_refl {w : World} {v1 v2 : Value} {l : List ByteArray} (h1 : Slc w 1 v1 l.length (strs l)) (h2 : Slc w 1 v2 l.length (strs l)) :
    Calls Tryz.prog 56 #[v1, v2] w fun e w' => e = .returned (.bool true) ∧ Only [] w w' := by
  obtain ⟨A1, c1, rfl, _, hm1, hel1⟩ := h1.openS
  obtain ⟨A2, c2, rfl, _, hm2, hel2⟩ := h2.openS
  unfold maxLen at hm1 hm2
  have He1 := Lib.hid hel1
  have He2 := Lib.hid hel2
  clear hel1 hel2 h1 h2
  go_enter Tryz.func56, Tryz.ntmps56
  go_wp2
  go_loopw [5] (fun iv wr => ∃ j : Nat, j ≤ l.length ∧ iv = .int .i64 j ∧ Only [] w wr) (fun iv _ => l.length - (intOf iv).toNat)
  case atStart => exact ⟨0, Nat.zero_le _, rfl, Only.refl _ _⟩
  case round =>
    obtain ⟨j, hj, rfl, hO⟩ := hrel
    by_cases hlt : j < l.length
    · obtain ⟨b1, o1, rfl, hb1, q1⟩ := He1.out j hlt
      obtain ⟨b2, o2, rfl, hb2, q2⟩ := He2.out j hlt
      obtain ⟨x, hx⟩ : ∃ x, x = l[j] := ⟨_, rfl⟩
      rw [← hx] at q1 q2
      have d1 := Within.cell (S := []) ((hO.cell hb1 (by simp)).trans q1) (by simp)
      have d2 := Within.cell (S := []) ((hO.cell hb2 (by simp)).trans q2) (by simp)
      clear hx q1 q2
      go_wp2_with fail
      refine wp_region_stages (C := fun W => ∃ p : Within [] wr, W = p.W) [([0, 1, 2, 3, 4, 5, 6, 7, 8, 9], [])] [] (by kernel_rfl) (by kernel_rfl) (by intro c d u a w h; cases d <;> exact h) ⟨⟨_, (Only.refl _ _).drew⟩, rfl⟩ ?_
      refine stagesFirst ?_
      show wpQuiet _ _ _ _ [_, _, _, _, _, _, _, _, _, _] _
      repeat (go_big_quiet_step (fail))
      refine wpQuiet_nil ?_
      refine stagesDoneT ?_
      go_wp2
      exact ⟨⟨j + 1, hlt, by simp, hO.drew⟩, by simp [intOf]; omega⟩
    · go_wp2
      go_ret
      exact ⟨rfl, hO⟩
def nmL (i k : Nat) : List UInt8 := [109, UInt8.ofNat (65 + i % 26), UInt8.ofNat (65 + i / 26 % 26), UInt8.ofNat (48 + k % 10), UInt8.ofNat (48 + k / 10 % 10), UInt8.ofNat (48 + k / 100 % 10)]
def nm (i k : Nat) : ByteArray := ⟨(nmL i k).toArray⟩
set_option maxRecDepth 100000 in
set_option maxHeartbeats 400000 in
theorem name_any (w : World) (i k : Nat) (hi : i ≤ 1000) (hk : k ≤ 2000000) :
    Calls Tryz.prog 154 #[.int .i64 i, .int .i64 k] w fun e w' => e = .returned (.string (nm i k)) ∧ Only [] w w' := by
  have h1 : ∀ n : Nat, n < 256 → ((UInt8.ofNat n).toNat : Int) = n := fun n h => by simp [UInt8.toNat_ofNat', Nat.mod_eq_of_lt h]
  have hcv := run_convert_bytes_back (P := Tryz.prog) (w.alloc (.cells #[.int .u8 109, .int .u8 (65 + (i : Int) % 26), .int .u8 (65 + (i : Int) / 26 % 26), .int .u8 (48 + (k : Int) % 10), .int .u8 (48 + (k : Int) / 10 % 10), .int .u8 (48 + (k : Int) / 100 % 10)] 5)) 183 9 5 ⟨w.heap.size, 0, none⟩ 6 (nmL i k) Tryz.underlying183 Tryz.underlying5 Tryz.underlying9 (fun j hj => by
    have hj6 : j < 6 := hj
    have e1 := h1 (65 + i % 26) (by omega)
    have e2 := h1 (65 + i / 26 % 26) (by omega)
    have e3 := h1 (48 + k % 10) (by omega)
    have e4 := h1 (48 + k / 10 % 10) (by omega)
    have e5 := h1 (48 + k / 100 % 10) (by omega)
    have hc := Blk.cell (show Blk (w.alloc (.cells #[.int .u8 109, .int .u8 (65 + (i : Int) % 26), .int .u8 (65 + (i : Int) / 26 % 26), .int .u8 (48 + (k : Int) % 10), .int .u8 (48 + (k : Int) / 10 % 10), .int .u8 (48 + (k : Int) / 100 % 10)] 5)) w.heap.size 5 _ from Blk.new _ _ _) j
    rw [show (⟨w.heap.size, 0, none⟩ : Addr).add j = ⟨w.heap.size, j, none⟩ by simp [Addr.add]; omega, hc]
    have e0 : (UInt8.toNat 109 : Int) = 109 := rfl
    have hj7 : j = 0 ∨ j = 1 ∨ j = 2 ∨ j = 3 ∨ j = 4 ∨ j = 5 := by omega
    clear hc
    rcases hj7 with rfl | rfl | rfl | rfl | rfl | rfl
    · rfl
    · simp only [nmL, List.getElem_cons_succ, List.getElem_cons_zero]; rw [e1]; simp
    · simp only [nmL, List.getElem_cons_succ, List.getElem_cons_zero]; rw [e2]; simp
    · simp only [nmL, List.getElem_cons_succ, List.getElem_cons_zero]; rw [e3]; simp
    · simp only [nmL, List.getElem_cons_succ, List.getElem_cons_zero]; rw [e4]; simp
    · simp only [nmL, List.getElem_cons_succ, List.getElem_cons_zero]; rw [e5]; simp)
  have HC := Lib.hid hcv
  clear hcv
  go_enter Tryz.func154, Tryz.ntmps154
  go_wp2_with fail
  have hcv2 := HC.out
  rw [show (nmL i k).length = 6 from rfl] at hcv2
  rw [hcv2]
  clear hcv2 HC
  go_wp2
  go_ret
  exact ⟨rfl, (Only.refl _ _).alloc _⟩
end Go.Proofs.YtikboecmcbcghaaGreat
/- The book's marks for texts; what is still as it was. Printed by t2t.py from Ra1. -/
set_option linter.unusedVariables false
set_option linter.unusedSimpArgs false
namespace Go.Proofs.YtikboecmcbcghaaGreat
open Go.RowKit Go Go.Sort
theorem infoTx : (Tryz.prog.info? 9).map (fun i => (i.zero, i.size, i.bytes)) = some (some (.string ⟨#[]⟩), 1, 16) := by kernel_rfl
def mkT (i f n : Nat) : List ByteArray := (List.range n).map (fun k : Nat => nm i (f + k))
theorem mkT_len (i f n : Nat) : (mkT i f n).length = n := by simp [mkT]
theorem mkT_succ (i f n : Nat) : mkT i f (n + 1) = mkT i f n ++ [nm i (f + n)] := by simp [mkT, List.range_succ]
theorem mkT_app (i f n m : Nat) : mkT i f n ++ mkT i (f + n) m = mkT i f (n + m) := by
  induction m with
  | zero => simp [mkT]
  | succ m ih =>
    rw [mkT_succ, ← List.append_assoc, ih, ← Nat.add_assoc, mkT_succ, Nat.add_assoc]
theorem mkT_get (i f n k : Nat) (h : k < (mkT i f n).length) : (mkT i f n)[k] = nm i (f + k) := by simp [mkT]
set_option maxRecDepth 100000 in
set_option maxHeartbeats 500000 in
theorem markT_any (w : World) (i f n : Nat) (hi : i ≤ 1000) (hf : f + n ≤ 2000000) :
    Calls Tryz.prog 137 #[.int .i64 i, .int .i64 f, .int .i64 n] w fun e w' => ∃ A c, e = .returned (.slice A n c) ∧ w'.ownsRow w.heap.size 9 1 (.slice A n c) n (strs (mkT i f n)) ∧ Only [] w w' := by
  have hfn := IntWalk.i64_in ((f : Int) + (n : Int)) ⟨by omega, by omega⟩
  go_enter Tryz.func137, Tryz.ntmps137
  go_wp2
  go_loopw [7, 8] (fun ov kv wr => ∃ (j : Nat) (A : Option Addr) (c : Nat), j ≤ n ∧ ov = .slice A j c ∧ kv = .int .i64 ((f : Int) + (j : Int)) ∧ wr.ownsRow w.heap.size 9 1 (.slice A j c) j (strs (mkT i f j)) ∧ Only [] w wr) (fun _ kv _ => f + n - (intOf kv).toNat)
  case atStart => exact ⟨0, none, 0, Nat.zero_le _, rfl, by simp, World.ownsRow_nil _ _ _ _, Only.refl _ _⟩
  case round =>
    obtain ⟨j, A, c, hj, rfl, rfl, hown, hO⟩ := hrel
    by_cases hlt : j < n
    · have hlt' : (f : Int) + (j : Int) < (f : Int) + (n : Int) := by omega
      have h3 := IntWalk.i64_in ((f : Int) + (j : Int) + 1) ⟨by omega, by omega⟩
      have HN := Lib.hid (fun W : World => show Calls Tryz.prog 154 #[.int .i64 i, .int .i64 ((f : Int) + (j : Int))] W fun e w' => e = .returned (.string (nm i (f + j))) ∧ Only [] W w' from by
        have := name_any W i (f + j) (by omega) (by omega)
        rwa [Int.natCast_add] at this)
      have HW := Lib.hid hown
      clear hown
      go_wp2_with fail
      refine (HN.out _).mono ?_
      rintro e w1 ⟨rfl, k1⟩
      obtain ⟨A4, c4, w4, hr, hown4, hO4, _⟩ := run_app (P := Tryz.prog) (w := w1.alloc (.cells #[.string (nm i (f + j))] 9)) 41 41 w.heap.size 9 (.string ⟨#[]⟩) 1 16 Tryz.underlying41 infoTx rfl (by decide) ((own_only HW.out k1 (by simp)).alloc _) (slc_new1 (w := w1) (e := 9) (cs := [.string (nm i (f + j))]) rfl) (by simp [Value.oneCell']) (by omega) (by unfold maxLen; omega) (Nat.le_trans (hO.trans k1).size (by simp))
      have k4 : Only [] w w4 := ((hO.trans k1).alloc (.cells #[.string (nm i (f + j))] 9)).step hO4 (fun b hb => .inr (World.ownsRow.lt HW.out b (by simpa using hb)).1)
      have ho4 : w4.ownsRow w.heap.size 9 1 (.slice A4 (j + 1) c4) (j + 1) (strs (mkT i f (j + 1))) := by
        rw [mkT_succ, show strs (mkT i f j ++ [nm i (f + j)]) = strs (mkT i f j) ++ [.string (nm i (f + j))] by simp [strs]]
        exact hown4
      have HR := Lib.hid hr
      have HO := Lib.hid ho4
      clear hr hown4 hO4 ho4 HN
      go_wp2_with (at_builtin; refine Lib.wpList_append_run _ rfl (.tmp 17) (.tmp 21) 41 41 rfl _ _ rfl rfl _ _ HR.out ?_)
      exact ⟨⟨j + 1, A4, c4, hlt, rfl, by simp [Int.add_assoc], HO.out, k4⟩, by simp [intOf]; omega⟩
    · have hjn : j = n := by omega
      have hlt' : ¬ (f : Int) + (j : Int) < (f : Int) + (n : Int) := by omega
      subst hjn
      have HO := Lib.hid hown
      clear hown hlt
      go_wp2
      go_ret
      exact ⟨_, _, rfl, HO.out, hO⟩
set_option maxRecDepth 100000 in
set_option maxHeartbeats 500000 in
theorem stillT_any {w : World} {bb : Nat} {vt vx vi vy : Value} {T X : List (Value × List Value)} {I Y : List (Value × List StoredR)} (h : BkAt w bb vt vx vi vy T X I Y) :
    Calls Tryz.prog 74 #[.pointer (some ⟨bb, 0, none⟩)] w fun e w' => e = .returned (.bool true) ∧ Only [] w w' := by
  obtain ⟨Ai, ci, rfl, hni, hmi⟩ := own_form h.rt
  obtain ⟨Ay, cy, rfl, hny, hmy⟩ := own_form h.rx
  unfold maxLen at hmi hmy
  have g2 : w.cell? ⟨bb, 0, none⟩ = some (.slice Ai T.length ci) := h.blk.cell 0
  have g3 : w.cell? ⟨bb, 1, none⟩ = some (.slice Ay X.length cy) := h.blk.cell 1
  have hbl := h.blk.lt
  have hYl : X.length = T.length := by
    have := congrArg List.length h.st
    simpa using this.symm
  have HYl := Lib.hid hYl
  have HB := Lib.hid h
  clear hYl h
  go_enter Tryz.func74, Tryz.ntmps74
  go_wp2
  go_loopw [3] (fun iv wr => ∃ j : Nat, j ≤ T.length ∧ iv = .int .i64 j ∧ Only [] w wr) (fun iv _ => T.length - (intOf iv).toNat)
  case atStart => exact ⟨0, Nat.zero_le _, rfl, Only.refl _ _⟩
  case round =>
    obtain ⟨j, hj, rfl, hO⟩ := hrel
    have k2 : wr.cell? ⟨bb, 0, none⟩ = some (.slice Ai T.length ci) := (hO.cell hbl (by simp)).trans g2
    have k3 : wr.cell? ⟨bb, 1, none⟩ = some (.slice Ay X.length cy) := (hO.cell hbl (by simp)).trans g3
    by_cases hlt : j < T.length
    · have hltY : j < X.length := by rw [HYl.out]; exact hlt
      obtain ⟨bi, rfl, hbi, hci⟩ := row_at HB.out.rt j hlt
      obtain ⟨by', rfl, hby, hcy⟩ := row_at HB.out.rx j hltY
      rw [List.getElem?_map, List.getElem?_eq_getElem hlt] at hci
      rw [List.getElem?_map, List.getElem?_eq_getElem hltY] at hcy
      obtain ⟨p, hp⟩ : ∃ p, p = T[j] := ⟨_, rfl⟩
      obtain ⟨q, hq⟩ : ∃ q, q = X[j] := ⟨_, rfl⟩
      have hpm : p ∈ T := by rw [hp]; exact List.getElem_mem hlt
      have hqm : q ∈ X := by rw [hq]; exact List.getElem_mem hltY
      have hpq : p.2 = q.2 := by
        have := congrArg (fun l => l[j]?) HB.out.st
        simp only [List.getElem?_map, List.getElem?_eq_getElem hlt, List.getElem?_eq_getElem hltY, Option.map_some] at this
        rw [hp, hq]
        injection this
      rw [← hp] at hci
      rw [← hq] at hcy
      obtain ⟨l, hl, _⟩ := HB.out.ct p hpm
      obtain ⟨A1, c1, e1⟩ := HB.out.kt.lit p (List.mem_append_right _ hpm)
      obtain ⟨A2, c2, e2⟩ := HB.out.kt.lit q (List.mem_append_left _ hqm)
      have o1 := HB.out.kt.own p (List.mem_append_right _ hpm)
      have o2 := HB.out.kt.own q (List.mem_append_left _ hqm)
      have hil : (strs l).length = l.length := by simp [strs]
      rw [hl, hil] at o1 e1
      rw [← hpq, hl, hil] at o2 e2
      have HSm := Lib.hid (fun (W : World) (hW : Only [] w W) => sameT_refl (l := l) ((Slc.of_own o1).1.only0 hW) ((Slc.of_own o2).1.only0 hW))
      have hci' : w.cell? ⟨bi, j, none⟩ = some (.slice A1 l.length c1) := by rw [hci, ← e1]; rfl
      have hcy' : w.cell? ⟨by', j, none⟩ = some (.slice A2 l.length c2) := by rw [hcy, ← e2]; rfl
      rw [e1] at HSm
      rw [e2] at HSm
      have d2 := Within.cell (S := []) k2 (by simp)
      have d3 := Within.cell (S := []) k3 (by simp)
      have d4 := Within.cell (S := []) ((hO.cell hbi (by simp)).trans hci') (by simp)
      have d5 := Within.cell (S := []) ((hO.cell hby (by simp)).trans hcy') (by simp)
      clear hci hcy hci' hcy' hp hq hpq hl e1 e2 o1 o2 hpm hqm
      go_wp2_with fail
      refine wp_region_in [] [0, 1, 2, 3, 4, 5, 6, 7, 8, 9, 10, 11, 12, 13] [14, 15] [] (by kernel_rfl) (by kernel_rfl) (by intro c d u a w h; cases d <;> exact h) ?_
      show wpQuiet _ _ _ _ [_, _, _, _, _, _, _, _, _, _, _, _, _, _] _
      repeat (go_big_quiet_step (fail))
      refine wpQuiet_nil ?_
      clear d2 d3 d4 d5
      show wpList _ _ _ [_] _ _
      go_wp2_with fail
      refine (HSm.out _ hO.drew).mono ?_
      rintro e w1 ⟨rfl, k1⟩
      have k1' := (Only.refl [] wr).drew.trans k1
      go_wp2_with fail
      refine check_of (S := []) k1' ?_
      show wpList _ _ _ [_] _ _
      go_wp2_with fail
      refine check_last (S := []) k1' (fun _ _ q => q) ?_
      clear HSm k1
      go_wp2
      exact ⟨⟨j + 1, hlt, by simp, hO.trans k1'⟩, by simp [intOf]; omega⟩
    · clear HB HYl k3
      go_wp2
      go_ret
      exact ⟨rfl, hO⟩
end Go.Proofs.YtikboecmcbcghaaGreat
/- The book: all lists of numbers are marked. -/
set_option linter.unusedVariables false
set_option linter.unusedSimpArgs false
namespace Go.Proofs.YtikboecmcbcghaaGreat
open Go.RowKit Go Go.Sort
/-- The lists of numbers of a book, behind what was still. -/
structure PT (w : World) (bb : Nat) (cs : Array Value) (A : Option Addr) (c : Nat) (I : List (Value × List Value)) : Prop where
  blk : Blk w bb 40 cs
  at0 : cs[0]? = some (.slice A I.length c)
  cap : I.length ≤ c ∧ c ≤ maxLen
  ri : w.ownsRow 0 41 1 (.slice A I.length c) I.length (I.map (·.1))
  k : Kpt w 9 I
  ci : ∀ p ∈ I, ∃ l : List ByteArray, p.2 = strs l ∧ l.length ≤ 1000000
  few : I.length ≤ 250
/-- The first i rows marked. -/
def pmT (i : Nat) (I : List (Value × List Value)) : List (Value × List Value) := I.mapIdx (fun k p => if k < i then (p.1, strs (mkT k 0 p.2.length)) else p)
theorem pmT_len (i : Nat) (I : List (Value × List Value)) : (pmT i I).length = I.length := by simp [pmT]
theorem pmT_get (i : Nat) (I : List (Value × List Value)) (k : Nat) (h : k < I.length) (h' : k < (pmT i I).length) : (pmT i I)[k] = if k < i then (I[k].1, strs (mkT k 0 I[k].2.length)) else I[k] := by simp [pmT]
theorem pmT_zero (I : List (Value × List Value)) : pmT 0 I = I := by
  apply List.ext_getElem
  · simp [pmT]
  · intro k h1 h2
    rw [pmT_get 0 I k h2]
    simp
theorem pmT_fst (i : Nat) (I : List (Value × List Value)) : (pmT i I).map (·.1) = I.map (·.1) := by
  apply List.ext_getElem
  · simp [pmT]
  · intro k h1 h2
    have hk : k < I.length := by simpa using h2
    rw [List.getElem_map, List.getElem_map, pmT_get i I k hk]
    split <;> rfl
theorem pmT_set (i : Nat) (I : List (Value × List Value)) (h : i < I.length) : (pmT i I).set i (I[i].1, strs (mkT i 0 I[i].2.length)) = pmT (i + 1) I := by
  apply List.ext_getElem
  · simp [pmT]
  · intro k h1 h2
    have hk : k < I.length := by rw [pmT_len] at h2; exact h2
    rw [List.getElem_set, pmT_get (i + 1) I k hk]
    by_cases e : i = k
    · subst e
      rw [if_pos rfl, if_pos (by omega)]
    · rw [if_neg e, pmT_get i I k hk]
      by_cases q : k < i
      · rw [if_pos q, if_pos (by omega)]
      · rw [if_neg q, if_neg (by omega)]
theorem marksT_set (i k : Nat) (xs : List Value) (hk : k < xs.length) : (strs (mkT i 0 k) ++ xs.drop k).set k (.string (nm i (0 + k))) = strs (mkT i 0 (k + 1)) ++ xs.drop (k + 1) := by
  have hl : (strs (mkT i 0 k)).length = k := by simp [strs, mkT_len]
  rw [List.drop_eq_getElem_cons hk, List.set_append_right _ _ (by omega), hl, mkT_succ]
  simp only [Nat.sub_self, List.set_cons_zero]
  simp [strs]
end Go.Proofs.YtikboecmcbcghaaGreat
/- The book: putInts. -/
set_option linter.unusedVariables false
set_option linter.unusedSimpArgs false
namespace Go.Proofs.YtikboecmcbcghaaGreat
open Go.RowKit Go Go.Sort
section
variable {w w' : World} {bb : Nat} {cs : Array Value} {A : Option Addr} {c : Nat} {I : List (Value × List Value)}
theorem PT.only {S : List Nat} (h : PT w bb cs A c I) (k : Only S w w') (hS : ∀ b ∈ S, (∃ cur, Blk w b 9 cur) ∧ b ∉ blocksV I) : PT w' bb cs A c I := by
  refine ⟨k.blk h.blk (fun q => ?_), h.at0, h.cap, own_only h.ri k (fun b q z => ?_), h.k.only k (fun b q z => (hS b z).2 q), h.ci, h.few⟩
  · obtain ⟨⟨cur, hc⟩, _⟩ := hS bb q
    exact hc.other h.blk (by decide) rfl
  · obtain ⟨⟨cur, hc⟩, _⟩ := hS b z
    obtain ⟨c2, h2⟩ := own_type h.ri q
    exact hc.other h2 (by decide) rfl
theorem PT.cell (h : PT w bb cs A c I) : w.cell? ⟨bb, 0, none⟩ = some (.slice A I.length c) := by
  rw [h.blk.cell 0]
  exact h.at0
theorem PT.row (h : PT w bb cs A c I) (i : Nat) (hi : i < I.length) : ∃ vb, A = some ⟨vb, 0, none⟩ ∧ vb < w.heap.size ∧ (∃ cur, Blk w vb 41 cur) ∧ w.cell? ⟨vb, i, none⟩ = some I[i].1 := by
  obtain ⟨vb, e, hl, hc⟩ := row_at h.ri i hi
  obtain ⟨cur, hcur⟩ := own_type (g := vb) h.ri (by rw [e]; rfl)
  refine ⟨vb, e, hl, ⟨cur, hcur⟩, ?_⟩
  rw [hc, List.getElem?_map, List.getElem?_eq_getElem hi]
  rfl
set_option maxRecDepth 100000 in
set_option maxHeartbeats 1000000 in
theorem putT_all (h : PT w bb cs A c I) :
    Calls Tryz.prog 81 #[.pointer (some ⟨bb, 0, none⟩)] w fun e w' => e = .returned (.tuple #[]) ∧ PT w' bb cs A c (pmT I.length I) ∧ Only (blocksV I) w w' := by
  have hc63 := h.cap.2
  have hcl := h.cap.1
  have hfew := h.few
  unfold maxLen at hc63
  have hci := Lib.hid h.ci
  go_enter Tryz.func81, Tryz.ntmps81
  go_wp2
  go_loopw [2] (fun iv wr => ∃ i : Nat, i ≤ I.length ∧ iv = .int .i64 i ∧ PT wr bb cs A c (pmT i I) ∧ Only (blocksV I) w wr) (fun iv _ => I.length - (intOf iv).toNat)
  case atStart => exact ⟨0, Nat.zero_le _, rfl, by rw [pmT_zero]; exact h, Only.refl _ _⟩
  case round =>
    obtain ⟨i, hi, rfl, hP, hO⟩ := hrel
    have g2 : wr.cell? ⟨bb, 0, none⟩ = some (.slice A I.length c) := by have := hP.cell; rw [pmT_len] at this; exact this
    by_cases hlt : i < I.length
    · have hltJ : i < (pmT i I).length := by rw [pmT_len]; exact hlt
      obtain ⟨vb, rfl, hvb, ⟨vcur, hvcur⟩, hvc⟩ := hP.row i hltJ
      have hJi : (pmT i I)[i] = I[i] := by rw [pmT_get i I i hlt hltJ, if_neg (Nat.lt_irrefl _)]
      obtain ⟨p, hp⟩ : ∃ p, p = I[i] := ⟨_, rfl⟩
      rw [hJi, ← hp] at hvc
      have hpm : p ∈ pmT i I := by rw [hp, ← hJi]; exact List.getElem_mem hltJ
      have hown := hP.k.own p hpm
      obtain ⟨Ap, cp, hp1⟩ := hP.k.lit p hpm
      obtain ⟨l, hl, hll⟩ := hci.out p (by rw [hp]; exact List.getElem_mem hlt)
      have hpl : p.2.length ≤ 1000000 := by rw [hl]; simpa [strs] using hll
      obtain ⟨n, hn⟩ : ∃ n, n = p.2.length := ⟨_, rfl⟩
      rw [← hn] at hp1 hpl hown
      have hncp : n ≤ cp ∧ cp ≤ maxLen := by
        obtain ⟨A', c', e, q1, q2⟩ := own_form hown
        rw [hp1] at e
        injection e with _ _ e3
        omega
      have hcpm := hncp.2
      have hncp1 := hncp.1
      unfold maxLen at hcpm
      have hnotb : bb ∉ p.1.ownBlock.toList := fun q => by
        obtain ⟨c2, h2⟩ := own_type hown (g := bb) (by simpa using q)
        exact h2.other hP.blk (by decide) rfl
      have hnotv : vb ∉ p.1.ownBlock.toList := fun q => by
        obtain ⟨c2, h2⟩ := own_type hown (g := vb) (by simpa using q)
        exact h2.other hvcur (by decide) rfl
      have hsubI : ∀ b ∈ p.1.ownBlock.toList, b ∈ blocksV I := fun b q => mem_blocksV.2 ⟨p, by rw [hp]; exact List.getElem_mem hlt, by simpa using q⟩
      have HNext := Lib.hid (fun (W : World) (k : Only p.1.ownBlock.toList wr W) (ho : W.ownsRow 0 9 1 p.1 n (strs (mkT i 0 n))) => (show PT W bb cs (some ⟨vb, 0, none⟩) c (pmT (i + 1) I) ∧ Only (blocksV I) w W from by
        have hk := hP.k.set (i := i) hltJ (cs := strs (mkT i 0 n)) (w' := W) (by rw [hJi, ← hp, ← hn]; simp [strs, mkT_len]) (by rw [hJi, ← hp]; exact k) (by rw [hJi, ← hp, show (strs (mkT i 0 n)).length = n by simp [strs, mkT_len]]; exact ho)
        rw [hJi, hn, hp, pmT_set i I hlt] at hk
        refine ⟨⟨k.blk hP.blk hnotb, by have := hP.at0; rw [pmT_len] at this ⊢; exact this, by have := hP.cap; rw [pmT_len] at this ⊢; exact this, ?_, hk, ?_, by rw [pmT_len]; exact hfew⟩, hO.trans (k.mono hsubI)⟩
        · have := own_only hP.ri k (fun b q z => by
            obtain ⟨c2, h2⟩ := own_type hown (g := b) (by simpa using z)
            obtain ⟨c3, h3⟩ := own_type hP.ri q
            exact h2.other h3 (by decide) rfl)
          rw [pmT_len, pmT_fst] at this ⊢
          exact this
        · intro q hq
          obtain ⟨k', hk', rfl⟩ := List.getElem_of_mem hq
          have hk2 : k' < I.length := by rw [pmT_len] at hk'; exact hk'
          rw [pmT_get (i + 1) I k' hk2]
          obtain ⟨l2, hl2, hll2⟩ := hci.out I[k'] (List.getElem_mem hk2)
          split
          · exact ⟨mkT k' 0 I[k'].2.length, rfl, by rw [mkT_len, hl2]; simpa [strs] using hll2⟩
          · exact ⟨l2, hl2, hll2⟩))
      have HM := Lib.hid (show Calls Tryz.prog 137 #[.int .i64 i, .int .i64 0, .int .i64 n] wr fun e w' => ∃ A c, e = .returned (.slice A n c) ∧ w'.ownsRow wr.heap.size 9 1 (.slice A n c) n (strs (mkT i 0 n)) ∧ Only [] wr w' from markT_any wr i 0 n (by omega) (by omega))
      have hrl := World.ownsRow.lt hown
      have hbl := hP.blk.lt
      rw [hp1] at hvc hown HNext hnotb hnotv hrl
      obtain ⟨xs, hxs⟩ : ∃ xs, xs = p.2 := ⟨_, rfl⟩
      rw [← hxs] at hown hn
      clear hP hO hJi hl hp hpm hp1 hxs hncp hltJ hsubI
      have hnl := Lib.hid hn
      clear hn
      go_wp2_with fail
      refine HM.out.mono ?_
      rintro e w1 ⟨Am, cm, rfl, hom, k1⟩
      have hpd : ∀ b, (Value.slice Am n cm).ownBlock = some b → b ∉ (Value.slice Ap n cp).ownBlock.toList := fun b q z => by
        have h1 := (World.ownsRow.lt hom b q).1
        have h2 := (hrl b (by simpa using z)).2
        omega
      have hmcap : n ≤ cm ∧ cm ≤ 2 ^ 63 - 1 := by
        obtain ⟨A', c', e, q1, q2⟩ := own_form hom
        injection e with _ _ e3
        unfold maxLen at q2
        omega
      obtain ⟨hmc1, hmc2⟩ := hmcap
      have HOm := Lib.hid hom
      have HHvc := Lib.hid hvc
      have HG2 := Lib.hid g2
      have HPd := Lib.hid hpd
      clear hom hpd hvc g2
      go_wp2_with fail
      go_loopw [4] (fun kv wr => ∃ k : Nat, k ≤ n ∧ kv = .int .i64 k ∧ wr.ownsRow 0 9 1 (.slice Ap n cp) n (strs (mkT i 0 k) ++ xs.drop k) ∧ Only (Value.slice Ap n cp).ownBlock.toList w1 wr) (fun kv _ => n - (intOf kv).toNat)
      case atStart => exact ⟨0, Nat.zero_le _, rfl, by simpa [mkT, strs] using own_only hown k1 (by simp), Only.refl _ _⟩
      case round =>
        obtain ⟨k, hk, rfl, hoq, hOq⟩ := hrel
        by_cases hkn : k < n
        · obtain ⟨pb, hpb, hpl2, hpc⟩ := row_at hoq k hkn
          obtain ⟨mb, hmb, hml, hmc⟩ := row_at (own_only HOm.out hOq HPd.out) k hkn
          have hmk : (strs (mkT i 0 n))[k]? = some (.string (nm i (0 + k))) := by
            have hk2 : k < (mkT i 0 n).length := by rw [mkT_len]; exact hkn
            unfold strs
            rw [List.getElem?_map, List.getElem?_eq_getElem hk2, mkT_get]
            rfl
          rw [hmk] at hmc
          have hkx : k < xs.length := by rw [← hnl.out]; exact hkn
          have hpx : ∃ u, (strs (mkT i 0 k) ++ xs.drop k)[k]? = some u := by
            have hle : k < (strs (mkT i 0 k) ++ xs.drop k).length := by simp [strs, mkT_len]; omega
            exact ⟨_, List.getElem?_eq_getElem hle⟩
          obtain ⟨u, hu⟩ := hpx
          rw [hu] at hpc
          have hst := (show wr.ownsRow 0 9 1 (.slice (some ⟨pb, 0, none⟩) n cp) n (strs (mkT i 0 k) ++ xs.drop k) by rw [← hpb]; exact hoq)
          have hfr := hst.frozenAt k
          have hsto := fun wz (kz : Only [] wr wz) => (World.ownsRow.stored (own_only hst kz (by simp)) k (.string (nm i (0 + k)))).1
          have HSt := Lib.hid (fun wz (kz : Only [] wr wz) => (show (wz.setCell ⟨pb, k, none⟩ (.string (nm i (0 + k)))).ownsRow 0 9 1 (.slice Ap n cp) n (strs (mkT i 0 (k + 1)) ++ xs.drop (k + 1)) from by
            have := hsto wz kz
            rw [marksT_set i k xs hkx] at this
            rw [hpb]
            exact this))
          have hkO : ∀ wz, Only [] wr wz → Only (Value.slice Ap n cp).ownBlock.toList w1 (wz.setCell ⟨pb, k, none⟩ (.string (nm i (0 + k)))) := fun wz kz => (hOq.trans kz.of_nil).setCell (.inl (by rw [hpb]; simp [Value.ownBlock])) _
          have HKO := Lib.hid hkO
          have k1q := k1.of_nil.trans hOq
          have d2 := Within.cell (S := []) ((k1q.cell hbl hnotb).trans HG2.out) (by simp)
          have d3 := Within.cell (S := []) ((k1q.cell hvb hnotv).trans HHvc.out) (by simp)
          have d4 := Within.cell (S := []) hmc (by simp)
          have d5 := hpc
          subst hmb
          subst hpb
          clear hoq hOq hst hsto hkO hmk hu hmc k1q HM
          obtain ⟨mv, hmv⟩ : ∃ mv : ByteArray, mv = nm i (0 + k) := ⟨_, rfl⟩
          rw [← hmv] at HSt HKO d4
          clear hmv
          go_wp2_with fail
          refine wp_region_in [] [0, 1, 2, 3, 4, 5, 6, 7, 8, 9, 10, 11, 12] [] [13] (by kernel_rfl) (by kernel_rfl) (by intro c d u a w h; cases d <;> exact h) ?_
          show wpQuiet _ _ _ _ [_, _, _, _, _, _, _, _, _, _, _, _, _] _
          repeat (go_big_quiet_step (fail))
          refine wpQuiet_nil ?_
          clear d2 d3 d4
          show wpList _ _ _ [_] _ _
          go_wp2
          exact ⟨⟨k + 1, hkn, by simp, (HSt.out _ (Only.refl _ _)).drew, (HKO.out _ (Only.refl _ _)).drew⟩, by simp [intOf]; omega⟩
        · have hkn2 : k = n := by omega
          have hdr : strs (mkT i 0 k) ++ xs.drop k = strs (mkT i 0 n) := by rw [hkn2, List.drop_of_length_le (by rw [← hnl.out]; exact Nat.le_refl _), List.append_nil]
          rw [hdr] at hoq
          have hN := HNext.out _ (k1.of_nil.trans hOq) hoq
          have HN1 := Lib.hid hN.1
          have HN2 := Lib.hid hN.2
          clear hN hoq hOq hdr hkn2 HNext HM HOm HHvc HG2 HPd
          go_wp2
          exact ⟨⟨i + 1, hlt, by simp, HN1.out, HN2.out⟩, by simp [intOf]; omega⟩
    · have hin : i = I.length := by omega
      subst hin
      have HF := Lib.hid (And.intro hP hO)
      clear hP hO hlt
      go_wp2
      go_end0
      exact ⟨rfl, HF.out⟩
end
end Go.Proofs.YtikboecmcbcghaaGreat
/- The book: markedInts. -/
set_option linter.unusedVariables false
set_option linter.unusedSimpArgs false
namespace Go.Proofs.YtikboecmcbcghaaGreat
open Go.RowKit Go Go.Sort
/-- Lists that have their marks. -/
structure MkdT (w : World) (A : Option Addr) (c : Nat) (L : List (Value × Nat)) : Prop where
  cap : L.length ≤ c ∧ c ≤ 2 ^ 63 - 1
  few : L.length ≤ 250
  row : ∀ i (h : i < L.length), ∃ vb, A = some ⟨vb, 0, none⟩ ∧ vb < w.heap.size ∧ w.cell? ⟨vb, i, none⟩ = some L[i].1
  lit : ∀ i (h : i < L.length), ∃ A' c', L[i].1 = .slice A' L[i].2 c'
  slc : ∀ i (h : i < L.length), Slc w 1 L[i].1 L[i].2 (strs (mkT i 0 L[i].2))
  len : ∀ i (h : i < L.length), L[i].2 ≤ 1100000
theorem MkdT.keep0 {w w' : World} {A : Option Addr} {c : Nat} {L : List (Value × Nat)} (h : MkdT w A c L) (k : Only [] w w') : MkdT w' A c L :=
  ⟨h.cap, h.few, fun i hi => by
    obtain ⟨vb, e, hl, hc⟩ := h.row i hi
    exact ⟨vb, e, Nat.lt_of_lt_of_le hl k.size, (k.cell hl (by simp)).trans hc⟩, h.lit, fun i hi => (h.slc i hi).only k (by simp), h.len⟩
set_option maxRecDepth 100000 in
set_option maxHeartbeats 500000 in
theorem markedT_any {w : World} {A : Option Addr} {c : Nat} {L : List (Value × Nat)} (h : MkdT w A c L) :
    Calls Tryz.prog 92 #[.slice A L.length c] w fun e w' => e = .returned (.bool true) ∧ Only [] w w' := by
  obtain ⟨hc1, hc2⟩ := h.cap
  have hfew := h.few
  have HM := Lib.hid h
  clear h
  go_enter Tryz.func92, Tryz.ntmps92
  go_wp2
  go_loopw [3] (fun iv wr => ∃ i : Nat, i ≤ L.length ∧ iv = .int .i64 i ∧ Only [] w wr) (fun iv _ => L.length - (intOf iv).toNat)
  case atStart => exact ⟨0, Nat.zero_le _, rfl, Only.refl _ _⟩
  case round =>
    obtain ⟨i, hi, rfl, hO⟩ := hrel
    by_cases hlt : i < L.length
    · obtain ⟨vb, rfl, hvb, hcell⟩ := (HM.out.keep0 hO).row i hlt
      have hsl := (HM.out.keep0 hO).slc i hlt
      obtain ⟨A', c', hlit⟩ := HM.out.lit i hlt
      have hlen := HM.out.len i hlt
      obtain ⟨n, hn⟩ : ∃ n, n = L[i].2 := ⟨_, rfl⟩
      obtain ⟨v, hv⟩ : ∃ v, v = L[i].1 := ⟨_, rfl⟩
      rw [← hn] at hsl hlit hlen
      rw [← hv] at hsl hlit hcell
      rw [hlit] at hsl hcell
      have hmk : (mkT i 0 n).length = n := mkT_len _ _ _
      have HMk := Lib.hid (fun W => show Calls Tryz.prog 137 #[.int .i64 i, .int .i64 0, .int .i64 n] W fun e w' => ∃ A c, e = .returned (.slice A n c) ∧ w'.ownsRow W.heap.size 9 1 (.slice A n c) n (strs (mkT i 0 n)) ∧ Only [] W w' from markT_any W i 0 n (by omega) (by omega))
      have HSm := Lib.hid (fun (W : World) (hW : Only [] wr W) (v2 : Value) (h2 : Slc W 1 v2 n (strs (mkT i 0 n))) => sameT_refl (l := mkT i 0 n) (v1 := .slice A' n c') (v2 := v2) (by rw [hmk]; exact hsl.only hW (by simp)) (by rw [hmk]; exact h2))
      have d1 := Within.cell (S := []) hcell (by simp)
      clear hsl hcell hlit hn hv hmk
      go_wp2_with fail
      refine wp_region_in [] [0, 1, 2, 3, 4, 5, 6, 7, 8, 9] [10, 11, 12] [] (by kernel_rfl) (by kernel_rfl) (by intro c d u a w h; cases d <;> exact h) ?_
      show wpQuiet _ _ _ _ [_, _, _, _, _, _, _, _, _, _] _
      repeat (go_big_quiet_step (fail))
      refine wpQuiet_nil ?_
      clear d1
      show wpList _ _ _ [_] _ _
      go_wp2_with fail
      refine (HMk.out _).mono ?_
      rintro e w1 ⟨Am, cm, rfl, hom, k1⟩
      have k1' := (Only.refl [] wr).drew.trans k1
      go_wp2_with fail
      refine check_of (S := []) k1' ?_
      show wpList _ _ _ [_] _ _
      go_wp2_with fail
      refine (HSm.out _ k1' _ (Slc.of_own hom).1).mono ?_
      rintro e w2 ⟨rfl, k2⟩
      have k2' := k1'.trans k2
      go_wp2_with fail
      refine check_of (S := []) k2' ?_
      show wpList _ _ _ [_] _ _
      go_wp2_with fail
      refine check_last (S := []) k2' (fun _ _ q => q) ?_
      clear HSm HMk k1 k2 k1' hom
      go_wp2
      exact ⟨⟨i + 1, hlt, by simp, hO.trans k2'⟩, by simp [intOf]; omega⟩
    · clear HM
      go_wp2
      go_ret
      exact ⟨rfl, hO⟩
/-- The marked lists behind putInts are marked. -/
theorem PT.mkd {w : World} {bb : Nat} {cs : Array Value} {A : Option Addr} {c : Nat} {I : List (Value × List Value)} (h : PT w bb cs A c (pmT I.length I)) : MkdT w A c (I.map (fun p => (p.1, p.2.length))) := by
  have hcap := h.cap
  unfold maxLen at hcap
  rw [pmT_len] at hcap
  refine ⟨by rw [List.length_map]; exact hcap, by rw [List.length_map]; have := h.few; rwa [pmT_len] at this, fun i hi => ?_, fun i hi => ?_, fun i hi => ?_, fun i hi => ?_⟩
  all_goals
    have hi2 : i < I.length := by simpa using hi
    have hi3 : i < (pmT I.length I).length := by rw [pmT_len]; exact hi2
    have hg : (pmT I.length I)[i] = (I[i].1, strs (mkT i 0 I[i].2.length)) := by rw [pmT_get _ _ _ hi2 hi3, if_pos hi2]
    have hm : (I[i].1, strs (mkT i 0 I[i].2.length)) ∈ pmT I.length I := by rw [← hg]; exact List.getElem_mem hi3
    rw [List.getElem_map]
  · obtain ⟨vb, e, hl, _, hc⟩ := h.row i hi3
    rw [hg] at hc
    exact ⟨vb, e, hl, hc⟩
  · obtain ⟨A', c', e⟩ := h.k.lit _ hm
    simp only [show (strs (mkT i 0 I[i].2.length)).length = I[i].2.length by simp [strs, mkT_len]] at e
    exact ⟨A', c', e⟩
  · have := (Slc.of_own (h.k.own _ hm)).1
    simp only [show (strs (mkT i 0 I[i].2.length)).length = I[i].2.length by simp [strs, mkT_len]] at this
    exact this
  · obtain ⟨l, hl, hll⟩ := h.ci _ hm
    have : I[i].2.length = l.length := by
      have := congrArg List.length hl
      simpa [strs, mkT_len] using this
    simp only
    omega
end Go.Proofs.YtikboecmcbcghaaGreat
/- The book: growing a list, plain part. -/
set_option linter.unusedVariables false
set_option linter.unusedSimpArgs false
namespace Go.Proofs.YtikboecmcbcghaaGreat
open Go.RowKit Go Go.Sort
/-- A list on its way to be grown. -/
structure GrInT (w0 W : World) (i n : Nat) (Ap : Option Addr) (cp : Nat) (nt : Nat) (Al : Option Addr) (cl : Nat) : Prop where
  own : W.ownsRow 0 9 1 (.slice Al nt cl) nt (strs (mkT i 0 nt))
  le : n ≤ nt
  blk : ∀ b, (Value.slice Al nt cl).ownBlock = some b → (Value.slice Ap n cp).ownBlock = some b ∨ w0.heap.size ≤ b
  only : Only (Value.slice Ap n cp).ownBlock.toList w0 W
  old : Slc W 1 (.slice Ap n cp) n (strs (mkT i 0 n))
  zero : ∀ b off, Ap = some ⟨b, off, none⟩ → off = 0
theorem strs_take (i n m : Nat) (h : n ≤ m) : (strs (mkT i 0 m)).take n = strs (mkT i 0 n) := by
  obtain ⟨k, rfl⟩ : ∃ k, m = n + k := ⟨m - n, by omega⟩
  rw [← mkT_app]
  simp [strs, mkT_len]
theorem GrInT.step {w0 W w1 : World} {i n cp nt cl q cm : Nat} {Ap Al Am : Option Addr} (h : GrInT w0 W i n Ap cp nt Al cl) (k1 : Only [] W w1) (hm : w1.ownsRow W.heap.size 9 1 (.slice Am q cm) q (strs (mkT i nt q))) (hb : nt + q ≤ 2000000) :
    ∃ A' c' w2, (Builtin.append_ #[41, 41] 41 #[.slice Al nt cl, .slice Am q cm]).run Tryz.prog w1 = .ok (.slice A' (nt + q) c') w2 ∧ GrInT w0 w2 i n Ap cp (nt + q) A' c' := by
  have hl1 := own_only h.own k1 (by simp)
  have hms := (Slc.of_own hm).1
  obtain ⟨A', c', w2, hr, ho2, hO, hf⟩ := run_app (P := Tryz.prog) 41 41 0 9 (.string ⟨#[]⟩) 1 16 Tryz.underlying41 infoTx rfl (by decide) hl1 hms (strs_one _) (by omega) (by unfold maxLen; omega) (Nat.zero_le _)
  have hold := run_app_old (P := Tryz.prog) 41 41 0 9 (.string ⟨#[]⟩) 1 16 Tryz.underlying41 infoTx rfl (by decide) hl1 hms (strs_one _) (by omega) (by unfold maxLen; omega) (Nat.zero_le _) hr ho2
  have hcs : strs (mkT i 0 nt) ++ strs (mkT i nt q) = strs (mkT i 0 (nt + q)) := by
    rw [← mkT_app i 0 nt q, Nat.zero_add]
    simp [strs]
  rw [hcs] at ho2
  have hsz := h.only.size
  have hsz1 := k1.size
  refine ⟨A', c', w2, hr, ho2, by have := h.le; omega, fun b z => ?_, ?_, keep_old (h.old.only k1 (by simp)) h.zero hl1 (strs_take i n nt h.le) h.le hO hold, h.zero⟩
  · rcases hf b z with y | y
    · exact h.blk b y
    · exact .inr (by omega)
  · refine (h.only.trans k1.of_nil).step hO (fun b z => ?_)
    rcases h.blk b (by simpa using z) with y | y
    · exact .inl (by simp [y])
    · exact .inr y
end Go.Proofs.YtikboecmcbcghaaGreat
/- The book: growInts. -/
set_option linter.unusedVariables false
set_option linter.unusedSimpArgs false
namespace Go.Proofs.YtikboecmcbcghaaGreat
open Go.RowKit Go Go.Sort
/-- The lists that are grown so far. -/
structure GrOT (w W : World) (J : List (Value × Nat)) (i : Nat) (O : List (Value × Nat)) (Ao : Option Addr) (co : Nat) : Prop where
  olen : O.length = i
  out : W.ownsRow w.heap.size 41 1 (.slice Ao i co) i (O.map (·.1))
  two : ∀ k (h : k < O.length) (hk : k < J.length), O[k].2 = J[k].2 + 72
  lit : ∀ k (h : k < O.length), ∃ A' c', O[k].1 = .slice A' O[k].2 c'
  slc : ∀ k (h : k < O.length), Slc W 1 O[k].1 O[k].2 (strs (mkT k 0 O[k].2))
  typ : ∀ k (h : k < O.length) b, O[k].1.ownBlock = some b → ∃ cur, Blk W b 9 cur
  blk : ∀ k (h : k < O.length) (hk : k < J.length) b, O[k].1.ownBlock = some b → J[k].1.ownBlock = some b ∨ w.heap.size ≤ b
  old : ∀ k (hk : k < J.length), k < i → Slc W 1 J[k].1 J[k].2 (strs (mkT k 0 J[k].2))
  rest : ∀ k (hk : k < J.length), i ≤ k → W.ownsRow 0 9 1 J[k].1 J[k].2 (strs (mkT k 0 J[k].2))
/-- The lists, as they were when growing began. -/
structure GrJT (w : World) (J : List (Value × Nat)) : Prop where
  own : ∀ k (hk : k < J.length), w.ownsRow 0 9 1 J[k].1 J[k].2 (strs (mkT k 0 J[k].2))
  lit : ∀ k (hk : k < J.length), ∃ A' c', J[k].1 = .slice A' J[k].2 c'
  dis : ∀ k l (hk : k < J.length) (hl : l < J.length), k ≠ l → ∀ b, J[k].1.ownBlock = some b → J[l].1.ownBlock ≠ some b
  len : ∀ k (hk : k < J.length), J[k].2 ≤ 1000000
  few : J.length ≤ 250
theorem GrJT.start {w : World} {J : List (Value × Nat)} (h : GrJT w J) : GrOT w w J 0 [] none 0 :=
  ⟨rfl, World.ownsRow_nil _ _ _ _, fun k q => absurd q (Nat.not_lt_zero _), fun k q => absurd q (Nat.not_lt_zero _), fun k q => absurd q (Nat.not_lt_zero _), fun k q => absurd q (Nat.not_lt_zero _), fun k q => absurd q (Nat.not_lt_zero _), fun k hk q => absurd q (Nat.not_lt_zero _), fun k hk _ => h.own k hk⟩
/-- One more list is grown, and put behind the others. -/
theorem GrOT.next {w W W3 w5 : World} {J O : List (Value × Nat)} {i co cp cl c5 : Nat} {Ao Ap Al A5 : Option Addr} (hJ : GrJT w J) (h : GrOT w W J i O Ao co) (hi : i < J.length) (hp : J[i].1 = .slice Ap J[i].2 cp) (hW : w.heap.size ≤ W.heap.size) (hg : GrInT W W3 i J[i].2 Ap cp (J[i].2 + 72) Al cl)
    (hO5 : Only (Value.slice Ao i co).ownBlock.toList (W3.alloc (.cells #[.slice Al (J[i].2 + 72) cl] 41)) w5) (ho5 : w5.ownsRow w.heap.size 41 1 (.slice A5 (i + 1) c5) (i + 1) (O.map (·.1) ++ [.slice Al (J[i].2 + 72) cl])) :
    GrOT w w5 J (i + 1) (O ++ [(.slice Al (J[i].2 + 72) cl, J[i].2 + 72)]) A5 c5 := by
  have hout := World.ownsRow.lt h.out
  have hpl := World.ownsRow.lt (hJ.own i hi)
  have ko : Only (Value.slice Ao i co).ownBlock.toList W3 w5 := (((Only.refl [] W3).alloc _).of_nil).trans hO5
  have hpW : ∀ b, J[i].1.ownBlock = some b → b < w.heap.size := fun b q => (hpl b q).2
  -- what lies in numbers is not turned by the list of lists
  have hnt : ∀ b cur, Blk W3 b 9 cur → b ∉ (Value.slice Ao i co).ownBlock.toList := fun b cur hb q => by
    have q' : (Value.slice Ao i co).ownBlock = some b := by simpa using q
    obtain ⟨c1, h1⟩ := own_type h.out q'
    have hbp : b ∉ (Value.slice Ap J[i].2 cp).ownBlock.toList := fun z => by
      have h2 := (hout b q').1
      have h3 := hpW b (by rw [hp]; simpa using z)
      omega
    exact (hg.only.blk h1 hbp).other hb (by decide) rfl
  have hOl : (O ++ [(Value.slice Al (J[i].2 + 72) cl, J[i].2 + 72)]).length = i + 1 := by rw [List.length_append, h.olen]; rfl
  have hget : ∀ k (hk : k < (O ++ [(Value.slice Al (J[i].2 + 72) cl, J[i].2 + 72)]).length), (∃ hk2 : k < O.length, (O ++ [(Value.slice Al (J[i].2 + 72) cl, J[i].2 + 72)])[k] = O[k]) ∨ (k = i ∧ (O ++ [(Value.slice Al (J[i].2 + 72) cl, J[i].2 + 72)])[k] = (.slice Al (J[i].2 + 72) cl, J[i].2 + 72)) := fun k hk => by
    by_cases q : k < O.length
    · exact .inl ⟨q, List.getElem_append_left q⟩
    · right
      have hki : k = i := by
        have := h.olen
        rw [hOl] at hk
        omega
      refine ⟨hki, ?_⟩
      rw [List.getElem_append_right (by omega)]
      simp
  have hOp : ∀ k (hk : k < O.length) b, O[k].1.ownBlock = some b → b ∉ (Value.slice Ap J[i].2 cp).ownBlock.toList := fun k hk b q z => by
    have z' : J[i].1.ownBlock = some b := by rw [hp]; simpa using z
    have hki : k < i := by rw [h.olen] at hk; exact hk
    rcases h.blk k hk (by omega) b q with y | y
    · exact hJ.dis k i (by omega) hi (by omega) b y z'
    · have := hpW b z'
      omega
  have hJp : ∀ k (hk : k < J.length), k ≠ i → ∀ b, J[k].1.ownBlock = some b → b ∉ (Value.slice Ap J[i].2 cp).ownBlock.toList := fun k hk hki b q z => hJ.dis k i hk hi hki b q (by rw [hp]; simpa using z)
  have hJo : ∀ k (hk : k < J.length) b, J[k].1.ownBlock = some b → b ∉ (Value.slice Ao i co).ownBlock.toList := fun k hk b q z => by
    have h1 := (hout b (by simpa using z)).1
    have h2 := (World.ownsRow.lt (hJ.own k hk) b q).2
    omega
  have hlt3 := World.ownsRow.lt hg.own
  refine ⟨hOl, by rw [List.map_append]; exact ho5, fun k hk hkJ => ?_, fun k hk => ?_, fun k hk => ?_, fun k hk b q => ?_, fun k hk hkJ b q => ?_, fun k hk hki => ?_, fun k hk hki => ?_⟩
  · rcases hget k hk with ⟨hk2, e⟩ | ⟨e1, e⟩
    · rw [e]; exact h.two k hk2 hkJ
    · subst e1; rw [e]
  · rcases hget k hk with ⟨hk2, e⟩ | ⟨e1, e⟩
    · rw [e]; exact h.lit k hk2
    · rw [e]; exact ⟨Al, cl, rfl⟩
  · rcases hget k hk with ⟨hk2, e⟩ | ⟨e1, e⟩
    · rw [e]
      refine ((h.slc k hk2).only hg.only (fun b q => hOp k hk2 b q)).only ko (fun b q => ?_)
      obtain ⟨cur, hb⟩ := h.typ k hk2 b q
      exact hnt b cur (hg.only.blk hb (hOp k hk2 b q))
    · rw [e]
      subst e1
      refine (Slc.of_own hg.own).1.only ko (fun b q => ?_)
      obtain ⟨cur, hb⟩ := own_type hg.own q
      exact hnt b cur hb
  · rcases hget k hk with ⟨hk2, e⟩ | ⟨e1, e⟩
    · rw [e] at q
      obtain ⟨cur, hb⟩ := h.typ k hk2 b q
      have hb3 := hg.only.blk hb (hOp k hk2 b q)
      exact ⟨cur, ko.blk hb3 (hnt b cur hb3)⟩
    · rw [e] at q
      obtain ⟨cur, hb⟩ := own_type hg.own q
      exact ⟨cur, ko.blk hb (hnt b cur hb)⟩
  · rcases hget k hk with ⟨hk2, e⟩ | ⟨e1, e⟩
    · rw [e] at q; exact h.blk k hk2 hkJ b q
    · rw [e] at q
      subst e1
      rcases hg.blk b q with y | y
      · exact .inl (by rw [hp]; exact y)
      · exact .inr (by omega)
  · by_cases e : k = i
    · subst e
      have ho := hg.old
      rw [← hp] at ho
      exact ho.only ko (fun b q => hJo k hk b q)
    · exact ((h.old k hk (by omega)).only hg.only (fun b q => hJp k hk e b q)).only ko (fun b q => hJo k hk b q)
  · have hne : k ≠ i := by omega
    exact own_only (own_only (h.rest k hk (by omega)) hg.only (fun b q => hJp k hk hne b q)) ko (fun b q => hJo k hk b q)
end Go.Proofs.YtikboecmcbcghaaGreat
/- The book: growInts, the walk. -/
set_option linter.unusedVariables false
set_option linter.unusedSimpArgs false
namespace Go.Proofs.YtikboecmcbcghaaGreat
open Go.RowKit Go Go.Sort
set_option maxRecDepth 100000 in
set_option maxHeartbeats 400000 in
theorem growT_any {w : World} {bb : Nat} {cs : Array Value} {A : Option Addr} {c : Nat} {J : List (Value × Nat)} (hblk : Blk w bb 40 cs) (hat : cs[0]? = some (.slice A J.length c)) (hcap : J.length ≤ c ∧ c ≤ 2 ^ 63 - 1)
    (hri : w.ownsRow 0 41 1 (.slice A J.length c) J.length (J.map (·.1))) (hJ : GrJT w J) :
    Calls Tryz.prog 86 #[.pointer (some ⟨bb, 0, none⟩)] w fun e w' => ∃ Ao co, e = .returned (.slice Ao J.length co) ∧ (∃ O, GrOT w w' J J.length O Ao co) ∧ Only (blocksJ J) w w' := by
  have hfew := hJ.few
  obtain ⟨hc1, hc2⟩ := hcap
  have g2 : w.cell? ⟨bb, 0, none⟩ = some (.slice A J.length c) := by rw [hblk.cell 0]; exact hat
  have hSJ : ∀ b ∈ blocksJ J, (∃ cur, Blk w b 9 cur) ∧ b < w.heap.size := fun b q => by
    obtain ⟨p, hp, e⟩ := mem_blocksJ.1 q
    obtain ⟨k, hk, rfl⟩ := List.getElem_of_mem hp
    exact ⟨own_type (hJ.own k hk) e, (World.ownsRow.lt (hJ.own k hk) b e).2⟩
  have hbn : bb ∉ blocksJ J := fun q => by
    obtain ⟨cur, hc⟩ := (hSJ bb q).1
    exact hc.other hblk (by decide) rfl
  have hbl := hblk.lt
  have HJ := Lib.hid hJ
  have HRi := Lib.hid hri
  clear hat hJ hri
  go_enter Tryz.func86, Tryz.ntmps86
  go_wp2
  go_loopw [3, 4] (fun ov iv wr => ∃ (i : Nat) (Ao : Option Addr) (co : Nat), i ≤ J.length ∧ ov = .slice Ao i co ∧ iv = .int .i64 i ∧ Hid (∃ O, GrOT w wr J i O Ao co) ∧ Only (blocksJ J) w wr) (fun _ iv _ => J.length - (intOf iv).toNat)
  case atStart => exact ⟨0, none, 0, Nat.zero_le _, rfl, rfl, ⟨[], HJ.out.start⟩, Only.refl _ _⟩
  case round =>
    obtain ⟨i, Ao, co, hi, rfl, rfl, hG, hO⟩ := hrel
    have k2 : wr.cell? ⟨bb, 0, none⟩ = some (.slice A J.length c) := (hO.cell hbl hbn).trans g2
    have hsz := hO.size
    by_cases hlt : i < J.length
    · obtain ⟨vb, rfl, hvb, hvc⟩ := row_at HRi.out i hlt
      have hvn : vb ∉ blocksJ J := fun q => by
        obtain ⟨cur, hc⟩ := (hSJ vb q).1
        obtain ⟨c2, h2⟩ := own_type (g := vb) HRi.out rfl
        exact hc.other h2 (by decide) rfl
      rw [List.getElem?_map, List.getElem?_eq_getElem hlt] at hvc
      obtain ⟨Ap, cp, hp⟩ := HJ.out.lit i hlt
      have hpl := HJ.out.len i hlt
      have hown := HJ.out.own i hlt
      have hrest : ∃ O, GrOT w wr J i O Ao co := hG.out
      have hro : wr.ownsRow 0 9 1 J[i].1 J[i].2 (strs (mkT i 0 J[i].2)) := by
        obtain ⟨O, hOx⟩ := hrest
        exact hOx.rest i hlt (Nat.le_refl _)
      have hvc' : wr.cell? ⟨vb, i, none⟩ = some (.slice Ap J[i].2 cp) := by
        rw [hO.cell (by exact hvb) hvn, hvc, ← hp]
        rfl
      obtain ⟨n, hn⟩ : ∃ n, n = J[i].2 := ⟨_, rfl⟩
      rw [← hn] at hpl hvc'
      rw [hp, ← hn] at hro
      have hzero : ∀ b off, Ap = some ⟨b, off, none⟩ → off = 0 := fun b off e => by
        rcases hro.2 with ⟨e2, _⟩ | ⟨g, cap, cur, e2, _⟩
        · injection e2 with q1 _ _
          rw [e] at q1
          cases q1
        · injection e2 with q1 _ _
          rw [e] at q1
          injection q1 with q1
          injection q1 with _ q2
      have hst : GrInT wr wr i n Ap cp n Ap cp := ⟨hro, Nat.le_refl _, fun b q => .inl q, Only.refl _ _, (Slc.of_own hro).1, hzero⟩
      have hpS : ∀ b, (Value.slice Ap n cp).ownBlock = some b → b ∈ blocksJ J := fun b q => mem_blocksJ.2 ⟨J[i], List.getElem_mem hlt, by rw [hp, ← hn]; exact q⟩
      have HNx := Lib.hid (fun (W3 w5 : World) (Al A5 : Option Addr) (cl c5 : Nat) (O : List (Value × Nat)) (hOx : GrOT w wr J i O Ao co) (hg : GrInT wr W3 i n Ap cp (n + 72) Al cl)
        (hO5 : Only (Value.slice Ao i co).ownBlock.toList (W3.alloc (.cells #[.slice Al (n + 72) cl] 41)) w5) (ho5 : w5.ownsRow w.heap.size 41 1 (.slice A5 (i + 1) c5) (i + 1) (O.map (·.1) ++ [.slice Al (n + 72) cl])) =>
        (show GrOT w w5 J (i + 1) (O ++ [(.slice Al (n + 72) cl, n + 72)]) A5 c5 from by
          subst hn
          exact GrOT.next HJ.out hOx hlt hp hsz hg hO5 ho5))
      have HG := Lib.hid hG
      have HVc := Lib.hid hvc
      have HSt := Lib.hid hst
      clear hvc hp hown hrest hro hn hst hG HVc hzero
      go_wp2_with fail
      go_loopw [5, 6] (fun lv tv W => ∃ (t nt : Nat) (Al : Option Addr) (cl : Nat), t ≤ 12 ∧ Hid (nt = n + t) ∧ lv = .slice Al nt cl ∧ tv = .int .i64 t ∧ GrInT wr W i n Ap cp nt Al cl) (fun _ tv _ => 12 - (intOf tv).toNat)
      case atStart => exact ⟨0, n, Ap, cp, by omega, rfl, rfl, rfl, HSt.out⟩
      case round =>
        obtain ⟨t, nt, Al, cl, ht, hnt, rfl, rfl, hg⟩ := hrel
        by_cases h12 : t < 12
        · have hb : nt ≤ 1100000 := by have := hnt.out; omega
          have h12' : (t : Int) < 12 := by omega
          have HM := Lib.hid (show Calls Tryz.prog 137 #[.int .i64 i, .int .i64 nt, .int .i64 1] wr fun e w' => ∃ A c, e = .returned (.slice A 1 c) ∧ w'.ownsRow wr.heap.size 9 1 (.slice A 1 c) 1 (strs (mkT i nt 1)) ∧ Only [] wr w' from markT_any wr i nt 1 (by omega) (by omega))
          have HGi := Lib.hid hg
          clear hg HNx HG HSt HRi HJ
          go_wp2_with fail
          refine HM.out.mono ?_
          rintro e w1 ⟨Am, cm, rfl, hom, k1⟩
          obtain ⟨A', c', w2, hr, hg2⟩ := HGi.out.step k1 hom (by omega)
          have HR := Lib.hid hr
          clear hr hom k1 HM
          go_wp2_with (at_builtin; refine Lib.wpList_append_run _ rfl (.tmp 27) (.tmp 31) 41 41 rfl _ _ rfl rfl _ _ HR.out ?_)
          exact ⟨⟨t + 1, nt + 1, A', c', by omega, (by have := hnt.out; show nt + 1 = n + (t + 1); omega), rfl, by simp, hg2⟩, by simp [intOf]; omega⟩
        · have ht12 : t = 12 := by omega
          have hne : nt = n + 12 := by have := hnt.out; omega
          subst hne
          subst ht12
          have HM := Lib.hid (show Calls Tryz.prog 137 #[.int .i64 i, .int .i64 ((n + 12 : Nat) : Int), .int .i64 60] wr fun e w' => ∃ A c, e = .returned (.slice A 60 c) ∧ w'.ownsRow wr.heap.size 9 1 (.slice A 60 c) 60 (strs (mkT i (n + 12) 60)) ∧ Only [] wr w' from markT_any wr i (n + 12) 60 (by omega) (by omega))
          have HGi := Lib.hid hg
          clear hg h12 hnt HSt
          go_wp2_with fail
          refine HM.out.mono ?_
          rintro e w1 ⟨Am, cm, rfl, hom, k1⟩
          obtain ⟨A', c', w2, hr, hg2⟩ := HGi.out.step k1 hom (by omega)
          rw [show n + 12 + 60 = n + 72 by omega] at hr hg2
          obtain ⟨O, hOx⟩ := HG.out.out
          have hout2 : w2.ownsRow w.heap.size 41 1 (.slice Ao i co) i (O.map (·.1)) := own_only hOx.out hg2.only (fun b q z => by
            have h1 := (World.ownsRow.lt hOx.out b q).1
            have h2 := (hSJ b (hpS b (by simpa using z))).2
            omega)
          have hz2 : w.heap.size ≤ w2.heap.size := Nat.le_trans hsz hg2.only.size
          obtain ⟨A5, c5, w5, hr5, ho5, hO5, _⟩ := run_app (P := Tryz.prog) (w := w2.alloc (.cells #[.slice A' (n + 72) c'] 41)) 33 33 w.heap.size 41 (.slice none 0 0) 1 24 Tryz.underlying33 infoSs rfl (by decide) (hout2.alloc _) (slc_new1 (w := w2) (e := 41) (cs := [.slice A' (n + 72) c']) rfl) (by simp [Value.oneCell']) (by omega) (by unfold maxLen; omega) (Nat.le_trans hz2 (by simp))
          have hN := HNx.out w2 w5 A' A5 c' c5 O hOx hg2 hO5 ho5
          have hOnly : Only (blocksJ J) w w5 := by
            refine ((hO.trans (hg2.only.mono (fun b q => hpS b (by simpa using q)))).alloc (.cells #[.slice A' (n + 72) c'] 41)).step hO5 (fun b q => .inr ?_)
            exact (World.ownsRow.lt hOx.out b (by simpa using q)).1
          have HR := Lib.hid hr
          have HR5 := Lib.hid hr5
          have HN := Lib.hid hN
          have HO := Lib.hid hOnly
          clear hr hr5 hN hOnly hom k1 HM hg2 hOx hout2 hO5 ho5 HNx HG HGi
          go_wp2_with (at_builtin; first
            | refine Lib.wpList_append_run _ rfl (.tmp 34) (.tmp 38) 41 41 rfl _ _ rfl rfl _ _ HR.out ?_
            | refine Lib.wpList_append_run _ rfl (.tmp 33) (.tmp 40) 33 33 rfl _ _ rfl rfl _ _ HR5.out ?_)
          exact ⟨⟨i + 1, A5, c5, hlt, rfl, by simp, ⟨_, HN.out⟩, HO.out⟩, by simp [intOf]; omega⟩
    · have hin : i = J.length := by omega
      subst hin
      have HF := Lib.hid (And.intro hG hO)
      clear hG hO hlt hi HRi HJ
      go_wp2
      go_ret
      exact ⟨_, _, rfl, HF.out.1.out, HF.out.2⟩
end Go.Proofs.YtikboecmcbcghaaGreat
/- The book's kinds of which there is no list. -/
set_option linter.unusedVariables false
set_option linter.unusedSimpArgs false
namespace Go.Proofs.YtikboecmcbcghaaGreat
open Go.RowKit Go Go.Sort
set_option maxRecDepth 100000 in
theorem stillInts_none {w : World} {bb : Nat} (hb : bb < w.heap.size) (h : w.cell? ⟨bb, 2, none⟩ = some (.slice none 0 0)) :
    Calls Tryz.prog 75 #[.pointer (some ⟨bb, 0, none⟩)] w fun e w' => e = .returned (.bool true) ∧ Only [] w w' := by
  go_enter Tryz.func75, Tryz.ntmps75
  go_wp2
  go_loopw [3] (fun iv wr => iv = .int .i64 0 ∧ Only [] w wr) (fun iv _ => 0)
  case atStart => exact ⟨rfl, Only.refl _ _⟩
  case round =>
    obtain ⟨rfl, hO⟩ := hrel
    have h2 : wr.cell? ⟨bb, 2, none⟩ = some (.slice none 0 0) := (hO.cell hb (by simp)).trans h
    go_wp2
    go_ret
    exact ⟨rfl, hO⟩
set_option maxRecDepth 100000 in
theorem putInts_none {w : World} {bb : Nat} (hb : bb < w.heap.size) (h : w.cell? ⟨bb, 2, none⟩ = some (.slice none 0 0)) :
    Calls Tryz.prog 82 #[.pointer (some ⟨bb, 0, none⟩)] w fun e w' => e = .returned (.tuple #[]) ∧ Only [] w w' := by
  go_enter Tryz.func82, Tryz.ntmps82
  go_wp2
  go_loopw [2] (fun iv wr => iv = .int .i64 0 ∧ Only [] w wr) (fun iv _ => 0)
  case atStart => exact ⟨rfl, Only.refl _ _⟩
  case round =>
    obtain ⟨rfl, hO⟩ := hrel
    have h2 : wr.cell? ⟨bb, 2, none⟩ = some (.slice none 0 0) := (hO.cell hb (by simp)).trans h
    go_wp2
    go_end0
    exact ⟨rfl, hO⟩
set_option maxRecDepth 100000 in
theorem growInts_none {w : World} {bb : Nat} (hb : bb < w.heap.size) (h : w.cell? ⟨bb, 2, none⟩ = some (.slice none 0 0)) :
    Calls Tryz.prog 87 #[.pointer (some ⟨bb, 0, none⟩)] w fun e w' => e = .returned (.slice none 0 0) ∧ Only [] w w' := by
  go_enter Tryz.func87, Tryz.ntmps87
  go_wp2
  go_loopw [3, 4] (fun ov iv wr => ov = .slice none 0 0 ∧ iv = .int .i64 0 ∧ Only [] w wr) (fun _ _ _ => 0)
  case atStart => exact ⟨rfl, rfl, Only.refl _ _⟩
  case round =>
    obtain ⟨rfl, rfl, hO⟩ := hrel
    have h2 : wr.cell? ⟨bb, 2, none⟩ = some (.slice none 0 0) := (hO.cell hb (by simp)).trans h
    go_wp2
    go_ret
    exact ⟨rfl, hO⟩
set_option maxRecDepth 100000 in
theorem markedInts_none (w : World) :
    Calls Tryz.prog 93 #[.slice none 0 0] w fun e w' => e = .returned (.bool true) ∧ Only [] w w' := by
  go_enter Tryz.func93, Tryz.ntmps93
  go_wp2
  go_loopw [3] (fun iv wr => iv = .int .i64 0 ∧ Only [] w wr) (fun iv _ => 0)
  case atStart => exact ⟨rfl, Only.refl _ _⟩
  case round =>
    obtain ⟨rfl, hO⟩ := hrel
    go_wp2
    go_ret
    exact ⟨rfl, hO⟩
set_option maxRecDepth 100000 in
theorem stillEntries_none {w : World} {bb : Nat} (hb : bb < w.heap.size) (h : w.cell? ⟨bb, 6, none⟩ = some (.slice none 0 0)) :
    Calls Tryz.prog 77 #[.pointer (some ⟨bb, 0, none⟩)] w fun e w' => e = .returned (.bool true) ∧ Only [] w w' := by
  go_enter Tryz.func77, Tryz.ntmps77
  go_wp2
  go_loopw [3] (fun iv wr => iv = .int .i64 0 ∧ Only [] w wr) (fun iv _ => 0)
  case atStart => exact ⟨rfl, Only.refl _ _⟩
  case round =>
    obtain ⟨rfl, hO⟩ := hrel
    have h2 : wr.cell? ⟨bb, 6, none⟩ = some (.slice none 0 0) := (hO.cell hb (by simp)).trans h
    go_wp2
    go_ret
    exact ⟨rfl, hO⟩
set_option maxRecDepth 100000 in
theorem putEntries_none {w : World} {bb : Nat} (hb : bb < w.heap.size) (h : w.cell? ⟨bb, 6, none⟩ = some (.slice none 0 0)) :
    Calls Tryz.prog 84 #[.pointer (some ⟨bb, 0, none⟩)] w fun e w' => e = .returned (.tuple #[]) ∧ Only [] w w' := by
  go_enter Tryz.func84, Tryz.ntmps84
  go_wp2
  go_loopw [2] (fun iv wr => iv = .int .i64 0 ∧ Only [] w wr) (fun iv _ => 0)
  case atStart => exact ⟨rfl, Only.refl _ _⟩
  case round =>
    obtain ⟨rfl, hO⟩ := hrel
    have h2 : wr.cell? ⟨bb, 6, none⟩ = some (.slice none 0 0) := (hO.cell hb (by simp)).trans h
    go_wp2
    go_end0
    exact ⟨rfl, hO⟩
set_option maxRecDepth 100000 in
theorem growEntries_none {w : World} {bb : Nat} (hb : bb < w.heap.size) (h : w.cell? ⟨bb, 6, none⟩ = some (.slice none 0 0)) :
    Calls Tryz.prog 89 #[.pointer (some ⟨bb, 0, none⟩)] w fun e w' => e = .returned (.slice none 0 0) ∧ Only [] w w' := by
  go_enter Tryz.func89, Tryz.ntmps89
  go_wp2
  go_loopw [3, 4] (fun ov iv wr => ov = .slice none 0 0 ∧ iv = .int .i64 0 ∧ Only [] w wr) (fun _ _ _ => 0)
  case atStart => exact ⟨rfl, rfl, Only.refl _ _⟩
  case round =>
    obtain ⟨rfl, rfl, hO⟩ := hrel
    have h2 : wr.cell? ⟨bb, 6, none⟩ = some (.slice none 0 0) := (hO.cell hb (by simp)).trans h
    go_wp2
    go_ret
    exact ⟨rfl, hO⟩
set_option maxRecDepth 100000 in
theorem markedEntries_none (w : World) :
    Calls Tryz.prog 95 #[.slice none 0 0] w fun e w' => e = .returned (.bool true) ∧ Only [] w w' := by
  go_enter Tryz.func95, Tryz.ntmps95
  go_wp2
  go_loopw [3] (fun iv wr => iv = .int .i64 0 ∧ Only [] w wr) (fun iv _ => 0)
  case atStart => exact ⟨rfl, Only.refl _ _⟩
  case round =>
    obtain ⟨rfl, hO⟩ := hrel
    go_wp2
    go_ret
    exact ⟨rfl, hO⟩
set_option maxRecDepth 100000 in
theorem stillPackets_none {w : World} {bb : Nat} (hb : bb < w.heap.size) (h : w.cell? ⟨bb, 8, none⟩ = some (.slice none 0 0)) :
    Calls Tryz.prog 78 #[.pointer (some ⟨bb, 0, none⟩)] w fun e w' => e = .returned (.bool true) ∧ Only [] w w' := by
  go_enter Tryz.func78, Tryz.ntmps78
  go_wp2
  go_loopw [3] (fun iv wr => iv = .int .i64 0 ∧ Only [] w wr) (fun iv _ => 0)
  case atStart => exact ⟨rfl, Only.refl _ _⟩
  case round =>
    obtain ⟨rfl, hO⟩ := hrel
    have h2 : wr.cell? ⟨bb, 8, none⟩ = some (.slice none 0 0) := (hO.cell hb (by simp)).trans h
    go_wp2
    go_ret
    exact ⟨rfl, hO⟩
set_option maxRecDepth 100000 in
theorem putPackets_none {w : World} {bb : Nat} (hb : bb < w.heap.size) (h : w.cell? ⟨bb, 8, none⟩ = some (.slice none 0 0)) :
    Calls Tryz.prog 85 #[.pointer (some ⟨bb, 0, none⟩)] w fun e w' => e = .returned (.tuple #[]) ∧ Only [] w w' := by
  go_enter Tryz.func85, Tryz.ntmps85
  go_wp2
  go_loopw [2] (fun iv wr => iv = .int .i64 0 ∧ Only [] w wr) (fun iv _ => 0)
  case atStart => exact ⟨rfl, Only.refl _ _⟩
  case round =>
    obtain ⟨rfl, hO⟩ := hrel
    have h2 : wr.cell? ⟨bb, 8, none⟩ = some (.slice none 0 0) := (hO.cell hb (by simp)).trans h
    go_wp2
    go_end0
    exact ⟨rfl, hO⟩
set_option maxRecDepth 100000 in
theorem growPackets_none {w : World} {bb : Nat} (hb : bb < w.heap.size) (h : w.cell? ⟨bb, 8, none⟩ = some (.slice none 0 0)) :
    Calls Tryz.prog 90 #[.pointer (some ⟨bb, 0, none⟩)] w fun e w' => e = .returned (.slice none 0 0) ∧ Only [] w w' := by
  go_enter Tryz.func90, Tryz.ntmps90
  go_wp2
  go_loopw [3, 4] (fun ov iv wr => ov = .slice none 0 0 ∧ iv = .int .i64 0 ∧ Only [] w wr) (fun _ _ _ => 0)
  case atStart => exact ⟨rfl, rfl, Only.refl _ _⟩
  case round =>
    obtain ⟨rfl, rfl, hO⟩ := hrel
    have h2 : wr.cell? ⟨bb, 8, none⟩ = some (.slice none 0 0) := (hO.cell hb (by simp)).trans h
    go_wp2
    go_ret
    exact ⟨rfl, hO⟩
set_option maxRecDepth 100000 in
theorem markedPackets_none (w : World) :
    Calls Tryz.prog 96 #[.slice none 0 0] w fun e w' => e = .returned (.bool true) ∧ Only [] w w' := by
  go_enter Tryz.func96, Tryz.ntmps96
  go_wp2
  go_loopw [3] (fun iv wr => iv = .int .i64 0 ∧ Only [] w wr) (fun iv _ => 0)
  case atStart => exact ⟨rfl, Only.refl _ _⟩
  case round =>
    obtain ⟨rfl, hO⟩ := hrel
    go_wp2
    go_ret
    exact ⟨rfl, hO⟩
set_option maxRecDepth 100000 in
theorem stillSteps_none {w : World} {bb : Nat} (hb : bb < w.heap.size) (h : w.cell? ⟨bb, 10, none⟩ = some (.slice none 0 0)) :
    Calls Tryz.prog 79 #[.pointer (some ⟨bb, 0, none⟩)] w fun e w' => e = .returned (.bool true) ∧ Only [] w w' := by
  go_enter Tryz.func79, Tryz.ntmps79
  go_wp2
  go_loopw [3] (fun iv wr => iv = .int .i64 0 ∧ Only [] w wr) (fun iv _ => 0)
  case atStart => exact ⟨rfl, Only.refl _ _⟩
  case round =>
    obtain ⟨rfl, hO⟩ := hrel
    have h2 : wr.cell? ⟨bb, 10, none⟩ = some (.slice none 0 0) := (hO.cell hb (by simp)).trans h
    go_wp2
    go_ret
    exact ⟨rfl, hO⟩
set_option maxRecDepth 100000 in
theorem putSteps_none {w : World} {bb : Nat} (hb : bb < w.heap.size) (h : w.cell? ⟨bb, 10, none⟩ = some (.slice none 0 0)) :
    Calls Tryz.prog 80 #[.pointer (some ⟨bb, 0, none⟩)] w fun e w' => e = .returned (.tuple #[]) ∧ Only [] w w' := by
  go_enter Tryz.func80, Tryz.ntmps80
  go_wp2
  go_loopw [2] (fun iv wr => iv = .int .i64 0 ∧ Only [] w wr) (fun iv _ => 0)
  case atStart => exact ⟨rfl, Only.refl _ _⟩
  case round =>
    obtain ⟨rfl, hO⟩ := hrel
    have h2 : wr.cell? ⟨bb, 10, none⟩ = some (.slice none 0 0) := (hO.cell hb (by simp)).trans h
    go_wp2
    go_end0
    exact ⟨rfl, hO⟩
set_option maxRecDepth 100000 in
theorem growSteps_none {w : World} {bb : Nat} (hb : bb < w.heap.size) (h : w.cell? ⟨bb, 10, none⟩ = some (.slice none 0 0)) :
    Calls Tryz.prog 91 #[.pointer (some ⟨bb, 0, none⟩)] w fun e w' => e = .returned (.slice none 0 0) ∧ Only [] w w' := by
  go_enter Tryz.func91, Tryz.ntmps91
  go_wp2
  go_loopw [3, 4] (fun ov iv wr => ov = .slice none 0 0 ∧ iv = .int .i64 0 ∧ Only [] w wr) (fun _ _ _ => 0)
  case atStart => exact ⟨rfl, rfl, Only.refl _ _⟩
  case round =>
    obtain ⟨rfl, rfl, hO⟩ := hrel
    have h2 : wr.cell? ⟨bb, 10, none⟩ = some (.slice none 0 0) := (hO.cell hb (by simp)).trans h
    go_wp2
    go_ret
    exact ⟨rfl, hO⟩
set_option maxRecDepth 100000 in
theorem markedSteps_none (w : World) :
    Calls Tryz.prog 97 #[.slice none 0 0] w fun e w' => e = .returned (.bool true) ∧ Only [] w w' := by
  go_enter Tryz.func97, Tryz.ntmps97
  go_wp2
  go_loopw [3] (fun iv wr => iv = .int .i64 0 ∧ Only [] w wr) (fun iv _ => 0)
  case atStart => exact ⟨rfl, Only.refl _ _⟩
  case round =>
    obtain ⟨rfl, hO⟩ := hrel
    go_wp2
    go_ret
    exact ⟨rfl, hO⟩
end Go.Proofs.YtikboecmcbcghaaGreat
/- The book, apart: from one part to the next. -/
set_option linter.unusedVariables false
set_option linter.unusedSimpArgs false
namespace Go.Proofs.YtikboecmcbcghaaGreat
open Go.RowKit Go Go.Sort
theorem blocksJ_of {α : Type} (I : List (Value × List α)) : blocksJ (I.map (fun p => (p.1, p.2.length))) = blocksV I := by
  simp [blocksJ, blocksV, List.flatMap_map]
theorem blocksV_fst {α : Type} {I J : List (Value × α)} (h : I.map (·.1) = J.map (·.1)) : blocksV I = blocksV J := by
  have e : ∀ L : List (Value × α), blocksV L = (L.map (·.1)).flatMap (fun v => v.ownBlock.toList) := fun L => by simp [blocksV, List.flatMap_map]
  rw [e, e, h]
theorem pw_of_nodup {α : Type} : ∀ (I : List (Value × α)), (blocksV I).Nodup → I.Pairwise (fun p q => ∀ b, p.1.ownBlock = some b → q.1.ownBlock ≠ some b)
  | [], _ => .nil
  | p :: L, hn => by
    have hn' : (p.1.ownBlock.toList ++ blocksV L).Nodup := hn
    refine .cons (fun r hr b e1 e2 => ?_) (pw_of_nodup L (List.nodup_append.1 hn').2.1)
    exact (List.nodup_append.1 hn').2.2 b (by simp [e1]) b (mem_blocksV.2 ⟨r, hr, e2⟩) rfl
section
variable {w w' : World} {bb : Nat} {cs : Array Value} {A : Option Addr} {c : Nat} {I : List (Value × List Value)} {S : List Nat}
theorem PT.typ (h : PT w bb cs A c I) : ∀ b ∈ blocksV I, ∃ cur, Blk w b 9 cur := fun b hb => by
  obtain ⟨p, hp, q⟩ := mem_blocksV.1 hb
  exact own_type (h.k.own p hp) q
theorem PT.keepO (h : PT w bb cs A c I) (k : Only S w w') {e : TypeId} (h1 : e ≠ 40) (h2 : e ≠ 41) (h3 : e ≠ 9) (hS : ∀ b ∈ S, ∃ cur, Blk w b e cur) : PT w' bb cs A c I := by
  refine ⟨k.blk h.blk (fun q => ?_), h.at0, h.cap, own_only h.ri k (fun b q z => ?_), h.k.only k (fun b q z => ?_), h.ci, h.few⟩
  · obtain ⟨cur, hc⟩ := hS bb q
    exact hc.other h.blk h1 rfl
  · obtain ⟨cur, hc⟩ := hS b z
    obtain ⟨c2, hc2⟩ := own_type h.ri q
    exact hc.other hc2 h2 rfl
  · obtain ⟨cur, hc⟩ := hS b z
    obtain ⟨c2, hc2⟩ := h.typ b q
    exact hc.other hc2 h3 rfl
theorem PT.keep0 (h : PT w bb cs A c I) (k : Only [] w w') : PT w' bb cs A c I := h.keepO k (e := 4) (by decide) (by decide) (by decide) (by simp)
theorem PT.gr (h : PT w bb cs A c (pmT I.length I)) : GrJT w (I.map (fun p => (p.1, p.2.length))) := by
  have key : ∀ i (hi : i < I.length), (I[i].1, strs (mkT i 0 I[i].2.length)) ∈ pmT I.length I := fun i hi => by
    have hi3 : i < (pmT I.length I).length := by rw [pmT_len]; exact hi
    have hg : (pmT I.length I)[i] = (I[i].1, strs (mkT i 0 I[i].2.length)) := by rw [pmT_get _ _ _ hi hi3, if_pos hi]
    rw [← hg]
    exact List.getElem_mem hi3
  have hlen : ∀ i n, (strs (mkT i 0 n)).length = n := fun i n => by simp [strs, mkT_len]
  have hn := h.k.nod
  have hlm : (I.map (fun p => (p.1, p.2.length))).length = I.length := List.length_map ..
  refine ⟨fun i hi => ?_, fun i hi => ?_, fun i j hi hj hij b q z => ?_, fun i hi => ?_, by rw [hlm]; have := h.few; rwa [pmT_len] at this⟩
  · rw [hlm] at hi
    rw [List.getElem_map]
    have := h.k.own _ (key i hi)
    simp only [hlen] at this
    exact this
  · rw [hlm] at hi
    rw [List.getElem_map]
    obtain ⟨A', c', e⟩ := h.k.lit _ (key i hi)
    simp only [hlen] at e
    exact ⟨A', c', e⟩
  · rw [hlm] at hi hj
    rw [List.getElem_map] at q z
    have hbI : blocksV (pmT I.length I) = blocksV I := blocksV_fst (pmT_fst _ _)
    rw [hbI] at hn
    have hpw := pw_of_nodup I hn
    rcases Nat.lt_or_gt_of_ne hij with y | y
    · exact List.pairwise_iff_getElem.1 hpw i j hi hj y b q z
    · exact List.pairwise_iff_getElem.1 hpw j i hj hi y b z q
  · rw [hlm] at hi
    rw [List.getElem_map]
    obtain ⟨l, hl, hll⟩ := h.ci _ (key i hi)
    have : I[i].2.length = l.length := by
      have := congrArg List.length hl
      simpa [strs, mkT_len] using this
    simp only
    omega
theorem MkdT.keepN {L : List (Value × Nat)} (h : MkdT w A c L) (k : Only S w w') (hA : ∀ b off, A = some ⟨b, off, none⟩ → b ∉ S) (hL : ∀ i (hi : i < L.length), ∀ b, L[i].1.ownBlock = some b → b ∉ S) : MkdT w' A c L :=
  ⟨h.cap, h.few, fun i hi => by
    obtain ⟨vb, e1, hl, hc⟩ := h.row i hi
    exact ⟨vb, e1, Nat.lt_of_lt_of_le hl k.size, (k.cell hl (hA vb 0 e1)).trans hc⟩, h.lit, fun i hi => (h.slc i hi).only k (fun b q => hL i hi b q), h.len⟩
theorem rowTypPT {n : Nat} {xs : List Value} {base : Nat} (h : w.ownsRow base 41 1 (.slice A n c) n xs) : ∀ b off, A = some ⟨b, off, none⟩ → ∃ cur, Blk w b 41 cur := fun b off e => by
  subst e
  exact own_type h rfl
/-- What was grown is marked. -/
theorem GrOT.mkd {J O : List (Value × Nat)} {Ao : Option Addr} {co : Nat} (hJ : GrJT w J) (h : GrOT w w' J J.length O Ao co) : MkdT w' Ao co O := by
  obtain ⟨A', c', e, h1, h2⟩ := own_form h.out
  injection e with e1 e2 e3
  subst e1 e3
  unfold maxLen at h2
  have hol := h.olen
  refine ⟨by rw [hol]; exact ⟨h1, h2⟩, by rw [hol]; exact hJ.few, fun i hi => ?_, h.lit, h.slc, fun i hi => ?_⟩
  · obtain ⟨vb, e, hl, hc⟩ := row_at h.out i (by omega)
    refine ⟨vb, e, hl, ?_⟩
    rw [hc, List.getElem?_map, List.getElem?_eq_getElem hi]
    rfl
  · have := h.two i hi (by omega)
    have := hJ.len i (by omega)
    omega
/-- What it was grown from is marked still. -/
theorem GrOT.mkdJ {J O : List (Value × Nat)} {Ao : Option Addr} {co : Nat} (hJ : GrJT w J) (h : GrOT w w' J J.length O Ao co) (hc : J.length ≤ c ∧ c ≤ 2 ^ 63 - 1) (hr : w'.ownsRow 0 41 1 (.slice A J.length c) J.length (J.map (·.1))) : MkdT w' A c J := by
  refine ⟨hc, hJ.few, fun i hi => ?_, hJ.lit, fun i hi => h.old i hi hi, fun i hi => by have := hJ.len i hi; omega⟩
  obtain ⟨vb, e, hl, hc⟩ := row_at hr i hi
  refine ⟨vb, e, hl, ?_⟩
  rw [hc, List.getElem?_map, List.getElem?_eq_getElem hi]
  rfl
end
section
variable {w w' : World} {bb : Nat} {cs : Array Value} {A : Option Addr} {c : Nat} {I : List (Value × List StoredR)} {S : List Nat}
theorem PS.typ (h : PS w bb cs A c I) : ∀ b ∈ blocksV I, ∃ cur, Blk w b 66 cur := fun b hb => by
  obtain ⟨p, hp, q⟩ := mem_blocksV.1 hb
  exact own_type (h.k.own p hp) q
theorem PS.keepO (h : PS w bb cs A c I) (k : Only S w w') {e : TypeId} (h1 : e ≠ 40) (h2 : e ≠ 28) (h3 : e ≠ 66) (hS : ∀ b ∈ S, ∃ cur, Blk w b e cur) : PS w' bb cs A c I := by
  refine ⟨k.blk h.blk (fun q => ?_), h.at4, h.cap, own_only h.ri k (fun b q z => ?_), h.k.only k (fun b q z => ?_), h.ci, h.few⟩
  · obtain ⟨cur, hc⟩ := hS bb q
    exact hc.other h.blk h1 rfl
  · obtain ⟨cur, hc⟩ := hS b z
    obtain ⟨c2, hc2⟩ := own_type h.ri q
    exact hc.other hc2 h2 rfl
  · obtain ⟨cur, hc⟩ := hS b z
    obtain ⟨c2, hc2⟩ := h.typ b q
    exact hc.other hc2 h3 rfl
theorem PS.keep0 (h : PS w bb cs A c I) (k : Only [] w w') : PS w' bb cs A c I := h.keepO k (e := 4) (by decide) (by decide) (by decide) (by simp)
theorem PS.gr (h : PS w bb cs A c (pmS I.length I)) : GrJS w (I.map (fun p => (p.1, p.2.length))) := by
  have key : ∀ i (hi : i < I.length), (I[i].1, mkS i 0 I[i].2.length) ∈ pmS I.length I := fun i hi => by
    have hi3 : i < (pmS I.length I).length := by rw [pmS_len]; exact hi
    have hg : (pmS I.length I)[i] = (I[i].1, mkS i 0 I[i].2.length) := by rw [pmS_get _ _ _ hi hi3, if_pos hi]
    rw [← hg]
    exact List.getElem_mem hi3
  have hlen : ∀ i n, (mkS i 0 n).length = n := fun i n => mkS_len i 0 n
  have hn := h.k.nod
  have hlm : (I.map (fun p => (p.1, p.2.length))).length = I.length := List.length_map ..
  refine ⟨fun i hi => ?_, fun i hi => ?_, fun i j hi hj hij b q z => ?_, fun i hi => ?_, by rw [hlm]; have := h.few; rwa [pmS_len] at this⟩
  · rw [hlm] at hi
    rw [List.getElem_map]
    have := h.k.own _ (key i hi)
    simp only [hlen] at this
    exact this
  · rw [hlm] at hi
    rw [List.getElem_map]
    obtain ⟨A', c', e⟩ := h.k.lit _ (key i hi)
    simp only [hlen] at e
    exact ⟨A', c', e⟩
  · rw [hlm] at hi hj
    rw [List.getElem_map] at q z
    have hbI : blocksV (pmS I.length I) = blocksV I := blocksV_fst (pmS_fst _ _)
    rw [hbI] at hn
    have hpw := pw_of_nodup I hn
    rcases Nat.lt_or_gt_of_ne hij with y | y
    · exact List.pairwise_iff_getElem.1 hpw i j hi hj y b q z
    · exact List.pairwise_iff_getElem.1 hpw j i hj hi y b z q
  · rw [hlm] at hi
    rw [List.getElem_map]
    have hll := h.ci _ (key i hi)
    simp only [hlen] at hll
    simp only
    omega
theorem MkdS.keepN {L : List (Value × Nat)} (h : MkdS w A c L) (k : Only S w w') (hA : ∀ b off, A = some ⟨b, off, none⟩ → b ∉ S) (hL : ∀ i (hi : i < L.length), ∀ b, L[i].1.ownBlock = some b → b ∉ S) : MkdS w' A c L :=
  ⟨h.cap, h.few, fun i hi => by
    obtain ⟨vb, e1, hl, hc⟩ := h.row i hi
    exact ⟨vb, e1, Nat.lt_of_lt_of_le hl k.size, (k.cell hl (hA vb 0 e1)).trans hc⟩, h.lit, fun i hi => (h.slc i hi).only k (fun b q => hL i hi b q), h.len⟩
/-- What was grown is marked. -/
theorem GrOS.mkd {J O : List (Value × Nat)} {Ao : Option Addr} {co : Nat} (hJ : GrJS w J) (h : GrOS w w' J J.length O Ao co) : MkdS w' Ao co O := by
  obtain ⟨A', c', e, h1, h2⟩ := own_form h.out
  injection e with e1 e2 e3
  subst e1 e3
  unfold maxLen at h2
  have hol := h.olen
  refine ⟨by rw [hol]; exact ⟨h1, h2⟩, by rw [hol]; exact hJ.few, fun i hi => ?_, h.lit, h.slc, fun i hi => ?_⟩
  · obtain ⟨vb, e, hl, hc⟩ := row_at h.out i (by omega)
    refine ⟨vb, e, hl, ?_⟩
    rw [hc, List.getElem?_map, List.getElem?_eq_getElem hi]
    rfl
  · have := h.two i hi (by omega)
    have := hJ.len i (by omega)
    omega
/-- What it was grown from is marked still. -/
theorem GrOS.mkdJ {J O : List (Value × Nat)} {Ao : Option Addr} {co : Nat} (hJ : GrJS w J) (h : GrOS w w' J J.length O Ao co) (hc : J.length ≤ c ∧ c ≤ 2 ^ 63 - 1) (hr : w'.ownsRow 0 28 1 (.slice A J.length c) J.length (J.map (·.1))) : MkdS w' A c J := by
  refine ⟨hc, hJ.few, fun i hi => ?_, hJ.lit, fun i hi => h.old i hi hi, fun i hi => by have := hJ.len i hi; omega⟩
  obtain ⟨vb, e, hl, hc⟩ := row_at hr i hi
  refine ⟨vb, e, hl, ?_⟩
  rw [hc, List.getElem?_map, List.getElem?_eq_getElem hi]
  rfl
end
theorem BkAt.ps {w : World} {bb c : Nat} {vt vx vy : Value} {A : Option Addr} {T X : List (Value × List Value)} {I Y : List (Value × List StoredR)} (h : BkAt w bb vt vx (.slice A I.length c) vy T X I Y) : PS w bb #[vt, vx, .slice none 0 0, .slice none 0 0, .slice A I.length c, vy, .slice none 0 0, .slice none 0 0, .slice none 0 0, .slice none 0 0, .slice none 0 0, .slice none 0 0] A c I := by
  obtain ⟨A', c', e, h1, h2⟩ := own_form h.ri
  injection e with e1 e2 e3
  subst e1 e3
  exact ⟨h.blk, rfl, ⟨h1, h2⟩, h.ri, (KpS.sub h.ki).2, h.ci, h.few.2⟩
theorem BkAt.pt {w : World} {bb c : Nat} {vx vi vy : Value} {A : Option Addr} {T X : List (Value × List Value)} {I Y : List (Value × List StoredR)} (h : BkAt w bb (.slice A T.length c) vx vi vy T X I Y) : PT w bb #[.slice A T.length c, vx, .slice none 0 0, .slice none 0 0, vi, vy, .slice none 0 0, .slice none 0 0, .slice none 0 0, .slice none 0 0, .slice none 0 0, .slice none 0 0] A c T := by
  obtain ⟨A', c', e, h1, h2⟩ := own_form h.rt
  injection e with e1 e2 e3
  subst e1 e3
  exact ⟨h.blk, rfl, ⟨h1, h2⟩, h.rt, (Kpt.sub h.kt).2, h.ct, h.few.1⟩
end Go.Proofs.YtikboecmcbcghaaGreat
/- The book: Apart. -/
set_option linter.unusedVariables false
set_option linter.unusedSimpArgs false
namespace Go.Proofs.YtikboecmcbcghaaGreat
open Go.RowKit Go Go.Sort
set_option maxRecDepth 100000 in
set_option maxHeartbeats 1000000 in
theorem apart_any {w : World} {bb : Nat} {vt vx vi vy : Value} {T X : List (Value × List Value)} {I Y : List (Value × List StoredR)} (h : BkAt w bb vt vx vi vy T X I Y) :
    Calls Tryz.prog 24 #[.pointer (some ⟨bb, 0, none⟩)] w fun e w' => e = .returned (.bool true) ∧ Only (blocksV T ++ blocksV I) w w' := by
  obtain ⟨At, ct, rfl, hnt, hmt⟩ := own_form h.rt
  obtain ⟨Ai, ci, rfl, hni, hmi⟩ := own_form h.ri
  have hbl := h.blk.lt
  have hct : ct ≤ 2 ^ 63 - 1 := by unfold maxLen at hmt; omega
  have hci : ci ≤ 2 ^ 63 - 1 := by unfold maxLen at hmi; omega
  have HB := Lib.hid (fun (W : World) (k : Only [] w W) => h.keep k (by simp))
  have O0 := Only.refl [] w
  have HPT := Lib.hid h.pt
  have HPS := Lib.hid h.ps
  have hLt : (T.map (fun p : Value × List Value => (p.1, p.2.length))).length = T.length := List.length_map ..
  have hLi : (I.map (fun p : Value × List StoredR => (p.1, p.2.length))).length = I.length := List.length_map ..
  have HLt := Lib.hid hLt
  have HLi := Lib.hid hLi
  clear hLt hLi hmt hmi h
  go_enter Tryz.func24, Tryz.ntmps24
  go_wp2_with fail
  refine (stillT_any (HB.out _ O0)).mono ?_
  rintro e w1 ⟨rfl, k1⟩
  have O1 := O0.trans k1
  clear O0 k1
  go_wp2_with fail
  refine (stillInts_none (HB.out _ O1).blk.lt ((HB.out _ O1).blk.cell 2)).mono ?_
  rintro e w2 ⟨rfl, k2⟩
  have O2 := O1.trans k2
  clear O1 k2
  go_wp2_with fail
  refine (stillS_any (HB.out _ O2)).mono ?_
  rintro e w3 ⟨rfl, k3⟩
  have O3 := O2.trans k3
  clear O2 k3
  go_wp2_with fail
  refine (stillEntries_none (HB.out _ O3).blk.lt ((HB.out _ O3).blk.cell 6)).mono ?_
  rintro e w4 ⟨rfl, k4⟩
  have O4 := O3.trans k4
  clear O3 k4
  go_wp2_with fail
  refine (stillPackets_none (HB.out _ O4).blk.lt ((HB.out _ O4).blk.cell 8)).mono ?_
  rintro e w5 ⟨rfl, k5⟩
  have O5 := O4.trans k5
  clear O4 k5
  go_wp2_with fail
  refine (stillSteps_none (HB.out _ O5).blk.lt ((HB.out _ O5).blk.cell 10)).mono ?_
  rintro e w6 ⟨rfl, k6⟩
  have O6 := O5.trans k6
  clear O5 k6
  go_wp2_with fail
  refine (putSteps_none (HB.out _ O6).blk.lt ((HB.out _ O6).blk.cell 10)).mono ?_
  rintro e w7 ⟨rfl, k7⟩
  have O7 := O6.trans k7
  clear O6 k7
  have hpt := HPT.out.keep0 O7
  have hps := HPS.out.keep0 O7
  have P := O7.of_nil (S := blocksV T ++ blocksV I)
  clear HB HPT HPS O7
  go_wp2_with fail
  refine (putT_all hpt).mono ?_
  rintro e w8 ⟨rfl, hpt8, k8⟩
  have hps8 := hps.keepO k8 (e := 9) (by decide) (by decide) (by decide) hpt.typ
  have P := P.trans (k8.mono (fun b q => List.mem_append_left _ q))
  clear hps hpt k8
  have O8 := Only.refl [] w8
  go_wp2_with fail
  refine (putInts_none hps8.blk.lt (hps8.blk.cell 2)).mono ?_
  rintro e w88 ⟨rfl, k88⟩
  have O88 := O8.trans k88
  clear O8 k88
  have hps88 := hps8.keep0 O88
  have hpt88 := hpt8.keep0 O88
  have P := P.trans O88.of_nil
  clear hps8 hpt8 O88
  go_wp2_with fail
  refine (putS_all hps88).mono ?_
  rintro e w9 ⟨rfl, hps9, k9⟩
  have hpt9 := hpt88.keepO k9 (e := 66) (by decide) (by decide) (by decide) hps88.typ
  have P := P.trans (k9.mono (fun b q => List.mem_append_right _ q))
  clear hps88 hpt88 k9
  have O10 := Only.refl [] w9
  have HBl := Lib.hid (fun (W : World) (k : Only [] w9 W) => (hps9.keep0 k).blk)
  go_wp2_with fail
  refine (putEntries_none (HBl.out _ O10).lt ((HBl.out _ O10).cell 6)).mono ?_
  rintro e w11 ⟨rfl, k11⟩
  have O11 := O10.trans k11
  clear O10 k11
  go_wp2_with fail
  refine (putPackets_none (HBl.out _ O11).lt ((HBl.out _ O11).cell 8)).mono ?_
  rintro e w12 ⟨rfl, k12⟩
  have O12 := O11.trans k12
  clear O11 k12
  have hps12 := hps9.keep0 O12
  have hpt12 := hpt9.keep0 O12
  have P := P.trans O12.of_nil
  clear hps9 hpt9 O12 HBl
  have hJt := hpt12.gr
  have hrt := hpt12.ri
  rw [pmT_fst, pmT_len] at hrt
  have hrt' : w12.ownsRow 0 41 1 (.slice At (T.map (fun p : Value × List Value => (p.1, p.2.length))).length ct) (T.map (fun p : Value × List Value => (p.1, p.2.length))).length ((T.map (fun p : Value × List Value => (p.1, p.2.length))).map (·.1)) := by
    rw [HLt.out, List.map_map]
    exact hrt
  have HGT := Lib.hid (growT_any (A := At) (c := ct) hpt12.blk (by rw [HLt.out]; rfl) (by rw [HLt.out]; exact ⟨hnt, hct⟩) hrt' hJt)
  rw [HLt.out] at HGT
  go_wp2_with fail
  refine HGT.out.mono ?_
  rintro e w13 ⟨Aot, cot, rfl, ⟨Ot, hOt⟩, k13⟩
  have hStr : ∀ b ∈ blocksJ (T.map (fun p : Value × List Value => (p.1, p.2.length))), ∃ cur, Blk w12 b 9 cur := fun b q => by
    rw [blocksJ_of] at q
    exact hpt12.typ b (by rw [blocksV_fst (pmT_fst _ _)]; exact q)
  have hps13 := hps12.keepO k13 (e := 9) (by decide) (by decide) (by decide) hStr
  have hrt13 := own_only hrt' k13 (fun b q z => by
    obtain ⟨c1, h1⟩ := own_type hrt' q
    obtain ⟨c2, h2⟩ := hStr b z
    exact h1.other h2 (by decide) rfl)
  rw [← HLt.out] at hOt
  have hMo := GrOT.mkd hJt hOt
  have hMj := GrOT.mkdJ (A := At) (c := ct) hJt hOt (by rw [HLt.out]; exact ⟨hnt, hct⟩) hrt13
  have hOl : Ot.length = T.length := by rw [hOt.olen, HLt.out]
  have hAo := rowTypPT hOt.out
  have hAj := rowTypPT hrt13
  have hLo := hOt.typ
  have hLj : ∀ i (hi : i < (T.map (fun p : Value × List Value => (p.1, p.2.length))).length), ∀ b, (T.map (fun p : Value × List Value => (p.1, p.2.length)))[i].1.ownBlock = some b → b ∉ blocksJ (I.map (fun p : Value × List StoredR => (p.1, p.2.length))) := fun i hi b q z => by
    obtain ⟨c1, h1⟩ := own_type (hJt.own i hi) q
    rw [blocksJ_of] at z
    obtain ⟨c2, h2⟩ := hps12.typ b (by rw [blocksV_fst (pmS_fst _ _)]; exact z)
    exact h1.other h2 (by decide) rfl
  clear HGT
  go_wp2_with fail
  refine (growInts_none hps13.blk.lt (hps13.blk.cell 2)).mono ?_
  rintro e w133 ⟨rfl, k133⟩
  have hps133 := hps13.keep0 k133
  have hMo := hMo.keep0 k133
  have hMj := hMj.keep0 k133
  have hAo := fun b off q => (hAo b off q).imp fun cur hc => k133.blk hc (by simp)
  have hAj := fun b off q => (hAj b off q).imp fun cur hc => k133.blk hc (by simp)
  have hLo := fun i hi b q => (hLo i hi b q).imp fun cur hc => k133.blk hc (by simp)
  have hJi := hps133.gr
  have hri := hps133.ri
  rw [pmS_fst, pmS_len] at hri
  have hri' : w133.ownsRow 0 28 1 (.slice Ai (I.map (fun p : Value × List StoredR => (p.1, p.2.length))).length ci) (I.map (fun p : Value × List StoredR => (p.1, p.2.length))).length ((I.map (fun p : Value × List StoredR => (p.1, p.2.length))).map (·.1)) := by
    rw [HLi.out, List.map_map]
    exact hri
  have HGI := Lib.hid (growSt_any (A := Ai) (c := ci) hps133.blk (by rw [HLi.out]; rfl) (by rw [HLi.out]; exact ⟨hni, hci⟩) hri' hJi)
  rw [HLi.out] at HGI
  have P := (P.trans (k13.mono (fun b q => List.mem_append_left _ (by rw [blocksJ_of] at q; exact q)))).trans k133.of_nil
  clear hOt k13 hps12 hpt12 hJt hrt hrt' hStr hrt13
  go_wp2_with fail
  refine HGI.out.mono ?_
  rintro e w14 ⟨Aoi, coi, rfl, ⟨Oi, hOi⟩, k14⟩
  have hInt : ∀ b ∈ blocksJ (I.map (fun p : Value × List StoredR => (p.1, p.2.length))), ∃ cur, Blk w133 b 66 cur := fun b q => by
    rw [blocksJ_of] at q
    exact hps133.typ b (by rw [blocksV_fst (pmS_fst _ _)]; exact q)
  have hri14 := own_only hri' k14 (fun b q z => by
    obtain ⟨c1, h1⟩ := own_type hri' q
    obtain ⟨c2, h2⟩ := hInt b z
    exact h1.other h2 (by decide) rfl)
  rw [← HLi.out] at hOi
  have hNo := GrOS.mkd hJi hOi
  have hNj := GrOS.mkdJ (A := Ai) (c := ci) hJi hOi (by rw [HLi.out]; exact ⟨hni, hci⟩) hri14
  have hPl : Oi.length = I.length := by rw [hOi.olen, HLi.out]
  have hMo14 := hMo.keepN k14 (fun b off q z => by
    obtain ⟨c1, h1⟩ := hAo b off q
    obtain ⟨c2, h2⟩ := hInt b z
    exact h1.other h2 (by decide) rfl) (fun i hi b q z => by
    obtain ⟨c1, h1⟩ := hLo i hi b q
    obtain ⟨c2, h2⟩ := hInt b z
    exact h1.other h2 (by decide) rfl)
  have hMj14 := hMj.keepN k14 (fun b off q z => by
    obtain ⟨c1, h1⟩ := hAj b off q
    obtain ⟨c2, h2⟩ := hInt b z
    exact h1.other h2 (by decide) rfl) hLj
  have hblk14 := k14.blk hps133.blk (fun q => by
    obtain ⟨c2, h2⟩ := hInt bb q
    exact h2.other hps133.blk (by decide) rfl)
  have HM1 := Lib.hid (fun (W : World) (k : Only [] w14 W) => markedT_any (hMo14.keep0 k))
  have HM2 := Lib.hid (fun (W : World) (k : Only [] w14 W) => markedT_any (hMj14.keep0 k))
  have HM3 := Lib.hid (fun (W : World) (k : Only [] w14 W) => markedS_any (hNo.keep0 k))
  have HM4 := Lib.hid (fun (W : World) (k : Only [] w14 W) => markedS_any (hNj.keep0 k))
  rw [hOl] at HM1
  rw [HLt.out] at HM2
  rw [hPl] at HM3
  rw [HLi.out] at HM4
  have HBl := Lib.hid (fun (W : World) (k : Only [] w14 W) => k.blk hblk14 (by simp))
  have O14 := Only.refl [] w14
  have P := P.trans (k14.mono (fun b q => List.mem_append_right _ (by rw [blocksJ_of] at q; exact q)))
  clear HGI hOi k14 hps133 hJi hri hri' hInt hri14 hMo hMj hNo hNj hMo14 hMj14 hAo hAj hLo hLj hOl hPl hblk14
  go_wp2_with fail
  refine (growEntries_none (HBl.out _ O14).lt ((HBl.out _ O14).cell 6)).mono ?_
  rintro e w16 ⟨rfl, k16⟩
  have O16 := O14.trans k16
  clear O14 k16
  go_wp2_with fail
  refine (growPackets_none (HBl.out _ O16).lt ((HBl.out _ O16).cell 8)).mono ?_
  rintro e w17 ⟨rfl, k17⟩
  have O17 := O16.trans k17
  clear O16 k17
  go_wp2_with fail
  refine (growSteps_none (HBl.out _ O17).lt ((HBl.out _ O17).cell 10)).mono ?_
  rintro e w18 ⟨rfl, k18⟩
  have O18 := O17.trans k18
  clear O17 k18
  go_wp2_with fail
  refine (HM1.out _ O18).mono ?_
  rintro e w19 ⟨rfl, k19⟩
  have O19 := O18.trans k19
  clear O18 k19
  have c19 := (HBl.out _ O19).cell 0
  go_wp2_with fail
  refine (HM2.out _ O19).mono ?_
  rintro e w20 ⟨rfl, k20⟩
  have O20 := O19.trans k20
  clear O19 k20
  go_wp2_with fail
  refine (markedInts_none _).mono ?_
  rintro e w21 ⟨rfl, k21⟩
  have O21 := O20.trans k21
  clear O20 k21
  have c21 := (HBl.out _ O21).cell 2
  go_wp2_with fail
  refine (markedInts_none _).mono ?_
  rintro e w22 ⟨rfl, k22⟩
  have O22 := O21.trans k22
  clear O21 k22
  go_wp2_with fail
  refine (HM3.out _ O22).mono ?_
  rintro e w23 ⟨rfl, k23⟩
  have O23 := O22.trans k23
  clear O22 k23
  have c23 := (HBl.out _ O23).cell 4
  go_wp2_with fail
  refine (HM4.out _ O23).mono ?_
  rintro e w24 ⟨rfl, k24⟩
  have O24 := O23.trans k24
  clear O23 k24
  go_wp2_with fail
  refine (markedEntries_none _).mono ?_
  rintro e w25 ⟨rfl, k25⟩
  have O25 := O24.trans k25
  clear O24 k25
  have c25 := (HBl.out _ O25).cell 6
  go_wp2_with fail
  refine (markedEntries_none _).mono ?_
  rintro e w26 ⟨rfl, k26⟩
  have O26 := O25.trans k26
  clear O25 k26
  go_wp2_with fail
  refine (markedPackets_none _).mono ?_
  rintro e w27 ⟨rfl, k27⟩
  have O27 := O26.trans k27
  clear O26 k27
  have c27 := (HBl.out _ O27).cell 8
  go_wp2_with fail
  refine (markedPackets_none _).mono ?_
  rintro e w28 ⟨rfl, k28⟩
  have O28 := O27.trans k28
  clear O27 k28
  go_wp2_with fail
  refine (markedSteps_none _).mono ?_
  rintro e w29 ⟨rfl, k29⟩
  have O29 := O28.trans k29
  clear O28 k29
  have c29 := (HBl.out _ O29).cell 10
  go_wp2_with fail
  refine (markedSteps_none _).mono ?_
  rintro e w30 ⟨rfl, k30⟩
  have O30 := O29.trans k30
  clear O29 k30
  have P := P.trans O30.of_nil
  go_wp2
  go_ret
  exact ⟨rfl, P⟩
end Go.Proofs.YtikboecmcbcghaaGreat
/- A region inside a round of a range over a function: what is shown of it outside of rounds holds there too. No program is named. -/
set_option linter.unusedVariables false
set_option linter.unusedSimpArgs false
namespace Go.Proofs.YtikboecmcbcghaaGreat
open Go Go.RowKit Go.Sort
section
variable {P : Program} {md : Region.Mode} {ops : Array Oper} {Q : Exit → Act → World → Prop} {ly n : Nat}
theorem rows_wide {row : String} {args : Array Value} {w : World} {R : Value → World → Prop} (h : Rows P row args w R) : RowsIn (Fence.wide.inRound ly) n P row args w R := fun c cs _ => by
  obtain ⟨v, w', r, s⟩ := h c cs
  exact ⟨v, w', r, stepsIn_wide.2 s⟩
theorem opIn_of {i : Nat} {K K' : Act → World → Prop} {a : Act} {w : World} (hout : ¬ LetsOut Q) (hd : ∀ o : Oper, ops[i]? = some o → ∀ c : Call, o.op ≠ .defer c) (hK : ∀ a w, K a w → K' a w) (h : wpOp P ops Q i K a w) : wpOpIn (Fence.wide.inRound ly) n P ops Q i K' a w := by
  unfold wpOp at h
  unfold wpOpIn
  cases ho : ops[i]? with
  | none =>
    rw [ho] at h
    exact hK _ _ h
  | some o =>
    rw [ho] at h
    dsimp only at h ⊢
    by_cases hw : Region.wanted o (yielded ops a.tmps) = true
    · rw [if_pos hw] at h ⊢
      have h1 := h.resolve_right (fun q => hout q.2)
      refine ⟨fun f _ => trivial, ?_⟩
      rw [Oper.semAt_eq _ _ _ (hd o ho)]
      unfold Oper.wp at h1
      generalize (execOp a.eval o).run P w = r at h1 ⊢
      cases r with
      | ok x w' =>
        cases x with
        | value v => exact hK _ _ h1
        | skip => exact hK _ _ h1
        | defer d => exact hK _ _ h1
        | enter f args =>
          refine ⟨fun q => (by cases q), CallsIn.inRound ly (callsIn_wide.2 (Calls.mono h1 (fun e w'' he => ?_)))⟩
          cases e <;> first | exact hK _ _ he | exact he
        | row row args => exact ⟨fun q => (by cases q), (rows_wide h1).mono (fun v w'' he => hK _ _ he)⟩
        | _ => exact h1.elim
      | halt x w' =>
        cases x <;> first | exact h1 | exact h1.elim
    · rw [if_neg hw] at h ⊢
      exact ⟨fun f _ => trivial, hK _ _ h⟩
theorem anyIn_of (hout : ¬ LetsOut Q) (hd : ∀ (i : Nat) (o : Oper), ops[i]? = some o → ∀ c : Call, o.op ≠ .defer c) : ∀ (fuel : Nat) (listed : Array Bool) (a : Act) (w : World), wpAny P md ops Q fuel listed a w → wpAnyIn (Fence.wide.inRound ly) n P md ops Q fuel listed a w
  | 0, listed, a, w, h => h
  | fuel + 1, listed, a, w, h => ⟨h.1, fun i hi => opIn_of hout (hd i) (fun a w => anyIn_of hout hd fuel _ a w) (h.2 i hi)⟩
def noDefer (ops : Array Oper) : Bool := ops.all fun o => match o.op with | .defer _ => false | _ => true
theorem noDefer_spec {ops : Array Oper} (h : noDefer ops = true) : ∀ (i : Nat) (o : Oper), ops[i]? = some o → ∀ c : Call, o.op ≠ .defer c := fun i o ho c q => by
  have h1 := Array.all_eq_true_iff_forall_mem.1 h o (Array.mem_of_getElem? ho)
  rw [q] at h1
  cases h1
end
section
variable {P : Program} {md : Region.Mode} {C : World → Prop} {Q : Exit → Act → World → Prop} {l : List Oper} {ly n : Nat}
theorem wpIn_region_plan {id : Nat} {a : Act} {w : World} (H T1 T2 : List Nat) (hout : ¬ LetsOut Q) (hnd : noDefer l.toArray = true) (hm : P.follows .mixedOrders = true) (hB : planB .any l.toArray H T1 T2 = true) (hQ : ∀ c d u a w, Q (.panic c) (Act.put a d u) w → Q (.panic c) a w) (hC : C w.drew)
    (h : wpQuiet P l.toArray C (fun a' => wpT1 P l.toArray C Q (opsAt l T1) (fun a w => wpList P l.toArray Q (opsAt l T2) a w) a' w.drew) (opsAt l H) a) : (Code.region id l.toArray true).wpIn (Fence.wide.inRound ly) n P Q a w := by
  simp only [planB, Bool.and_eq_true, decide_eq_true_eq, List.all_eq_true, Bool.or_eq_true, List.contains_iff_mem, Bool.not_eq_true'] at hB
  obtain ⟨⟨hsel, hpl⟩, ⟨hcov, hd1, hd2⟩, hlen, hbe, hhd⟩ := hB
  refine wpIn_region_any hm (anyIn_of hout (noDefer_spec hnd) _ _ _ _ ?_)
  have inv0 : Closed .any l.toArray (Array.replicate l.toArray.size false) := fun j oj _ hl => by rw [getD_replicate_false] at hl; cases hl
  have hd1' : ∀ t ∈ T1 ++ T2, t ∉ H := fun t ht q => by
    have := hd1 t ht
    rw [List.contains_eq_mem, decide_eq_true q] at this
    cases this
  have hd2' : ∀ t ∈ T2, t ∉ T1 := fun t ht q => by
    have := hd2 t ht
    rw [List.contains_eq_mem, decide_eq_true q] at this
    cases this
  have h2 : ∀ t ∈ T2, t ∉ H ∧ t ∉ T1 := fun t ht => ⟨hd1' t (by simp [ht]), hd2' t ht⟩
  have := plan_H (md := .any) (H := H) (T1 := T1) (T := T1 ++ T2) hsel hQ hC (fun listed a hs hl => plan_T1 h2 T1 listed a w.drew (fun t ht => hd1' t (by simp [ht])) hs hl) H _ a (fun h hh => ⟨hh, hpl h hh⟩) hhd h
  rw [hlen] at this
  exact anyP_any hbe (fun i hi => hcov i (List.mem_range.2 hi)) _ _ _ _ inv0 (.inl hC) this
theorem wpIn_region_in {id : Nat} {a : Act} {w : World} (S H T1 T2 : List Nat) (hout : ¬ LetsOut Q) (hnd : noDefer l.toArray = true) (hm : P.follows .mixedOrders = true) (hB : planB .any l.toArray H T1 T2 = true) (hQ : ∀ c d u a w, Q (.panic c) (Act.put a d u) w → Q (.panic c) a w)
    (h : wpQuiet P l.toArray (fun W => ∃ p : Within S w, W = p.W) (fun a' => wpT1 P l.toArray (fun W => ∃ p : Within S w, W = p.W) Q (opsAt l T1) (fun a w => wpList P l.toArray Q (opsAt l T2) a w) a' w.drew) (opsAt l H) a) : (Code.region id l.toArray true).wpIn (Fence.wide.inRound ly) n P Q a w :=
  wpIn_region_plan H T1 T2 hout hnd hm hB hQ ⟨⟨_, (Only.refl S w).drew⟩, rfl⟩ h
end
end Go.Proofs.YtikboecmcbcghaaGreat
/- Plans of many parts, where each part may hold forks: reads; pairs of early ones in either order; further early ones. No program is named. -/
set_option linter.unusedVariables false
set_option linter.unusedSimpArgs false
namespace Go.Proofs.YtikboecmcbcghaaGreat
open Go Go.RowKit Go.Sort
/-- Reads, forks, early ones. -/
abbrev GStage := List Nat × List (Nat × Nat) × List Nat
section
variable {P : Program} {md : Region.Mode} {C : World → Prop} {Q : Exit → Act → World → Prop} {l : List Oper}
def forksTo (md : Region.Mode) (ops : Array Oper) (S : Array Bool → Bool) : List (Nat × Nat) → Array Bool → Bool
  | [] => S
  | (x, y) :: r => forkTo md ops (forksTo md ops S r) x y
def gTo (md : Region.Mode) (ops : Array Oper) (S : Array Bool → Bool) : List GStage → Array Bool → Bool
  | [] => S
  | (H, F, A) :: r => headTo md ops (forksTo md ops (seqTo md ops (gTo md ops S r) A) F) H
def wpForks (P : Program) (l : List Oper) (C : World → Prop) (Q : Exit → Act → World → Prop) (R : Act → World → Prop) : List (Nat × Nat) → Act → World → Prop
  | [] => R
  | (x, y) :: r => ForkGo P l C Q x y (wpForks P l C Q R r)
def wpG (P : Program) (l : List Oper) (C : World → Prop) (Q : Exit → Act → World → Prop) (K : Act → World → Prop) : List GStage → Act → World → Prop
  | [] => K
  | (H, F, A) :: r => fun a w => wpQuiet P l.toArray C (fun a' => wpForks P l C Q (fun a w => wpT1 P l.toArray C Q (opsAt l A) (wpG P l C Q K r) a w) F a' w) (opsAt l H) a
def fLen : List (Nat × Nat) → Nat → Nat
  | [], n => n
  | _ :: r, n => fLen r n + 1 + 1
def gLen : List GStage → Nat → Nat
  | [], n => n
  | (H, F, A) :: r, n => H.length + fLen F (A.length + gLen r n)
theorem plan_forks {H T1 : List Nat} {n : Nat} {S : Array Bool → Bool} {R : Act → World → Prop} (hR : ∀ listed a w, S listed = true → R a w → AnyP P md l.toArray C Q H T1 n listed a w) :
    ∀ (F : List (Nat × Nat)) (listed : Array Bool) (a : Act) (w : World), (∀ p ∈ F, p.1 ∉ H ∧ p.2 ∉ H) → forksTo md l.toArray S F listed = true → wpForks P l C Q R F a w → AnyP P md l.toArray C Q H T1 (fLen F n) listed a w
  | [], listed, a, w, _, hs, h => hR listed a w hs h
  | (x, y) :: r, listed, a, w, hd, hs, h => by
    obtain ⟨M, m1, m2, m3⟩ := h
    exact plan_fork (S := forksTo md l.toArray S r) (L := M) (fun listed a w hs hM => plan_forks hR r listed a w (fun p hp => hd p (by simp [hp])) hs (m3 a w hM)) x y listed a w (hd (x, y) (by simp)).1 (hd (x, y) (by simp)).2 hs m1 m2
theorem plan_g {H T1 : List Nat} {n : Nat} {S : Array Bool → Bool} {K : Act → World → Prop} (hsel : Region.noSelect l.toArray = true) (hQ : ∀ c d u a w, Q (.panic c) (Act.put a d u) w → Q (.panic c) a w)
    (hK : ∀ listed a w, S listed = true → K a w → AnyP P md l.toArray C Q H T1 n listed a w) :
    ∀ (st : List GStage) (listed : Array Bool) (a : Act) (w : World), (∀ p ∈ st, (∀ h ∈ p.1, h ∈ H ∧ plainAt l.toArray h = true) ∧ (∀ q ∈ p.2.1, q.1 ∉ H ∧ q.2 ∉ H) ∧ ∀ t ∈ p.2.2, t ∉ H) → gTo md l.toArray S st listed = true → wpG P l C Q K st a w →
      AnyP P md l.toArray C Q H T1 (gLen st n) listed a w
  | [], listed, a, w, _, hs, h => hK listed a w hs h
  | (H1, F, A) :: r, listed, a, w, hd, hs, h =>
    plan_Hn (S := forksTo md l.toArray (seqTo md l.toArray (gTo md l.toArray S r) A) F) hsel hQ
      (fun listed a hs h => plan_forks (S := seqTo md l.toArray (gTo md l.toArray S r) A) (fun listed a w hs h => plan_A (S := gTo md l.toArray S r) (fun listed a w hs h => plan_g hsel hQ hK r listed a w (fun p hp => hd p (by simp [hp])) hs h) A listed a w (hd (H1, F, A) (by simp)).2.2 hs h) F listed a w (hd (H1, F, A) (by simp)).2.1 hs h)
      H1 listed a (hd (H1, F, A) (by simp)).1 hs h
def forksL (F : List (Nat × Nat)) : List Nat := F.flatMap fun p => [p.1, p.2]
def gOrder : List GStage → List Nat
  | [] => []
  | (H, F, A) :: r => H ++ (forksL F ++ (A ++ gOrder r))
def gH (st : List GStage) : List Nat := st.flatMap (·.1)
def gT (st : List GStage) : List Nat := st.flatMap fun p => forksL p.2.1 ++ p.2.2
def planG (md : Region.Mode) (ops : Array Oper) (st : List GStage) (T2 : List Nat) : Bool :=
  (Region.noSelect ops && ((gH st).all (plainAt ops) && (gT st).all (fun i => !(gH st).contains i))) &&
    (((List.range ops.size).all (fun i => (gH st).contains i || ((gT st).contains i || T2.contains i)) && T2.all (fun i => !(gH st).contains i && !(gT st).contains i)) &&
      ((gH st).all (fun i => (gOrder st).contains i) && (decide (gLen st T2.length = ops.size) && (behindB md ops (gOrder st) T2 && gTo md ops (seqL md ops T2) st (Array.replicate ops.size false)))))
theorem any_region_g {a : Act} {w : World} (st : List GStage) (T2 : List Nat) (hB : planG .any l.toArray st T2 = true) (hQ : ∀ c d u a w, Q (.panic c) (Act.put a d u) w → Q (.panic c) a w) (hC : C w.drew)
    (h : wpG P l C Q (fun a w => wpList P l.toArray Q (opsAt l T2) a w) st a w.drew) : wpAny P .any l.toArray Q l.toArray.size (Array.replicate l.toArray.size false) a w.drew := by
  simp only [planG, Bool.and_eq_true, decide_eq_true_eq, List.all_eq_true, Bool.or_eq_true, List.contains_iff_mem, Bool.not_eq_true'] at hB
  obtain ⟨⟨hsel, hpl, hd1⟩, ⟨hcov, hd2⟩, hz, hlen, hbe, hst⟩ := hB
  have inv0 : Closed .any l.toArray (Array.replicate l.toArray.size false) := fun j oj _ hl => by rw [getD_replicate_false] at hl; cases hl
  have no : ∀ {L : List Nat} {t : Nat}, L.contains t = false → t ∉ L := fun {L t} h q => by rw [List.contains_eq_mem, decide_eq_true q] at h; cases h
  have := plan_g (C := C) (md := .any) (H := gH st) (T1 := gT st) (S := seqL .any l.toArray T2) hsel hQ
    (fun listed a w hs h => plan_T2 T2 listed a w (fun t ht => ⟨no (hd2 t ht).1, no (hd2 t ht).2⟩) hs h) st _ a w.drew
    (fun p hp => ⟨fun x hx => ⟨List.mem_flatMap.2 ⟨p, hp, hx⟩, hpl x (List.mem_flatMap.2 ⟨p, hp, hx⟩)⟩,
      fun q hq => ⟨no (hd1 q.1 (List.mem_flatMap.2 ⟨p, hp, List.mem_append_left _ (List.mem_flatMap.2 ⟨q, hq, by simp⟩)⟩)), no (hd1 q.2 (List.mem_flatMap.2 ⟨p, hp, List.mem_append_left _ (List.mem_flatMap.2 ⟨q, hq, by simp⟩)⟩))⟩,
      fun t ht => no (hd1 t (List.mem_flatMap.2 ⟨p, hp, List.mem_append_right _ ht⟩))⟩) hst h
  rw [hlen] at this
  exact anyP_anyZ hbe (fun x hx => hz x hx) (fun i hi => by
    rcases hcov i (List.mem_range.2 hi) with q | q | q
    · exact .inl q
    · exact .inr (.inl q)
    · exact .inr (.inr q)) _ _ _ _ inv0 (.inl hC) this
theorem wpIn_region_g {ly n id : Nat} {a : Act} {w : World} (st : List GStage) (T2 : List Nat) (hout : ¬ LetsOut Q) (hnd : noDefer l.toArray = true) (hm : P.follows .mixedOrders = true) (hB : planG .any l.toArray st T2 = true) (hQ : ∀ c d u a w, Q (.panic c) (Act.put a d u) w → Q (.panic c) a w) (hC : C w.drew)
    (h : wpG P l C Q (fun a w => wpList P l.toArray Q (opsAt l T2) a w) st a w.drew) : (Code.region id l.toArray true).wpIn (Fence.wide.inRound ly) n P Q a w := wpIn_region_any hm (anyIn_of hout (noDefer_spec hnd) _ _ _ _ (any_region_g st T2 hB hQ hC h))
variable {K : Act → World → Prop} {a : Act} {w : World} {H A : List Nat} {r : List GStage} {x y : Nat} {T2 : List Nat}
theorem gNext (h : wpQuiet P l.toArray C (fun a' => wpT1 P l.toArray C Q (opsAt l A) (wpG P l C Q K r) a' w) (opsAt l H) a) : wpT1 P l.toArray C Q (opsAt l []) (wpG P l C Q K ((H, [], A) :: r)) a w := h
/-- A part with one fork. -/
theorem gFirstF (h : wpQuiet P l.toArray C (fun a' => ForkGo P l C Q x y (fun a w => wpT1 P l.toArray C Q (opsAt l A) (wpG P l C Q K r) a w) a' w) (opsAt l H) a) : wpG P l C Q K ((H, [(x, y)], A) :: r) a w := h
theorem gEnd (h : wpList P l.toArray Q (opsAt l T2) a w) : wpT1 P l.toArray C Q (opsAt l []) (wpG P l C Q (fun a w => wpList P l.toArray Q (opsAt l T2) a w) []) a w := h
end
end Go.Proofs.YtikboecmcbcghaaGreat
/- Contracts of library functions at this dump, laid by the kit's tools in plain words: each is one application of a theorem of the kit's shelf. -/
namespace Go.Proofs
open Go.Shelf
def Tryz.keys34_ren : Go.Shelf.Ren := ⟨fun | 7 => 34 | 10 => 102 | n => n, fun | 23 => 75 | 26 => 9 | 3 => 82 | 28 => 87 | 0 => 0 | 27 => 86 | 33 => 90 | 4 => 4 | n => n, fun | n => n⟩
theorem Tryz.keys34 : Go.Proofs.SlLaysZ.n7 Tryz.prog Tryz.keys34_ren := {
  mixed := by kernel_rfl
  f7 := ⟨Tryz.f34.name, by decide, Tryz.func34.trans (congrArg some (by kernel_rfl))⟩
  f10 := ⟨Tryz.f102.name, by decide, Tryz.func102.trans (congrArg some (by kernel_rfl))⟩
  t0 := Tryz.underlying0
  a0 := Tryz.isAgg0
  z0 := Tryz.sizeOf0
  v0 := Tryz.zeroValue0
  t4 := Tryz.underlying4
  a4 := Tryz.isAgg4
  z4 := Tryz.sizeOf4
  v4 := Tryz.zeroValue4
  t23 := Tryz.underlying75
  a23 := Tryz.isAgg75
  z23 := Tryz.sizeOf75
  v23 := Tryz.zeroValue75
  t26 := Tryz.underlying9
  a26 := Tryz.isAgg9
  z26 := Tryz.sizeOf9
  v26 := Tryz.zeroValue9
  t27 := Tryz.underlying86
  a27 := Tryz.isAgg86
  z27 := Tryz.sizeOf86
  v27 := Tryz.zeroValue86
  t28 := Tryz.underlying87
  a28 := Tryz.isAgg87
  z28 := Tryz.sizeOf87
  v28 := Tryz.zeroValue87
  t33 := Tryz.underlying90
  a33 := Tryz.isAgg90
  z33 := Tryz.sizeOf90
  v33 := Tryz.zeroValue90 }
def Tryz.sorted123_ren : Go.Shelf.Ren := ⟨fun | 6 => 123 | 8 => 33 | 9 => 152 | 11 => 101 | 13 => 158 | 12 => 157 | 23 => 168 | 24 => 169 | 14 => 159 | 15 => 160 | 16 => 161 | 17 => 162 | 18 => 163 | 19 => 164 | 20 => 165 | 21 => 166 | 22 => 167 | 25 => 170 | 26 => 171 | 27 => 172 | 28 => 173 | 29 => 174 | 30 => 175 | 31 => 176 | n => n, fun | 26 => 9 | 28 => 87 | 24 => 41 | 0 => 0 | 3 => 3 | 37 => 182 | 48 => 194 | 50 => 143 | 4 => 4 | 40 => 186 | 39 => 185 | 45 => 191 | 5 => 5 | 9 => 9 | 51 => 196 | 55 => 200 | 57 => 202 | 58 => 203 | 33 => 90 | n => n, fun | n => n⟩
theorem Tryz.sorted123 : Go.Proofs.SlLaysZ.n6 Tryz.prog Tryz.sorted123_ren := {
  mixed := by kernel_rfl
  f6 := ⟨Tryz.f123.name, by decide, Tryz.func123.trans (congrArg some (by kernel_rfl))⟩
  f8 := ⟨Tryz.f33.name, by decide, Tryz.func33.trans (congrArg some (by kernel_rfl))⟩
  f11 := ⟨Tryz.f101.name, by decide, Tryz.func101.trans (congrArg some (by kernel_rfl))⟩
  t0 := Tryz.underlying0
  a0 := Tryz.isAgg0
  z0 := Tryz.sizeOf0
  v0 := Tryz.zeroValue0
  t24 := Tryz.underlying41
  a24 := Tryz.isAgg41
  z24 := Tryz.sizeOf41
  v24 := Tryz.zeroValue41
  t26 := Tryz.underlying9
  a26 := Tryz.isAgg9
  z26 := Tryz.sizeOf9
  v26 := Tryz.zeroValue9
  t28 := Tryz.underlying87
  a28 := Tryz.isAgg87
  z28 := Tryz.sizeOf87
  v28 := Tryz.zeroValue87
  i26 := by kernel_rfl }
def Tryz.sort152_ren : Go.Shelf.Ren := ⟨fun | 6 => 152 | 8 => 158 | 9 => 157 | 19 => 168 | 20 => 169 | 21 => 159 | 22 => 160 | 23 => 161 | 24 => 162 | 25 => 163 | 26 => 164 | 27 => 165 | 28 => 166 | 29 => 167 | 36 => 170 | 31 => 171 | 32 => 172 | 37 => 173 | 38 => 174 | 39 => 175 | 41 => 176 | n => n, fun | 27 => 41 | 29 => 9 | 3 => 3 | 32 => 182 | 26 => 41 | 0 => 0 | 44 => 194 | 46 => 143 | 4 => 4 | 36 => 186 | 35 => 185 | 41 => 191 | 5 => 5 | 9 => 9 | 53 => 196 | 57 => 200 | 63 => 202 | 64 => 203 | n => n, fun | n => n⟩
theorem Tryz.sort152 : Go.Proofs.SlLaysM.n6 Tryz.prog Tryz.sort152_ren := {
  mixed := by kernel_rfl
  f6 := ⟨Tryz.f152.name, by decide, Tryz.func152.trans (congrArg some (by kernel_rfl))⟩
  f8 := Tryz.func158.trans (congrArg some (by kernel_rfl))
  f9 := ⟨Tryz.f157.name, by decide, Tryz.func157.trans (congrArg some (by kernel_rfl))⟩
  f19 := Tryz.func168.trans (congrArg some (by kernel_rfl))
  f20 := Tryz.func169.trans (congrArg some (by kernel_rfl))
  f21 := ⟨Tryz.f159.name, by decide, Tryz.func159.trans (congrArg some (by kernel_rfl))⟩
  f22 := ⟨Tryz.f160.name, by decide, Tryz.func160.trans (congrArg some (by kernel_rfl))⟩
  f23 := ⟨Tryz.f161.name, by decide, Tryz.func161.trans (congrArg some (by kernel_rfl))⟩
  f24 := ⟨Tryz.f162.name, by decide, Tryz.func162.trans (congrArg some (by kernel_rfl))⟩
  f25 := ⟨Tryz.f163.name, by decide, Tryz.func163.trans (congrArg some (by kernel_rfl))⟩
  f26 := ⟨Tryz.f164.name, by decide, Tryz.func164.trans (congrArg some (by kernel_rfl))⟩
  f27 := ⟨Tryz.f165.name, by decide, Tryz.func165.trans (congrArg some (by kernel_rfl))⟩
  f28 := ⟨Tryz.f166.name, by decide, Tryz.func166.trans (congrArg some (by kernel_rfl))⟩
  f29 := ⟨Tryz.f167.name, by decide, Tryz.func167.trans (congrArg some (by kernel_rfl))⟩
  f31 := Tryz.func171.trans (congrArg some (by kernel_rfl))
  f32 := Tryz.func172.trans (congrArg some (by kernel_rfl))
  f36 := ⟨Tryz.f170.name, by decide, Tryz.func170.trans (congrArg some (by kernel_rfl))⟩
  f37 := ⟨Tryz.f173.name, by decide, Tryz.func173.trans (congrArg some (by kernel_rfl))⟩
  f38 := ⟨Tryz.f174.name, by decide, Tryz.func174.trans (congrArg some (by kernel_rfl))⟩
  f39 := ⟨Tryz.f175.name, by decide, Tryz.func175.trans (congrArg some (by kernel_rfl))⟩
  f41 := ⟨Tryz.f176.name, by decide, Tryz.func176.trans (congrArg some (by kernel_rfl))⟩
  t0 := Tryz.underlying0
  a0 := Tryz.isAgg0
  z0 := Tryz.sizeOf0
  v0 := Tryz.zeroValue0
  t3 := Tryz.underlying3
  a3 := Tryz.isAgg3
  z3 := Tryz.sizeOf3
  v3 := Tryz.zeroValue3
  t4 := Tryz.underlying4
  a4 := Tryz.isAgg4
  z4 := Tryz.sizeOf4
  v4 := Tryz.zeroValue4
  t5 := Tryz.underlying5
  a5 := Tryz.isAgg5
  z5 := Tryz.sizeOf5
  v5 := Tryz.zeroValue5
  t9 := Tryz.underlying9
  a9 := Tryz.isAgg9
  z9 := Tryz.sizeOf9
  v9 := Tryz.zeroValue9
  t26 := Tryz.underlying41
  a26 := Tryz.isAgg41
  z26 := Tryz.sizeOf41
  v26 := Tryz.zeroValue41
  t27 := Tryz.underlying41
  a27 := Tryz.isAgg41
  z27 := Tryz.sizeOf41
  v27 := Tryz.zeroValue41
  t29 := Tryz.underlying9
  a29 := Tryz.isAgg9
  z29 := Tryz.sizeOf9
  v29 := Tryz.zeroValue9
  t32 := Tryz.underlying182
  a32 := Tryz.isAgg182
  z32 := Tryz.sizeOf182
  v32 := Tryz.zeroValue182
  t35 := Tryz.underlying185
  a35 := Tryz.isAgg185
  z35 := Tryz.sizeOf185
  v35 := Tryz.zeroValue185
  t36 := Tryz.underlying186
  a36 := Tryz.isAgg186
  z36 := Tryz.sizeOf186
  v36 := Tryz.zeroValue186
  t41 := Tryz.underlying191
  a41 := Tryz.isAgg191
  z41 := Tryz.sizeOf191
  v41 := Tryz.zeroValue191
  t44 := Tryz.underlying194
  a44 := Tryz.isAgg194
  z44 := Tryz.sizeOf194
  v44 := Tryz.zeroValue194
  t46 := Tryz.underlying143
  a46 := Tryz.isAgg143
  z46 := Tryz.sizeOf143
  v46 := Tryz.zeroValue143
  t53 := Tryz.underlying196
  a53 := Tryz.isAgg196
  z53 := Tryz.sizeOf196
  v53 := Tryz.zeroValue196
  t57 := Tryz.underlying200
  a57 := Tryz.isAgg200
  z57 := Tryz.sizeOf200
  v57 := Tryz.zeroValue200
  t63 := Tryz.underlying202
  a63 := Tryz.isAgg202
  z63 := Tryz.sizeOf202
  v63 := Tryz.zeroValue202
  t64 := Tryz.underlying203
  a64 := Tryz.isAgg203
  z64 := Tryz.sizeOf203
  v64 := Tryz.zeroValue203 }
def Tryz.cloneM_ren : Go.Shelf.Ren := ⟨fun | 5 => 29 | 7 => 98 | n => n, fun | 23 => 75 | 25 => 9 | 3 => 82 | 4 => 4 | 20 => 20 | n => n, fun | n => n⟩
theorem Tryz.cloneM : Go.Proofs.SlLaysW.n5 Tryz.prog Tryz.cloneM_ren := {
  mixed := by kernel_rfl
  f5 := ⟨Tryz.f29.name, by decide, Tryz.func29.trans (congrArg some (by kernel_rfl))⟩
  f7 := Tryz.func98.trans (congrArg some (by kernel_rfl))
  t4 := Tryz.underlying4
  a4 := Tryz.isAgg4
  z4 := Tryz.sizeOf4
  v4 := Tryz.zeroValue4
  t20 := Tryz.underlying20
  a20 := Tryz.isAgg20
  z20 := Tryz.sizeOf20
  v20 := Tryz.zeroValue20
  t23 := Tryz.underlying75
  a23 := Tryz.isAgg75
  z23 := Tryz.sizeOf75
  v23 := Tryz.zeroValue75 }
def Tryz.collectK_ren : Go.Shelf.Ren := ⟨fun | 8 => 33 | 11 => 101 | n => n, fun | 26 => 9 | 28 => 87 | 24 => 41 | 0 => 0 | 33 => 90 | 4 => 4 | n => n, fun | n => n⟩
theorem Tryz.collectK : Go.Proofs.SlLaysZ.n8 Tryz.prog Tryz.collectK_ren := {
  mixed := by kernel_rfl
  f8 := ⟨Tryz.f33.name, by decide, Tryz.func33.trans (congrArg some (by kernel_rfl))⟩
  f11 := ⟨Tryz.f101.name, by decide, Tryz.func101.trans (congrArg some (by kernel_rfl))⟩
  t0 := Tryz.underlying0
  a0 := Tryz.isAgg0
  z0 := Tryz.sizeOf0
  v0 := Tryz.zeroValue0
  t24 := Tryz.underlying41
  a24 := Tryz.isAgg41
  z24 := Tryz.sizeOf41
  v24 := Tryz.zeroValue41
  t26 := Tryz.underlying9
  a26 := Tryz.isAgg9
  z26 := Tryz.sizeOf9
  v26 := Tryz.zeroValue9
  t28 := Tryz.underlying87
  a28 := Tryz.isAgg87
  z28 := Tryz.sizeOf87
  v28 := Tryz.zeroValue87
  i26 := by kernel_rfl }
def Tryz.delFunc_ren : Go.Shelf.Ren := ⟨fun | 10 => 122 | 6 => 151 | n => n, fun | 22 => 41 | 23 => 9 | 25 => 90 | 3 => 3 | 4 => 4 | 0 => 0 | n => n, fun | n => n⟩
theorem Tryz.delFunc : Go.Proofs.SlLaysH.n10 Tryz.prog Tryz.delFunc_ren := {
  mixed := by kernel_rfl
  f6 := ⟨Tryz.f151.name, by decide, Tryz.func151.trans (congrArg some (by kernel_rfl))⟩
  f10 := ⟨Tryz.f122.name, by decide, Tryz.func122.trans (congrArg some (by kernel_rfl))⟩
  t0 := Tryz.underlying0
  a0 := Tryz.isAgg0
  z0 := Tryz.sizeOf0
  v0 := Tryz.zeroValue0
  t3 := Tryz.underlying3
  a3 := Tryz.isAgg3
  z3 := Tryz.sizeOf3
  v3 := Tryz.zeroValue3
  t4 := Tryz.underlying4
  a4 := Tryz.isAgg4
  z4 := Tryz.sizeOf4
  v4 := Tryz.zeroValue4
  t22 := Tryz.underlying41
  a22 := Tryz.isAgg41
  z22 := Tryz.sizeOf41
  v22 := Tryz.zeroValue41
  a23 := Tryz.isAgg9
  z23 := Tryz.sizeOf9
  t25 := Tryz.underlying90
  a25 := Tryz.isAgg90
  z25 := Tryz.sizeOf90
  v25 := Tryz.zeroValue90 }
def Tryz.lays190_ren : Go.Shelf.Ren := ⟨fun | 190 => 152 | 125 => 158 | 258 => 157 | 128 => 168 | 129 => 169 | 302 => 159 | 303 => 160 | 304 => 161 | 305 => 162 | 306 => 163 | 307 => 164 | 308 => 165 | 309 => 166 | 310 => 167 | 333 => 170 | 329 => 171 | 330 => 172 | 334 => 173 | 335 => 174 | 336 => 175 | 344 => 176 | n => n, fun | 31 => 41 | 9 => 9 | 3 => 3 | 46 => 182 | 0 => 0 | 51 => 194 | 53 => 143 | 4 => 4 | 183 => 186 | 182 => 185 | 131 => 191 | 5 => 5 | 218 => 196 | 222 => 200 | 228 => 202 | 229 => 203 | n => n, fun | n => n⟩
theorem Tryz.lays190 : Go.Proofs.Lays.n190 Tryz.prog Tryz.lays190_ren := {
  mixed := by kernel_rfl
  f125 := Tryz.func158.trans (congrArg some (by kernel_rfl))
  f128 := Tryz.func168.trans (congrArg some (by kernel_rfl))
  f129 := Tryz.func169.trans (congrArg some (by kernel_rfl))
  f190 := Tryz.func152.trans (congrArg some (by kernel_rfl))
  f258 := Tryz.func157.trans (congrArg some (by kernel_rfl))
  f302 := Tryz.func159.trans (congrArg some (by kernel_rfl))
  f303 := Tryz.func160.trans (congrArg some (by kernel_rfl))
  f304 := Tryz.func161.trans (congrArg some (by kernel_rfl))
  f305 := Tryz.func162.trans (congrArg some (by kernel_rfl))
  f306 := Tryz.func163.trans (congrArg some (by kernel_rfl))
  f307 := Tryz.func164.trans (congrArg some (by kernel_rfl))
  f308 := Tryz.func165.trans (congrArg some (by kernel_rfl))
  f309 := Tryz.func166.trans (congrArg some (by kernel_rfl))
  f310 := Tryz.func167.trans (congrArg some (by kernel_rfl))
  f329 := Tryz.func171.trans (congrArg some (by kernel_rfl))
  f330 := Tryz.func172.trans (congrArg some (by kernel_rfl))
  f333 := Tryz.func170.trans (congrArg some (by kernel_rfl))
  f334 := Tryz.func173.trans (congrArg some (by kernel_rfl))
  f335 := Tryz.func174.trans (congrArg some (by kernel_rfl))
  f336 := Tryz.func175.trans (congrArg some (by kernel_rfl))
  f344 := Tryz.func176.trans (congrArg some (by kernel_rfl))
  t0 := Tryz.underlying0
  a0 := Tryz.isAgg0
  z0 := Tryz.sizeOf0
  v0 := Tryz.zeroValue0
  t3 := Tryz.underlying3
  a3 := Tryz.isAgg3
  z3 := Tryz.sizeOf3
  v3 := Tryz.zeroValue3
  t4 := Tryz.underlying4
  a4 := Tryz.isAgg4
  z4 := Tryz.sizeOf4
  v4 := Tryz.zeroValue4
  t5 := Tryz.underlying5
  a5 := Tryz.isAgg5
  z5 := Tryz.sizeOf5
  v5 := Tryz.zeroValue5
  t9 := Tryz.underlying9
  a9 := Tryz.isAgg9
  z9 := Tryz.sizeOf9
  v9 := Tryz.zeroValue9
  t31 := Tryz.underlying41
  a31 := Tryz.isAgg41
  z31 := Tryz.sizeOf41
  v31 := Tryz.zeroValue41
  t46 := Tryz.underlying182
  a46 := Tryz.isAgg182
  z46 := Tryz.sizeOf182
  v46 := Tryz.zeroValue182
  t51 := Tryz.underlying194
  a51 := Tryz.isAgg194
  z51 := Tryz.sizeOf194
  v51 := Tryz.zeroValue194
  t53 := Tryz.underlying143
  a53 := Tryz.isAgg143
  z53 := Tryz.sizeOf143
  v53 := Tryz.zeroValue143
  t131 := Tryz.underlying191
  a131 := Tryz.isAgg191
  z131 := Tryz.sizeOf191
  v131 := Tryz.zeroValue191
  t182 := Tryz.underlying185
  a182 := Tryz.isAgg185
  z182 := Tryz.sizeOf185
  v182 := Tryz.zeroValue185
  t183 := Tryz.underlying186
  a183 := Tryz.isAgg186
  z183 := Tryz.sizeOf186
  v183 := Tryz.zeroValue186
  t218 := Tryz.underlying196
  a218 := Tryz.isAgg196
  z218 := Tryz.sizeOf196
  v218 := Tryz.zeroValue196
  t222 := Tryz.underlying200
  a222 := Tryz.isAgg200
  z222 := Tryz.sizeOf200
  v222 := Tryz.zeroValue200
  t228 := Tryz.underlying202
  a228 := Tryz.isAgg202
  z228 := Tryz.sizeOf202
  v228 := Tryz.zeroValue202
  t229 := Tryz.underlying203
  a229 := Tryz.isAgg203
  z229 := Tryz.sizeOf203
  v229 := Tryz.zeroValue203 }
open Go.Sort Go.RowKit in
theorem Tryz.slices_Sort_string (blk off cap : Nat) (ss : List (List UInt8)) (w : World) (hH : Holds encStr w blk off ss.toArray) (hblk : blk < w.heap.size) (hsz : ss.length < 4611686018427387904) :
    Calls Tryz.prog 152 #[.slice (some ⟨blk, off, none⟩) ss.length cap] w fun e w' =>
      e = .returned (.tuple #[]) ∧ ∃ n os, w' = grow (putRow encStr (Sort.ahead w n) blk off (ss.mergeSort fun x y => decide (x ≤ y)).toArray) os := Any.slices_Sort_string Tryz.lays190 blk off cap ss w hH hblk hsz
open Go.RowKit Go.Lib in
open Go.RowKit Go.Lib in
open Go.RowKit Go.Lib in
open Go.RowKit Go.Sort in
theorem Tryz.slices_Sort_string_none (p : Option Addr) (cap : Nat) (w : World) :
    Calls Tryz.prog 152 #[.slice p 0 cap] w fun e w' => e = .returned (.tuple #[]) ∧ w' = w := Any.slices_Sort_string_none Tryz.lays190 p cap w
open Go.RowKit Go.Lib in
open Go.RowKit Go.Lib in
open Go.RowKit Go.Lib in
open Go.RowKit Go.Lib in
def Tryz.laysSlH10_f122_ren : Go.Shelf.Ren := ⟨fun | 10 => 122 | 6 => 151 | n => n, fun | 22 => 41 | 23 => 9 | 25 => 90 | 3 => 3 | 4 => 4 | 0 => 0 | n => n, fun | n => n⟩
theorem Tryz.laysSlH10_f122 : Go.Proofs.SlLaysH.n10 Tryz.prog Tryz.laysSlH10_f122_ren := {
  mixed := by kernel_rfl
  f6 := ⟨Tryz.f151.name, by decide, Tryz.func151.trans (congrArg some (by kernel_rfl))⟩
  f10 := ⟨Tryz.f122.name, by decide, Tryz.func122.trans (congrArg some (by kernel_rfl))⟩
  t0 := Tryz.underlying0
  a0 := Tryz.isAgg0
  z0 := Tryz.sizeOf0
  v0 := Tryz.zeroValue0
  t3 := Tryz.underlying3
  a3 := Tryz.isAgg3
  z3 := Tryz.sizeOf3
  v3 := Tryz.zeroValue3
  t4 := Tryz.underlying4
  a4 := Tryz.isAgg4
  z4 := Tryz.sizeOf4
  v4 := Tryz.zeroValue4
  t22 := Tryz.underlying41
  a22 := Tryz.isAgg41
  z22 := Tryz.sizeOf41
  v22 := Tryz.zeroValue41
  a23 := Tryz.isAgg9
  z23 := Tryz.sizeOf9
  t25 := Tryz.underlying90
  a25 := Tryz.isAgg90
  z25 := Tryz.sizeOf90
  v25 := Tryz.zeroValue90 }
open Go.RowKit Go.Lib Go.Sort in
theorem Tryz.slices_DeleteFunc {α : Type} [Inhabited α] (enc : α → Value) (hO : OneCell enc) (p : α → Bool) (g : Nat) (lb : Array Value) (eg : ∀ args w, (callFunc g args).run Tryz.prog w = .ok (.enter g args) w) (zr : α) (v23 : ∀ w, (zeroValue 9).run Tryz.prog w = .ok (enc zr) w) (blk off cap : Nat) (d : Array α) (w : World) (hp : PredAt Tryz.prog g lb enc p w) (hpo : PredOver Tryz.prog g lb enc p blk off d.size w) (hH : Holds enc w blk off d) (hsz : d.size ≤ 9223372036854775807) (hcap : d.size ≤ cap) :
    Calls Tryz.prog 122 #[.slice (some ⟨blk, off, none⟩) d.size cap, .func (.func g) #[] lb] w fun e w' => e = .returned (.slice (some ⟨blk, off, none⟩) (d.toList.filter fun x => !p x).length cap) ∧ ∃ q, w' = putRow enc (Sort.ahead w q) blk off ((d.toList.filter fun x => !p x) ++ List.replicate (d.size - (d.toList.filter fun x => !p x).length) zr).toArray := AnyE.slices_DeleteFunc Tryz.laysSlH10_f122 enc hO p g lb eg zr v23 blk off cap d w hp hpo hH hsz hcap
open Go.RowKit Go.Maps Go.Sort Go.Shelf


theorem Tryz.sorts123 (m : Nat) : AnyZ.SortsIn Tryz.prog Tryz.sorted123_ren Fence.wide m :=
  ⟨fun blk off cap ss W hH hblk hsz => callsIn_wide.2 (AnyM.slices_Sort_string Tryz.sort152 blk off cap ss W hH hblk hsz),
   fun p cap W => callsIn_wide.2 (AnyM.slices_Sort_string_none Tryz.sort152 p cap W)⟩

theorem Tryz.maps_Keys_34 (mb : Option Nat) (W : World) : CallsIn Fence.wide 5 Tryz.prog 34 #[.map mb] W fun e w' => e = .returned (.func (.func 102) #[] #[.pointer (some ⟨W.heap.size, 0, none⟩)]) ∧ w' = W.alloc (.cells #[.map mb] 75) :=
  AnyZ.keys_in Tryz.keys34 Fence.wide 5 trivial rfl mb W

set_option maxHeartbeats 1000000 in
theorem Tryz.slices_Sorted_keys_123_34 {H : Type} (b nn : Nat) (D0 : DataW H) (R : Value → Option (DataW H × List MemPlace)) (w : World) (hown : w.ownsMap Tryz.prog 9 R b nn D0) (hmax : Maps.size D0 ≤ maxLen) (hbytes : Maps.size D0 * 16 ≤ 140737488355328) :
    CallsIn Fence.wide 5 Tryz.prog 123 #[.func (.func 102) #[] #[.pointer (some ⟨w.heap.size, 0, none⟩)]] (w.alloc (.cells #[.map (some b)] 75)) fun e w' => ∃ (v : Value) (ss : List (List UInt8)), e = .returned v ∧ ss.Perm (strKeys D0) ∧
      w'.ownsRow (w.alloc (.cells #[.map (some b)] 75)).heap.size 9 1 v ss.length ((ss.mergeSort (fun x y => decide (x ≤ y))).map encStr) ∧ (v = .slice none 0 0 ↔ ss = []) ∧ Below (w.alloc (.cells #[.map (some b)] 75)).heap.size (w.alloc (.cells #[.map (some b)] 75)) w' := by
  have hbl := hown.lt
  have hseq : SeqGives Fence.wide 2 Tryz.prog 102 #[.pointer (some ⟨w.heap.size, 0, none⟩)] encStr (fun ss => ss.Perm (strKeys D0)) (Maps.size D0) (w.alloc (.cells #[.map (some b)] 75)) :=
    AnyZ.keys_gives (ρ := Tryz.keys34_ren) { Tryz.keys34 with } Fence.wide _ trivial rfl (by omega) w.heap.size b nn D0 _ (by simp) (by simp) (by
      obtain ⟨es, clock, hb, Ft, hs, hD⟩ := hown
      exact ⟨es, clock, (Below.heap_alloc _ _ b hbl).trans hb, Ft, hs, hD⟩)
  exact AnyZ.sorted_in Tryz.sorted123 Fence.wide 5 trivial trivial trivial trivial rfl (by omega) (Tryz.sorts123 _) (enters_of Tryz.func152 (by kernel_rfl) rfl) 102 #[.pointer (some ⟨w.heap.size, 0, none⟩)] trivial (enters_of Tryz.func102 (by kernel_rfl) rfl) _ _ hmax hbytes _ hseq

end Go.Proofs
