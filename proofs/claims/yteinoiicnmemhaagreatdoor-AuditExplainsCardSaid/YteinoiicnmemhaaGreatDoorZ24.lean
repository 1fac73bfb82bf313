/- Proved here: contracts of functions and plain laws, part 24 of one proof. Conditions: each theorem names its own. -/
import Derived.Test.YteinoiicnmemhaaGreatDoorZ21
import Derived.Test.YteinoiicnmemhaaGreatDoorZ23
set_option linter.unusedSimpArgs false
set_option linter.unusedVariables false
namespace Go.Proofs.YteinoiicnmemhaaGreatDoor
section
open Go Go.RowKit Go.Sort
section
variable {a w : World} {H : List Nat} {rb : Nat} {r : RS}
set_option maxRecDepth 100000 in
set_option maxHeartbeats 4000000 in
theorem dread_bad (nm : ByteArray) (hs : nm.size ≤ maxLen) (f n : Int) (back : Bool) (l : List StoredR) (hw : (nameOk nm && decide (0 ≤ f) && decide (1 ≤ n) && decide (n ≤ 100)) = false) :
    Calls Tryz.prog 77 #[.pointer (some ⟨rb, 0, none⟩), .string nm, .int .i64 f, .int .i64 n, .bool back] w (PageOut w StoredR.version l f n (PageR.zero, 1)) := by
  have HS := Lib.hid fun (W : World) => r1stream_any nm W hs
  cases hn : nameOk nm with
  | false =>
    rw [hn] at HS
    clear hw
    go_enter Tryz.func77, Tryz.ntmps77
    go_wp2_with (go_at_call 65; refine (HS.out _).mono ?_; rintro e1 w1 ⟨rfl, rfl⟩)
    exact bodyPost_ret (v := .tuple #[.agg #[.slice none 0 0, .int .i64 0, .bool false], .int .i64 1]) (by simp [results, Tryz.results77, go_sem]) rfl ⟨_, rfl, World.ownsRow_nil _ _ _ _, (Only.refl [] w).alloc _⟩
  | true =>
    rw [hn] at HS
    by_cases h1 : f < 0
    · clear hw
      go_enter Tryz.func77, Tryz.ntmps77
      go_wp2_with (go_at_call 65; refine (HS.out _).mono ?_; rintro e1 w1 ⟨rfl, rfl⟩)
      exact bodyPost_ret (v := .tuple #[.agg #[.slice none 0 0, .int .i64 0, .bool false], .int .i64 1]) (by simp [results, Tryz.results77, go_sem]) rfl ⟨_, rfl, World.ownsRow_nil _ _ _ _, (Only.refl [] w).alloc _⟩
    · by_cases h2 : n < 1
      · clear hw
        go_enter Tryz.func77, Tryz.ntmps77
        go_wp2_with (go_at_call 65; refine (HS.out _).mono ?_; rintro e1 w1 ⟨rfl, rfl⟩)
        exact bodyPost_ret (v := .tuple #[.agg #[.slice none 0 0, .int .i64 0, .bool false], .int .i64 1]) (by simp [results, Tryz.results77, go_sem]) rfl ⟨_, rfl, World.ownsRow_nil _ _ _ _, (Only.refl [] w).alloc _⟩
      · have h3 : n > 100 := by
          rw [hn] at hw
          simp at hw
          omega
        clear hw
        go_enter Tryz.func77, Tryz.ntmps77
        go_wp2_with (go_at_call 65; refine (HS.out _).mono ?_; rintro e1 w1 ⟨rfl, rfl⟩)
        exact bodyPost_ret (v := .tuple #[.agg #[.slice none 0 0, .int .i64 0, .bool false], .int .i64 1]) (by simp [results, Tryz.results77, go_sem]) rfl ⟨_, rfl, World.ownsRow_nil _ _ _ _, (Only.refl [] w).alloc _⟩
set_option maxRecDepth 100000 in
set_option maxHeartbeats 4000000 in
theorem dread_any (h : HasD a w H rb r) (hf : r.Fine) (nm : ByteArray) (hs : nm.size ≤ maxLen) (f n : Int) (back : Bool) (hk : ∀ s ∈ r.l, 0 ≤ s.version ∧ s.version ≤ 1000000000) :
    Calls Tryz.prog 77 #[.pointer (some ⟨rb, 0, none⟩), .string nm, .int .i64 f, .int .i64 n, .bool back] w (PageOut w StoredR.version (r.seenD nm) f n (r.readD nm f n back)) := by
  cases hw : (nameOk nm && decide (0 ≤ f) && decide (1 ≤ n) && decide (n ≤ 100)) with
  | false =>
    have e : r.readD nm f n back = (PageR.zero, 1) := by unfold RS.readD; rw [if_pos hw]
    rw [e]
    exact dread_bad nm hs f n back _ hw
  | true =>
    have HS := Lib.hid fun (W : World) => r1stream_any nm W hs
    have hq : (nameOk nm = true ∧ ¬ f < 0) ∧ ¬ n < 1 ∧ ¬ n > 100 := by
      simp at hw
      exact ⟨⟨hw.1.1.1, by omega⟩, by omega, by omega⟩
    obtain ⟨⟨hn, hf0⟩, hn1, hn2⟩ := hq
    rw [hn] at HS
    have HGt := Lib.hid fun (W : World) (k : Only [] w W) => dget_any (h.keep0 k) nm
    have HOf := Lib.hid fun (W : World) (k : Only [] w W) => dof_any (h.keep0 k) hf.few nm
    have HSn := Lib.hid fun (W : World) (k : Only [] w W) => dseen_any (h.keep0 k) hf nm
    have hofl : (r.of nm).length ≤ 1000000 := Nat.le_trans (List.length_filter_le _ _) hf.few
    have hfew : (r.seenD nm).length ≤ 1000000 := Nat.le_trans (List.length_filter_le _ _) hf.few
    have hk2 : ∀ s ∈ r.seenD nm, 0 ≤ s.version ∧ s.version ≤ 1000000000 := fun s hs => hk s (List.mem_filter.1 hs).1
    have hfd3 := fldD3
    have hO1 : Only [] w (w.alloc (.cells #[.slice none 0 0, .int .i64 0, .bool false] 57)) := (Only.refl [] w).alloc _
    have hB1 : Blk (w.alloc (.cells #[.slice none 0 0, .int .i64 0, .bool false] 57)) w.heap.size 57 #[.slice none 0 0, .int .i64 0, .bool false] := Blk.new _ _ _
    unfold DStr.val at HGt
    have e : r.readD nm f n back = if (r.get nm).deleted then (PageR.zero, 23) else if (r.of nm).length = 0 then (PageR.zero, 8) else pageBy StoredR.version (r.seenD nm) f n back := by unfold RS.readD; rw [if_neg (by rw [hw]; simp)]
    rw [e]
    clear e hw h hk hf
    cases hd : (r.get nm).deleted with
    | true =>
      rw [hd] at HGt
      rw [if_pos rfl]
      go_enter Tryz.func77, Tryz.ntmps77
      go_wp2_with (first
        | (go_at_call 65; refine (HS.out _).mono ?_; rintro e1 w1 ⟨rfl, rfl⟩)
        | (go_at_call 26; refine (HGt.out _ hO1).mono ?_; rintro e2 w2 ⟨rfl, k2⟩; have hB2 := k2.blk hB1 (by simp); have hbR := fun i => hB2.cell i; have hbRf := fun i => hB2.free i))
      refine bodyPost_ret (v := .tuple #[.agg #[.slice none 0 0, .int .i64 0, .bool false], .int .i64 23]) (by simp [results, Tryz.results77, go_sem, hbR]) rfl ⟨_, rfl, World.ownsRow_nil _ _ _ _, ?_⟩
      iterate 3 (refine Only.setCell ?_ (.inr (Nat.le_refl _)) _)
      exact hO1.trans k2
    | false =>
      rw [hd] at HGt
      rw [if_neg (by simp)]
      by_cases h0 : (r.of nm).length = 0
      · rw [if_pos h0]
        rw [h0] at HOf
        go_enter Tryz.func77, Tryz.ntmps77
        go_wp2_with (first
          | (go_at_call 65; refine (HS.out _).mono ?_; rintro e1 w1 ⟨rfl, rfl⟩)
          | (go_at_call 26; refine (HGt.out _ hO1).mono ?_; rintro e2 w2 ⟨rfl, k2⟩; have hB2 := k2.blk hB1 (by simp))
          | (go_at_call 28; refine (HOf.out _ (hO1.trans k2)).mono ?_; rintro e3 w3 ⟨v3, rfl, hown3, k3⟩; obtain ⟨A3, c3, rfl, -, -⟩ := own_form hown3; have hB3 := k3.blk hB2 (by simp); have hbR := fun i => hB3.cell i; have hbRf := fun i => hB3.free i))
        refine bodyPost_ret (v := .tuple #[.agg #[.slice none 0 0, .int .i64 0, .bool false], .int .i64 8]) (by simp [results, Tryz.results77, go_sem, hbR]) rfl ⟨_, rfl, World.ownsRow_nil _ _ _ _, ?_⟩
        iterate 3 (refine Only.setCell ?_ (.inr (Nat.le_refl _)) _)
        exact (hO1.trans k2).trans k3
      · rw [if_neg h0]
        obtain ⟨l, hl⟩ : ∃ l, r.seenD nm = l := ⟨_, rfl⟩
        rw [hl] at HSn hfew hk2 ⊢
        obtain ⟨ol, hol⟩ : ∃ ol, (r.of nm).length = ol := ⟨_, rfl⟩
        rw [hol] at HOf h0 hofl
        have h0b : ((ol : Int) == 0) = false := by rw [beq_eq_false_iff_ne]; omega
        have HPg := Lib.hid fun (W : World) (v kv : Value) (hv : Slc W 8 v l.length (l.flatMap StoredR.cells)) (hkv : Slc W 1 kv (l.map StoredR.version).length (ints (l.map StoredR.version))) => dpage_any (f := f) (n := n) back hv hkv hfew hk2
        obtain ⟨R, hR⟩ : ∃ R, pageBy StoredR.version l f n back = R := ⟨_, rfl⟩
        rw [hR] at HPg ⊢
        clear hR hl hol hk2
        go_enter Tryz.func77, Tryz.ntmps77
        go_wp2_with (first
          | (go_at_call 65; refine (HS.out _).mono ?_; rintro e1 w1 ⟨rfl, rfl⟩)
          | (go_at_call 26; refine (HGt.out _ hO1).mono ?_; rintro e2 w2 ⟨rfl, k2⟩; have hB2 := k2.blk hB1 (by simp))
          | (go_at_call 28; refine (HOf.out _ (hO1.trans k2)).mono ?_; rintro e3 w3 ⟨v3, rfl, hown3, k3⟩; obtain ⟨A3, c3, rfl, -, -⟩ := own_form hown3; have hB3 := k3.blk hB2 (by simp))
          | (go_at_call 106; refine (HSn.out _ ((hO1.trans k2).trans k3)).mono ?_; rintro e4 w4 ⟨v4, rfl, hown4, k4⟩; have hB4 := k4.blk hB3 (by simp)))
        have hO4 : Only [] w w4 := ((hO1.trans k2).trans k3).trans k4
        have hl4 := (Slc.of_own hown4).1
        obtain ⟨A, cap, rfl, hnc, hcm, hel⟩ := hl4.openE StoredR.cells (fun _ => rfl)
        unfold maxLen at hcm
        have HL4 := Lib.hid hl4
        clear hl4 hown4
        go_loopw [13, 14] (fun o i wr => ∃ (k : Nat) (B : Option Addr) (kc : Nat), k ≤ l.length ∧ i = .int .i64 k ∧ o = .slice B k kc ∧ wr.ownsRow w4.heap.size 3 1 (.slice B k kc) ((l.take k).map StoredR.version).length (ints ((l.take k).map StoredR.version)) ∧ Only [] w4 wr) (fun _ i _ => l.length - (intOf i).toNat)
        case atStart => exact ⟨0, none, 0, Nat.zero_le _, rfl, rfl, World.ownsRow_nil _ _ _ _, Only.refl _ _⟩
        case round =>
          obtain ⟨k, B, kc, hk, rfl, rfl, hown, hO⟩ := hrel
          by_cases hlt : k < l.length
          · obtain ⟨b, off, rfl, hbb, hcc⟩ := hel k hlt
            obtain ⟨x, hx⟩ : ∃ x, x = l[k] := ⟨_, rfl⟩
            rw [← hx] at hcc
            have c5 : wr.cell? ⟨b, off + k * 8 + 5, none⟩ = some (.int .i64 x.version) := (hO.cell hbb (by simp)).trans (hcc 5 (by omega))
            have htk : (l.take (k + 1)).map StoredR.version = (l.take k).map StoredR.version ++ [x.version] := by rw [List.take_succ_eq_append_getElem hlt, List.map_append, hx]; rfl
            have HTK := Lib.hid htk
            have hlk : ((l.take k).map StoredR.version).length = k := by simp; omega
            obtain ⟨A5, c5', w5, hr5, hown5, hO5⟩ := appI (W := wr) (base := w4.heap.size) hown hO.size (by omega) x.version
            rw [hlk] at hr5 hown5
            have HR5 := Lib.hid hr5
            have hb3 := fun g hg => (World.ownsRow.lt hown g hg).1
            have hO6 : Only [] w4 w5 := (hO.alloc _).step hO5 (fun g hg => .inr (hb3 g (by simpa using hg)))
            clear hr5 htk hx hcc hel
            go_wp2_with (at_builtin; refine Lib.wpList_append_run _ rfl (.tmp 51) (.tmp 57) 48 48 rfl _ _ rfl rfl _ _ HR5.out ?_)
            go_round
            case rel =>
              refine ⟨k + 1, A5, c5', hlt, by simp, rfl, ?_, hO6⟩
              rw [HTK.out]
              exact hown5
            case measure => simp [intOf]; omega
          · have hkl : k = l.length := by omega
            subst hkl
            rw [List.take_length] at hown
            have HC := Lib.hid (HPg.out wr _ _ (HL4.out.only0 hO) (Slc.of_own hown).1)
            have hR := hO.blk hB4 (by simp)
            have hOw := hO4.trans hO
            clear hel HPg
            go_wp2_with (go_at_call 107; refine HC.out.mono ?_; rintro e w6 ⟨pv, rfl, hownp, k6⟩; obtain ⟨Ap, capp, rfl, hap1, hap2⟩ := own_form hownp; have hR2 := k6.blk hR (by simp); have hbR := fun i => hR2.cell i; have hbRf := fun i => hR2.free i)
            refine bodyPost_ret (v := .tuple #[.agg #[.slice Ap R.1.events.length capp, .int .i64 R.1.next, .bool R.1.isEnd], .int .i64 R.2]) (by simp [results, Tryz.results77, go_sem, hbR]) rfl ⟨_, rfl, ?own, ?only⟩
            case own =>
              refine own_only (own_base hownp hOw.size) (S := [w.heap.size]) ?_ (fun g hg => by
                have h1 := (hownp.lt g hg).1
                have h2 := hR.lt
                simp; omega)
              iterate 3 (refine Only.setCell ?_ (.inl (by simp)) _)
              exact Only.refl _ _
            case only =>
              iterate 3 (refine Only.setCell ?_ (.inr (Nat.le_refl _)) _)
              exact hOw.trans k6
end
end
section
open Go Go.RowKit Go.Sort
theorem Alike.fine {s : MS} {r : RS} {N : Nat} (h : Alike s r) (ok : s.Ok N) (hN : N ≤ 100000) : r.Fine := by
  have ha := ok.all
  have hl : r.l.length = s.all.length := by rw [h.l]
  refine ⟨by omega, fun n => ?_, fun n => ?_, ?_⟩
  · rw [h.mt]
    exact (ok.find n).1
  · have h1 := h.kept n
    have h2 := ok.find n
    have h3 := floorS_bd s n
    omega
  · rw [h.now]
    exact ok.now
end
section
open Go Go.RowKit Go.Sort
set_option maxRecDepth 100000 in
theorem r7validE_any (e : EventR) (w : World) (hs : e.type.size ≤ maxLen ∧ e.data.size ≤ maxLen) : Calls Tryz.prog 66 #[.agg #[.int .i64 e.id, .string e.type, .string e.data, .float .f64 e.value]] w fun e1 w' => e1 = .returned (.bool e.ok) ∧ Only [] w w' := by
  have HS := Lib.hid (fun W => r1stream_any e.type W hs.1)
  have hd := hs.2
  unfold maxLen at hd
  have hO := (Only.refl [] w).alloc (.cells #[.int .i64 e.id, .string e.type, .string e.data, .float .f64 e.value] 90)
  have HO := Lib.hid hO
  clear hO hs
  by_cases h1 : e.id ≥ 1
  · have q1 : decide (e.id ≥ 1) = true := decide_eq_true h1
    cases h2 : nameOk e.type with
    | false =>
      rw [h2] at HS
      have hr : e.ok = false := by unfold EventR.ok; rw [h2]; simp
      rw [hr]
      clear hr h2
      go_enter Tryz.func66, Tryz.ntmps66
      go_wp2_with (go_at_call 65; refine (HS.out _).mono ?_; rintro e1 w1 ⟨rfl, rfl⟩)
      go_ret
      exact ⟨rfl, HO.out⟩
    | true =>
      rw [h2] at HS
      obtain ⟨bb, hbb⟩ : ∃ bb, decide (e.data.size ≤ 200) = bb := ⟨_, rfl⟩
      have hr : e.ok = bb := by unfold EventR.ok; rw [h2, ← hbb, decide_eq_true (show 1 ≤ e.id from h1)]; simp
      rw [hr]
      clear hr h2
      cases bb with
      | true =>
        have h3 : e.data.size ≤ 200 := by simpa using hbb
        have q3 : decide ((e.data.size : Int) ≤ 200) = true := decide_eq_true (by omega)
        clear hbb
        go_enter Tryz.func66, Tryz.ntmps66
        go_wp2_with (go_at_call 65; refine (HS.out _).mono ?_; rintro e1 w1 ⟨rfl, rfl⟩)
        go_ret
        exact ⟨rfl, HO.out⟩
      | false =>
        have h3 : ¬ e.data.size ≤ 200 := by simpa using hbb
        have q3 : decide ((e.data.size : Int) ≤ 200) = false := decide_eq_false (by omega)
        clear hbb
        go_enter Tryz.func66, Tryz.ntmps66
        go_wp2_with (go_at_call 65; refine (HS.out _).mono ?_; rintro e1 w1 ⟨rfl, rfl⟩)
        go_ret
        exact ⟨rfl, HO.out⟩
  · have q1 : decide (e.id ≥ 1) = false := decide_eq_false h1
    have hr : e.ok = false := by unfold EventR.ok; rw [decide_eq_false (show ¬ 1 ≤ e.id by omega)]; simp
    rw [hr]
    clear hr
    go_enter Tryz.func66, Tryz.ntmps66
    go_wp2
    go_ret
    exact ⟨rfl, HO.out⟩
set_option maxRecDepth 100000 in
theorem r7meta_any (m : MetaR) (w : World) : Calls Tryz.prog 67 #[.agg #[.int .i64 m.maxCount, .int .i64 m.maxAge, .int .i64 m.before]] w fun e w' => e = .returned (.bool m.ok) ∧ Only [] w w' := by
  obtain ⟨a, b, d⟩ := m
  dsimp only
  have hO := (Only.refl [] w).alloc (.cells #[.int .i64 a, .int .i64 b, .int .i64 d] 38)
  have HO := Lib.hid hO
  clear hO
  go_enter Tryz.func67, Tryz.ntmps67
  go_wp2
  all_goals
    go_ret
    refine ⟨ret_b ?_, HO.out⟩
    clear HO
    simp_all [MetaR.ok, within]
  all_goals omega
set_option maxRecDepth 100000 in
set_option maxHeartbeats 8000000 in
theorem r7check_not1 (c : Cmd) (hk1 : c.kind ≠ 1) (v : Value) (w : World) (hs : Slc w 4 v c.events.length (c.events.flatMap EventR.cells)) (ho : CmdOk c) :
    Calls Tryz.prog 25 #[c.val v] w fun e w' => e = .returned (.int .i64 c.check) ∧ Only [] w w' := by
  obtain ⟨A, cap, rfl, hnc, hcm, hel⟩ := hs.openE EventR.cells (fun _ => rfl)
  obtain ⟨ho1, ho2⟩ := ho
  obtain ⟨kind, time, stream, ex, l, a, b, d⟩ := c
  have hl : l.length ≤ 9223372036854775807 := by unfold maxLen at hcm; exact Nat.le_trans hnc (by omega)
  have HS := Lib.hid (fun W => r1stream_any stream W ho1)
  have HM := Lib.hid (fun W => r7meta_any ⟨a, b, d⟩ W)
  have hO1 := (Only.refl [] w).alloc (.cells #[.int .i64 kind, .int .i64 time, .string stream, .int .i64 ex, .slice A l.length cap, .int .i64 a, .int .i64 b, .int .i64 d] 40)
  have HL := Lib.hid hO1
  simp only [Cmd.val] at hel ⊢
  dsimp only at HM
  by_cases hk : 1 ≤ kind ∧ kind ≤ 5
  · have hk' : kind = 1 ∨ kind = 2 ∨ kind = 3 ∨ kind = 4 ∨ kind = 5 := by omega
    rcases hk' with rfl | rfl | rfl | rfl | rfl
    · exact absurd rfl hk1
    · clear hk hO1 hs hel ho2 hk1
      by_cases t1 : time < 0
      · have t1' : decide (time < 0) = true := decide_eq_true t1
        go_enter Tryz.func25, Tryz.ntmps25
        go_wp2
        go_ret
        refine ⟨ret_i ?_, HL.out⟩
        clear HS HM HL
        simp [Cmd.check, within]; omega
      have t1' : decide (time < 0) = false := decide_eq_false t1
      by_cases t2 : time > 1099511627776
      · have t2' : decide (time > 1099511627776) = true := decide_eq_true t2
        go_enter Tryz.func25, Tryz.ntmps25
        go_wp2
        go_ret
        refine ⟨ret_i ?_, HL.out⟩
        clear HS HM HL
        simp [Cmd.check, within]; omega
      have t2' : decide (time > 1099511627776) = false := decide_eq_false t2
      have hw : within time = true := by simp [within]; omega
      cases hnm : nameOk stream with
      | false =>
        rw [hnm] at HS
        go_enter Tryz.func25, Tryz.ntmps25
        go_wp2_with (go_at_call 65; refine (HS.out _).mono ?_; rintro e9 w9 ⟨rfl, rfl⟩)
        go_ret
        refine ⟨ret_i ?_, HL.out⟩
        clear HS HM HL
        simp [Cmd.check, hw, hnm]
      | true =>
      rw [hnm] at HS
      cases hmo : (⟨a, b, d⟩ : MetaR).ok with
      | false =>
        rw [hmo] at HM
        go_enter Tryz.func25, Tryz.ntmps25
        go_wp2_with (first
          | (go_at_call 65; refine (HS.out _).mono ?_; rintro e9 w9 ⟨rfl, rfl⟩)
          | (go_at_call 67; refine (HM.out _).mono ?_; rintro e8 w8 ⟨rfl, hw8⟩; have hq8 := fun i => (hw8.blk (Blk.new w 40 _) (by simp)).cell i))
        go_ret
        refine ⟨ret_i ?_, HL.out.trans hw8⟩
        clear HS HM HL hq8 hw8
        simp [Cmd.check, hw, hnm, hmo]
      | true =>
      rw [hmo] at HM
      by_cases e1 : 0 < l.length
      · have e1' : decide (0 < l.length) = true := decide_eq_true e1
        have e2' : decide ((l.length : Int) > 0) = true := decide_eq_true (by omega)
        go_enter Tryz.func25, Tryz.ntmps25
        go_wp2_with (first
          | (go_at_call 65; refine (HS.out _).mono ?_; rintro e9 w9 ⟨rfl, rfl⟩)
          | (go_at_call 67; refine (HM.out _).mono ?_; rintro e8 w8 ⟨rfl, hw8⟩; have hq8 := fun i => (hw8.blk (Blk.new w 40 _) (by simp)).cell i))
        go_ret
        refine ⟨ret_i ?_, HL.out.trans hw8⟩
        clear HS HM HL hq8 hw8
        simp [Cmd.check, Cmd.spare, hw, hnm, hmo, e1]
      have e1' : decide (0 < l.length) = false := decide_eq_false e1
      have e2' : decide ((l.length : Int) > 0) = false := decide_eq_false (by omega)
      by_cases x0 : ex = 0
      · subst x0
        go_enter Tryz.func25, Tryz.ntmps25
        go_wp2_with (first
          | (go_at_call 65; refine (HS.out _).mono ?_; rintro e9 w9 ⟨rfl, rfl⟩)
          | (go_at_call 67; refine (HM.out _).mono ?_; rintro e8 w8 ⟨rfl, hw8⟩; have hq8 := fun i => (hw8.blk (Blk.new w 40 _) (by simp)).cell i))
        go_ret
        refine ⟨ret_i ?_, HL.out.trans hw8⟩
        clear HS HM HL hq8 hw8
        simp [Cmd.check, Cmd.spare, hw, hnm, hmo, e1]
      · have x0' : (ex != 0) = true := by simpa using x0
        go_enter Tryz.func25, Tryz.ntmps25
        go_wp2_with (first
          | (go_at_call 65; refine (HS.out _).mono ?_; rintro e9 w9 ⟨rfl, rfl⟩)
          | (go_at_call 67; refine (HM.out _).mono ?_; rintro e8 w8 ⟨rfl, hw8⟩; have hq8 := fun i => (hw8.blk (Blk.new w 40 _) (by simp)).cell i))
        go_ret
        refine ⟨ret_i ?_, HL.out.trans hw8⟩
        clear HS HM HL hq8 hw8
        simp [Cmd.check, Cmd.spare, hw, hnm, hmo, e1, x0]
    · clear hk hO1 hs hel ho2 hk1
      by_cases t1 : time < 0
      · have t1' : decide (time < 0) = true := decide_eq_true t1
        go_enter Tryz.func25, Tryz.ntmps25
        go_wp2
        go_ret
        refine ⟨ret_i ?_, HL.out⟩
        clear HS HM HL
        simp [Cmd.check, within]; omega
      have t1' : decide (time < 0) = false := decide_eq_false t1
      by_cases t2 : time > 1099511627776
      · have t2' : decide (time > 1099511627776) = true := decide_eq_true t2
        go_enter Tryz.func25, Tryz.ntmps25
        go_wp2
        go_ret
        refine ⟨ret_i ?_, HL.out⟩
        clear HS HM HL
        simp [Cmd.check, within]; omega
      have t2' : decide (time > 1099511627776) = false := decide_eq_false t2
      have hw : within time = true := by simp [within]; omega
      cases hnm : nameOk stream with
      | false =>
        rw [hnm] at HS
        go_enter Tryz.func25, Tryz.ntmps25
        go_wp2_with (go_at_call 65; refine (HS.out _).mono ?_; rintro e9 w9 ⟨rfl, rfl⟩)
        go_ret
        refine ⟨ret_i ?_, HL.out⟩
        clear HS HM HL
        simp [Cmd.check, hw, hnm]
      | true =>
      rw [hnm] at HS
      by_cases x1 : ex = -1
      · subst x1
        have hx : expects (-1) = true := by decide
        by_cases e1 : 0 < l.length
        · have e1' : decide (0 < l.length) = true := decide_eq_true e1
          have e2' : decide ((l.length : Int) > 0) = true := decide_eq_true (by omega)
          go_enter Tryz.func25, Tryz.ntmps25
          go_wp2_with (go_at_call 65; refine (HS.out _).mono ?_; rintro e9 w9 ⟨rfl, rfl⟩)
          go_ret
          refine ⟨ret_i ?_, HL.out⟩
          clear HS HM HL
          simp [Cmd.check, Cmd.spare, hw, hnm, hx, e1]
        have e1' : decide (0 < l.length) = false := decide_eq_false e1
        have e2' : decide ((l.length : Int) > 0) = false := decide_eq_false (by omega)
        by_cases m1 : a = 0
        · subst m1
          by_cases m2 : b = 0
          · subst m2
            by_cases m3 : d = 0
            · subst m3
              go_enter Tryz.func25, Tryz.ntmps25
              go_wp2_with (go_at_call 65; refine (HS.out _).mono ?_; rintro e9 w9 ⟨rfl, rfl⟩)
              go_ret
              refine ⟨ret_i ?_, HL.out⟩
              clear HS HM HL
              simp [Cmd.check, Cmd.spare, hw, hnm, hx, e1, MetaR.zero]
            · have m3' : (d == 0) = false := by simpa using m3
              go_enter Tryz.func25, Tryz.ntmps25
              go_wp2_with (go_at_call 65; refine (HS.out _).mono ?_; rintro e9 w9 ⟨rfl, rfl⟩)
              go_ret
              refine ⟨ret_i ?_, HL.out⟩
              clear HS HM HL
              simp [Cmd.check, Cmd.spare, hw, hnm, hx, e1, MetaR.zero, m3]
          · have m2' : (b == 0) = false := by simpa using m2
            go_enter Tryz.func25, Tryz.ntmps25
            go_wp2_with (go_at_call 65; refine (HS.out _).mono ?_; rintro e9 w9 ⟨rfl, rfl⟩)
            go_ret
            refine ⟨ret_i ?_, HL.out⟩
            clear HS HM HL
            simp [Cmd.check, Cmd.spare, hw, hnm, hx, e1, MetaR.zero, m2]
        · have m1' : (a == 0) = false := by simpa using m1
          go_enter Tryz.func25, Tryz.ntmps25
          go_wp2_with (go_at_call 65; refine (HS.out _).mono ?_; rintro e9 w9 ⟨rfl, rfl⟩)
          go_ret
          refine ⟨ret_i ?_, HL.out⟩
          clear HS HM HL
          simp [Cmd.check, Cmd.spare, hw, hnm, hx, e1, MetaR.zero, m1]
      have b1 : (ex != -1) = true := by rw [bne_iff_ne]; exact x1
      by_cases x2 : ex = -2
      · subst x2
        have hx : expects (-2) = true := by decide
        by_cases e1 : 0 < l.length
        · have e1' : decide (0 < l.length) = true := decide_eq_true e1
          have e2' : decide ((l.length : Int) > 0) = true := decide_eq_true (by omega)
          go_enter Tryz.func25, Tryz.ntmps25
          go_wp2_with (go_at_call 65; refine (HS.out _).mono ?_; rintro e9 w9 ⟨rfl, rfl⟩)
          go_ret
          refine ⟨ret_i ?_, HL.out⟩
          clear HS HM HL
          simp [Cmd.check, Cmd.spare, hw, hnm, hx, e1]
        have e1' : decide (0 < l.length) = false := decide_eq_false e1
        have e2' : decide ((l.length : Int) > 0) = false := decide_eq_false (by omega)
        by_cases m1 : a = 0
        · subst m1
          by_cases m2 : b = 0
          · subst m2
            by_cases m3 : d = 0
            · subst m3
              go_enter Tryz.func25, Tryz.ntmps25
              go_wp2_with (go_at_call 65; refine (HS.out _).mono ?_; rintro e9 w9 ⟨rfl, rfl⟩)
              go_ret
              refine ⟨ret_i ?_, HL.out⟩
              clear HS HM HL
              simp [Cmd.check, Cmd.spare, hw, hnm, hx, e1, MetaR.zero]
            · have m3' : (d == 0) = false := by simpa using m3
              go_enter Tryz.func25, Tryz.ntmps25
              go_wp2_with (go_at_call 65; refine (HS.out _).mono ?_; rintro e9 w9 ⟨rfl, rfl⟩)
              go_ret
              refine ⟨ret_i ?_, HL.out⟩
              clear HS HM HL
              simp [Cmd.check, Cmd.spare, hw, hnm, hx, e1, MetaR.zero, m3]
          · have m2' : (b == 0) = false := by simpa using m2
            go_enter Tryz.func25, Tryz.ntmps25
            go_wp2_with (go_at_call 65; refine (HS.out _).mono ?_; rintro e9 w9 ⟨rfl, rfl⟩)
            go_ret
            refine ⟨ret_i ?_, HL.out⟩
            clear HS HM HL
            simp [Cmd.check, Cmd.spare, hw, hnm, hx, e1, MetaR.zero, m2]
        · have m1' : (a == 0) = false := by simpa using m1
          go_enter Tryz.func25, Tryz.ntmps25
          go_wp2_with (go_at_call 65; refine (HS.out _).mono ?_; rintro e9 w9 ⟨rfl, rfl⟩)
          go_ret
          refine ⟨ret_i ?_, HL.out⟩
          clear HS HM HL
          simp [Cmd.check, Cmd.spare, hw, hnm, hx, e1, MetaR.zero, m1]
      have b2 : (ex != -2) = true := by rw [bne_iff_ne]; exact x2
      by_cases x4 : ex = -4
      · subst x4
        have hx : expects (-4) = true := by decide
        by_cases e1 : 0 < l.length
        · have e1' : decide (0 < l.length) = true := decide_eq_true e1
          have e2' : decide ((l.length : Int) > 0) = true := decide_eq_true (by omega)
          go_enter Tryz.func25, Tryz.ntmps25
          go_wp2_with (go_at_call 65; refine (HS.out _).mono ?_; rintro e9 w9 ⟨rfl, rfl⟩)
          go_ret
          refine ⟨ret_i ?_, HL.out⟩
          clear HS HM HL
          simp [Cmd.check, Cmd.spare, hw, hnm, hx, e1]
        have e1' : decide (0 < l.length) = false := decide_eq_false e1
        have e2' : decide ((l.length : Int) > 0) = false := decide_eq_false (by omega)
        by_cases m1 : a = 0
        · subst m1
          by_cases m2 : b = 0
          · subst m2
            by_cases m3 : d = 0
            · subst m3
              go_enter Tryz.func25, Tryz.ntmps25
              go_wp2_with (go_at_call 65; refine (HS.out _).mono ?_; rintro e9 w9 ⟨rfl, rfl⟩)
              go_ret
              refine ⟨ret_i ?_, HL.out⟩
              clear HS HM HL
              simp [Cmd.check, Cmd.spare, hw, hnm, hx, e1, MetaR.zero]
            · have m3' : (d == 0) = false := by simpa using m3
              go_enter Tryz.func25, Tryz.ntmps25
              go_wp2_with (go_at_call 65; refine (HS.out _).mono ?_; rintro e9 w9 ⟨rfl, rfl⟩)
              go_ret
              refine ⟨ret_i ?_, HL.out⟩
              clear HS HM HL
              simp [Cmd.check, Cmd.spare, hw, hnm, hx, e1, MetaR.zero, m3]
          · have m2' : (b == 0) = false := by simpa using m2
            go_enter Tryz.func25, Tryz.ntmps25
            go_wp2_with (go_at_call 65; refine (HS.out _).mono ?_; rintro e9 w9 ⟨rfl, rfl⟩)
            go_ret
            refine ⟨ret_i ?_, HL.out⟩
            clear HS HM HL
            simp [Cmd.check, Cmd.spare, hw, hnm, hx, e1, MetaR.zero, m2]
        · have m1' : (a == 0) = false := by simpa using m1
          go_enter Tryz.func25, Tryz.ntmps25
          go_wp2_with (go_at_call 65; refine (HS.out _).mono ?_; rintro e9 w9 ⟨rfl, rfl⟩)
          go_ret
          refine ⟨ret_i ?_, HL.out⟩
          clear HS HM HL
          simp [Cmd.check, Cmd.spare, hw, hnm, hx, e1, MetaR.zero, m1]
      have b4 : (ex != -4) = true := by rw [bne_iff_ne]; exact x4
      by_cases y1 : ex < 0
      · have y1' : decide (ex < 0) = true := decide_eq_true y1
        have hx : expects ex = false := by simp [expects, within, x1, x2, x4]; omega
        go_enter Tryz.func25, Tryz.ntmps25
        go_wp2_with (go_at_call 65; refine (HS.out _).mono ?_; rintro e9 w9 ⟨rfl, rfl⟩)
        go_ret
        refine ⟨ret_i ?_, HL.out⟩
        clear HS HM HL
        simp [Cmd.check, hw, hnm, hx]
      have y1' : decide (ex < 0) = false := decide_eq_false y1
      by_cases y2 : ex > 1099511627776
      · have y2' : decide (ex > 1099511627776) = true := decide_eq_true y2
        have hx : expects ex = false := by simp [expects, within, x1, x2, x4]; omega
        go_enter Tryz.func25, Tryz.ntmps25
        go_wp2_with (go_at_call 65; refine (HS.out _).mono ?_; rintro e9 w9 ⟨rfl, rfl⟩)
        go_ret
        refine ⟨ret_i ?_, HL.out⟩
        clear HS HM HL
        simp [Cmd.check, hw, hnm, hx]
      have y2' : decide (ex > 1099511627776) = false := decide_eq_false y2
      have hx : expects ex = true := by simp [expects, within]; omega
      by_cases e1 : 0 < l.length
      · have e1' : decide (0 < l.length) = true := decide_eq_true e1
        have e2' : decide ((l.length : Int) > 0) = true := decide_eq_true (by omega)
        go_enter Tryz.func25, Tryz.ntmps25
        go_wp2_with (go_at_call 65; refine (HS.out _).mono ?_; rintro e9 w9 ⟨rfl, rfl⟩)
        go_ret
        refine ⟨ret_i ?_, HL.out⟩
        clear HS HM HL
        simp [Cmd.check, Cmd.spare, hw, hnm, hx, e1]
      have e1' : decide (0 < l.length) = false := decide_eq_false e1
      have e2' : decide ((l.length : Int) > 0) = false := decide_eq_false (by omega)
      by_cases m1 : a = 0
      · subst m1
        by_cases m2 : b = 0
        · subst m2
          by_cases m3 : d = 0
          · subst m3
            go_enter Tryz.func25, Tryz.ntmps25
            go_wp2_with (go_at_call 65; refine (HS.out _).mono ?_; rintro e9 w9 ⟨rfl, rfl⟩)
            go_ret
            refine ⟨ret_i ?_, HL.out⟩
            clear HS HM HL
            simp [Cmd.check, Cmd.spare, hw, hnm, hx, e1, MetaR.zero]
          · have m3' : (d == 0) = false := by simpa using m3
            go_enter Tryz.func25, Tryz.ntmps25
            go_wp2_with (go_at_call 65; refine (HS.out _).mono ?_; rintro e9 w9 ⟨rfl, rfl⟩)
            go_ret
            refine ⟨ret_i ?_, HL.out⟩
            clear HS HM HL
            simp [Cmd.check, Cmd.spare, hw, hnm, hx, e1, MetaR.zero, m3]
        · have m2' : (b == 0) = false := by simpa using m2
          go_enter Tryz.func25, Tryz.ntmps25
          go_wp2_with (go_at_call 65; refine (HS.out _).mono ?_; rintro e9 w9 ⟨rfl, rfl⟩)
          go_ret
          refine ⟨ret_i ?_, HL.out⟩
          clear HS HM HL
          simp [Cmd.check, Cmd.spare, hw, hnm, hx, e1, MetaR.zero, m2]
      · have m1' : (a == 0) = false := by simpa using m1
        go_enter Tryz.func25, Tryz.ntmps25
        go_wp2_with (go_at_call 65; refine (HS.out _).mono ?_; rintro e9 w9 ⟨rfl, rfl⟩)
        go_ret
        refine ⟨ret_i ?_, HL.out⟩
        clear HS HM HL
        simp [Cmd.check, Cmd.spare, hw, hnm, hx, e1, MetaR.zero, m1]
    · clear hk hO1 hs hel ho2 hk1
      by_cases t1 : time < 0
      · have t1' : decide (time < 0) = true := decide_eq_true t1
        go_enter Tryz.func25, Tryz.ntmps25
        go_wp2
        go_ret
        refine ⟨ret_i ?_, HL.out⟩
        clear HS HM HL
        simp [Cmd.check, within]; omega
      have t1' : decide (time < 0) = false := decide_eq_false t1
      by_cases t2 : time > 1099511627776
      · have t2' : decide (time > 1099511627776) = true := decide_eq_true t2
        go_enter Tryz.func25, Tryz.ntmps25
        go_wp2
        go_ret
        refine ⟨ret_i ?_, HL.out⟩
        clear HS HM HL
        simp [Cmd.check, within]; omega
      have t2' : decide (time > 1099511627776) = false := decide_eq_false t2
      have hw : within time = true := by simp [within]; omega
      by_cases e1 : 0 < l.length
      · have e1' : decide (0 < l.length) = true := decide_eq_true e1
        have e2' : decide ((l.length : Int) > 0) = true := decide_eq_true (by omega)
        go_enter Tryz.func25, Tryz.ntmps25
        go_wp2
        go_ret
        refine ⟨ret_i ?_, HL.out⟩
        clear HS HM HL
        simp [Cmd.check, Cmd.spare, hw, e1]
      have e1' : decide (0 < l.length) = false := decide_eq_false e1
      have e2' : decide ((l.length : Int) > 0) = false := decide_eq_false (by omega)
      by_cases m1 : a = 0
      · subst m1
        by_cases m2 : b = 0
        · subst m2
          by_cases m3 : d = 0
          · subst m3
            by_cases x0 : ex = 0
            · subst x0
              cases st : stream.toList.isEmpty with
              | true =>
                go_enter Tryz.func25, Tryz.ntmps25
                go_wp2
                go_ret
                refine ⟨ret_i ?_, HL.out⟩
                clear HS HM HL
                simp [Cmd.check, Cmd.spare, hw, e1, MetaR.zero]; simpa using st
              | false =>
                go_enter Tryz.func25, Tryz.ntmps25
                go_wp2
                go_ret
                refine ⟨ret_i ?_, HL.out⟩
                clear HS HM HL
                simp [Cmd.check, Cmd.spare, hw, e1, MetaR.zero]; simpa using st
            · have x0' : (ex != 0) = true := by simpa using x0
              go_enter Tryz.func25, Tryz.ntmps25
              go_wp2
              go_ret
              refine ⟨ret_i ?_, HL.out⟩
              clear HS HM HL
              simp [Cmd.check, Cmd.spare, hw, e1, x0]
          · have m3' : (d == 0) = false := by simpa using m3
            go_enter Tryz.func25, Tryz.ntmps25
            go_wp2
            go_ret
            refine ⟨ret_i ?_, HL.out⟩
            clear HS HM HL
            simp [Cmd.check, Cmd.spare, hw, e1, MetaR.zero, m3]
        · have m2' : (b == 0) = false := by simpa using m2
          go_enter Tryz.func25, Tryz.ntmps25
          go_wp2
          go_ret
          refine ⟨ret_i ?_, HL.out⟩
          clear HS HM HL
          simp [Cmd.check, Cmd.spare, hw, e1, MetaR.zero, m2]
      · have m1' : (a == 0) = false := by simpa using m1
        go_enter Tryz.func25, Tryz.ntmps25
        go_wp2
        go_ret
        refine ⟨ret_i ?_, HL.out⟩
        clear HS HM HL
        simp [Cmd.check, Cmd.spare, hw, e1, MetaR.zero, m1]
    · clear hk hO1 hs hel ho2 hk1
      by_cases t1 : time < 0
      · have t1' : decide (time < 0) = true := decide_eq_true t1
        go_enter Tryz.func25, Tryz.ntmps25
        go_wp2
        go_ret
        refine ⟨ret_i ?_, HL.out⟩
        clear HS HM HL
        simp [Cmd.check, within]; omega
      have t1' : decide (time < 0) = false := decide_eq_false t1
      by_cases t2 : time > 1099511627776
      · have t2' : decide (time > 1099511627776) = true := decide_eq_true t2
        go_enter Tryz.func25, Tryz.ntmps25
        go_wp2
        go_ret
        refine ⟨ret_i ?_, HL.out⟩
        clear HS HM HL
        simp [Cmd.check, within]; omega
      have t2' : decide (time > 1099511627776) = false := decide_eq_false t2
      have hw : within time = true := by simp [within]; omega
      by_cases e1 : 0 < l.length
      · have e1' : decide (0 < l.length) = true := decide_eq_true e1
        have e2' : decide ((l.length : Int) > 0) = true := decide_eq_true (by omega)
        go_enter Tryz.func25, Tryz.ntmps25
        go_wp2
        go_ret
        refine ⟨ret_i ?_, HL.out⟩
        clear HS HM HL
        simp [Cmd.check, Cmd.spare, hw, e1]
      have e1' : decide (0 < l.length) = false := decide_eq_false e1
      have e2' : decide ((l.length : Int) > 0) = false := decide_eq_false (by omega)
      by_cases m1 : a = 0
      · subst m1
        by_cases m2 : b = 0
        · subst m2
          by_cases m3 : d = 0
          · subst m3
            by_cases x0 : ex = 0
            · subst x0
              cases st : stream.toList.isEmpty with
              | true =>
                go_enter Tryz.func25, Tryz.ntmps25
                go_wp2
                go_ret
                refine ⟨ret_i ?_, HL.out⟩
                clear HS HM HL
                simp [Cmd.check, Cmd.spare, hw, e1, MetaR.zero]; simpa using st
              | false =>
                go_enter Tryz.func25, Tryz.ntmps25
                go_wp2
                go_ret
                refine ⟨ret_i ?_, HL.out⟩
                clear HS HM HL
                simp [Cmd.check, Cmd.spare, hw, e1, MetaR.zero]; simpa using st
            · have x0' : (ex != 0) = true := by simpa using x0
              go_enter Tryz.func25, Tryz.ntmps25
              go_wp2
              go_ret
              refine ⟨ret_i ?_, HL.out⟩
              clear HS HM HL
              simp [Cmd.check, Cmd.spare, hw, e1, x0]
          · have m3' : (d == 0) = false := by simpa using m3
            go_enter Tryz.func25, Tryz.ntmps25
            go_wp2
            go_ret
            refine ⟨ret_i ?_, HL.out⟩
            clear HS HM HL
            simp [Cmd.check, Cmd.spare, hw, e1, MetaR.zero, m3]
        · have m2' : (b == 0) = false := by simpa using m2
          go_enter Tryz.func25, Tryz.ntmps25
          go_wp2
          go_ret
          refine ⟨ret_i ?_, HL.out⟩
          clear HS HM HL
          simp [Cmd.check, Cmd.spare, hw, e1, MetaR.zero, m2]
      · have m1' : (a == 0) = false := by simpa using m1
        go_enter Tryz.func25, Tryz.ntmps25
        go_wp2
        go_ret
        refine ⟨ret_i ?_, HL.out⟩
        clear HS HM HL
        simp [Cmd.check, Cmd.spare, hw, e1, MetaR.zero, m1]
  · have hck : (Cmd.mk kind time stream ex l ⟨a, b, d⟩).check = 1 := by unfold Cmd.check; rw [if_pos (by simp only []; omega)]
    rw [hck]
    clear hck hO1 hs hel ho2
    go_enter Tryz.func25, Tryz.ntmps25
    go_wp2
    all_goals
      go_ret
      exact ⟨rfl, HL.out⟩
end
section
open Go Go.RowKit Go.Sort
theorem eventsE_bad {l : List EventR} {k : Nat} (h1 : 0 < l.length) (h8 : l.length ≤ 8) (hk : k < l.length) (hb : l[k].ok = false) : eventsE l = 1 := by
  unfold eventsE
  rw [if_neg (by omega), if_neg (by omega), if_neg]
  intro q
  have := List.all_eq_true.1 q _ (List.getElem_mem hk)
  rw [hb] at this
  cases this
theorem eventsE_good {l : List EventR} (h1 : 0 < l.length) (h8 : l.length ≤ 8) (h : l.all EventR.ok = true) : eventsE l = 0 := by
  unfold eventsE
  rw [if_neg (by omega), if_neg (by omega), if_pos h]
set_option maxRecDepth 100000 in
set_option maxHeartbeats 8000000 in
theorem r7check_1 (time : Int) (stream : ByteArray) (ex : Int) (l : List EventR) (a b d : Int) (v : Value) (w : World) (hs : Slc w 4 v l.length (l.flatMap EventR.cells)) (ho1 : stream.size ≤ maxLen) (ho2 : EvsOk l) :
    Calls Tryz.prog 25 #[.agg #[.int .i64 1, .int .i64 time, .string stream, .int .i64 ex, v, .int .i64 a, .int .i64 b, .int .i64 d]] w fun e w' => e = .returned (.int .i64 (Cmd.mk 1 time stream ex l ⟨a, b, d⟩).check) ∧ Only [] w w' := by
  obtain ⟨A, cap, rfl, hnc, hcm, hel⟩ := hs.openE EventR.cells (fun _ => rfl)
  have hl : l.length ≤ 9223372036854775807 := by unfold maxLen at hcm; exact Nat.le_trans hnc (by omega)
  have HS := Lib.hid (fun W => r1stream_any stream W ho1)
  have HM := Lib.hid (trivial : True)
  obtain ⟨W1, hW1⟩ : ∃ W1, W1 = w.alloc (.cells #[.int .i64 1, .int .i64 time, .string stream, .int .i64 ex, .slice A l.length cap, .int .i64 a, .int .i64 b, .int .i64 d] 40) := ⟨_, rfl⟩
  have hB := Blk.new w 40 #[.int .i64 1, .int .i64 time, .string stream, .int .i64 ex, .slice A l.length cap, .int .i64 a, .int .i64 b, .int .i64 d]
  have hO1 := (Only.refl [] w).alloc (.cells #[.int .i64 1, .int .i64 time, .string stream, .int .i64 ex, .slice A l.length cap, .int .i64 a, .int .i64 b, .int .i64 d] 40)
  have HL := Lib.hid hO1
  rw [← hW1] at hB
  have hO1' : Only [] w W1 := by rw [hW1]; exact hO1
  have HW := Lib.hid hW1
  have HEv := Lib.hid ho2
  clear hW1 hO1 hs hcm ho2
  by_cases t1 : time < 0
  · have t1' : decide (time < 0) = true := decide_eq_true t1
    go_enter Tryz.func25, Tryz.ntmps25
    go_wp2
    go_ret
    refine ⟨ret_i ?_, HL.out⟩
    clear HS HM HL
    simp [Cmd.check, within]; omega
  have t1' : decide (time < 0) = false := decide_eq_false t1
  by_cases t2 : time > 1099511627776
  · have t2' : decide (time > 1099511627776) = true := decide_eq_true t2
    go_enter Tryz.func25, Tryz.ntmps25
    go_wp2
    go_ret
    refine ⟨ret_i ?_, HL.out⟩
    clear HS HM HL
    simp [Cmd.check, within]; omega
  have t2' : decide (time > 1099511627776) = false := decide_eq_false t2
  have hw : within time = true := by simp [within]; omega
  cases hnm : nameOk stream with
  | false =>
    rw [hnm] at HS
    go_enter Tryz.func25, Tryz.ntmps25
    go_wp2_with (go_at_call 65; refine (HS.out _).mono ?_; rintro e9 w9 ⟨rfl, rfl⟩)
    go_ret
    refine ⟨ret_i ?_, HL.out⟩
    clear HS HM HL
    simp [Cmd.check, hw, hnm]
  | true =>
  rw [hnm] at HS
  by_cases e0 : l = []
  · subst e0
    go_enter Tryz.func25, Tryz.ntmps25
    go_wp2_with (go_at_call 65; refine (HS.out _).mono ?_; rintro e9 w9 ⟨rfl, rfl⟩)
    go_ret
    refine ⟨ret_i ?_, HL.out⟩
    clear HS HM HL
    simp [Cmd.check, hw, hnm, eventsE]
  have e0' : 0 < l.length := by cases l with
    | nil => exact absurd rfl e0
    | cons x l => simp
  have e1 : ((l.length : Int) == 0) = false := by simp; exact e0
  by_cases e8 : 8 < l.length
  · have e8' : decide ((l.length : Int) > 8) = true := decide_eq_true (by omega)
    have hev : eventsE l = 2 := by unfold eventsE; rw [if_neg (by omega), if_pos e8]
    go_enter Tryz.func25, Tryz.ntmps25
    go_wp2_with (go_at_call 65; refine (HS.out _).mono ?_; rintro e9 w9 ⟨rfl, rfl⟩)
    go_ret
    refine ⟨ret_i ?_, HL.out⟩
    clear HS HM HL
    simp [Cmd.check, hw, hnm, hev]
  have e8' : decide ((l.length : Int) > 8) = false := decide_eq_false (by omega)
  go_enter Tryz.func25, Tryz.ntmps25
  go_wp2_with (go_at_call 65; refine (HS.out _).mono ?_; rintro e9 w9 ⟨rfl, rfl⟩)
  rw [← HW.out]
  go_loopw [3] (fun i wr => ∃ k : Nat, k ≤ l.length ∧ i = .int .i64 k ∧ Only [] W1 wr ∧ Hid ((l.take k).all EventR.ok = true)) (fun i _ => l.length - (intOf i).toNat)
  case atStart => exact ⟨0, Nat.zero_le _, rfl, Only.refl _ _, Lib.hid (by simp)⟩
  case round =>
    obtain ⟨k, hk, rfl, hO, hall⟩ := hrel
    have hq := fun i => (hO.blk hB (by simp)).cell i
    by_cases hlt : k < l.length
    · obtain ⟨bb, off, rfl, hbb, hcc⟩ := hel k hlt
      have htk := all_takeE (l := l) (f := EventR.ok) k hlt
      have hev := HEv.out _ (List.getElem_mem hlt)
      have hbad := fun hb => eventsE_bad e0' (by omega) hlt hb
      obtain ⟨x, hx⟩ : ∃ x, l[k] = x := ⟨_, rfl⟩
      rw [hx] at hcc htk hev hbad
      have hOw : Only [] w wr := hO1'.trans hO
      have c0 : wr.cell? ⟨bb, off + k * 4, none⟩ = some (.int .i64 x.id) := (hOw.cell (p := ⟨bb, off + k * 4, none⟩) hbb (by simp)).trans (hcc 0 (by omega))
      have c1 : wr.cell? ⟨bb, off + k * 4 + 1, none⟩ = some (.string x.type) := (hOw.cell (p := ⟨bb, off + k * 4 + 1, none⟩) hbb (by simp)).trans (hcc 1 (by omega))
      have c2 : wr.cell? ⟨bb, off + k * 4 + 2, none⟩ = some (.string x.data) := (hOw.cell (p := ⟨bb, off + k * 4 + 2, none⟩) hbb (by simp)).trans (hcc 2 (by omega))
      have c3 : wr.cell? ⟨bb, off + k * 4 + 3, none⟩ = some (.float .f64 x.value) := (hOw.cell (p := ⟨bb, off + k * 4 + 3, none⟩) hbb (by simp)).trans (hcc 3 (by omega))
      have HV := Lib.hid fun (W : World) => r7validE_any x W hev
      clear hcc hx hev
      cases hb : x.ok with
      | false =>
        rw [hb] at HV
        have hev := hbad hb
        have HR : Hid ((Cmd.mk 1 time stream ex l ⟨a, b, d⟩).check = 1) := by simp [Hid, Cmd.check, hw, hnm, hev]
        clear hbad htk hb hev
        go_wp2_with (go_at_call 66; refine (HV.out _).mono ?_; rintro e8 w8 ⟨rfl, hw8⟩)
        go_ret
        exact ⟨ret_i HR.out.symm, hOw.trans hw8⟩
      | true =>
        rw [hb] at HV
        have hn : Hid ((l.take (k + 1)).all EventR.ok = true) := by unfold Hid; rw [htk, hall.out, hb]; rfl
        clear hbad htk hb hall
        go_wp2_with (go_at_call 66; refine (HV.out _).mono ?_; rintro e8 w8 ⟨rfl, hw8⟩)
        go_round
        case rel => exact ⟨k + 1, hlt, by simp, hO.trans hw8, hn⟩
        case measure => simp [intOf]; omega
    · have hkl : k = l.length := by omega
      have hall' : l.all EventR.ok = true := by
        have := hall.out
        rw [List.take_of_length_le (by omega)] at this
        exact this
      have hev : eventsE l = 0 := eventsE_good e0' (by omega) hall'
      have HO2 := Lib.hid (hO1'.trans hO)
      have HV := Lib.hid (trivial : True)
      have hkd : decide ((k : Int) < (l.length : Int)) = false := decide_eq_false (by omega)
      have hkd2 : decide (k < l.length) = false := decide_eq_false (by omega)
      clear hall hall' hel hB hO1' hO HEv hk hlt hkl e0 e0' e8
      by_cases x1 : ex = -1
      · subst x1
        have hx : expects (-1) = true := by decide
        by_cases m1 : a = 0
        · subst m1
          by_cases m2 : b = 0
          · subst m2
            by_cases m3 : d = 0
            · subst m3
              go_wp2
              go_ret
              refine ⟨ret_i ?_, HO2.out⟩
              clear HS HV HL HO2 hq
              simp [Cmd.check, Cmd.spare, hw, hnm, hx, hev, MetaR.zero]
            · have m3' : (d == 0) = false := by simpa using m3
              go_wp2
              go_ret
              refine ⟨ret_i ?_, HO2.out⟩
              clear HS HV HL HO2 hq
              simp [Cmd.check, Cmd.spare, hw, hnm, hx, hev, MetaR.zero, m3]
          · have m2' : (b == 0) = false := by simpa using m2
            go_wp2
            go_ret
            refine ⟨ret_i ?_, HO2.out⟩
            clear HS HV HL HO2 hq
            simp [Cmd.check, Cmd.spare, hw, hnm, hx, hev, MetaR.zero, m2]
        · have m1' : (a == 0) = false := by simpa using m1
          go_wp2
          go_ret
          refine ⟨ret_i ?_, HO2.out⟩
          clear HS HV HL HO2 hq
          simp [Cmd.check, Cmd.spare, hw, hnm, hx, hev, MetaR.zero, m1]
      have b1 : (ex != -1) = true := by rw [bne_iff_ne]; exact x1
      by_cases x2 : ex = -2
      · subst x2
        have hx : expects (-2) = true := by decide
        by_cases m1 : a = 0
        · subst m1
          by_cases m2 : b = 0
          · subst m2
            by_cases m3 : d = 0
            · subst m3
              go_wp2
              go_ret
              refine ⟨ret_i ?_, HO2.out⟩
              clear HS HV HL HO2 hq
              simp [Cmd.check, Cmd.spare, hw, hnm, hx, hev, MetaR.zero]
            · have m3' : (d == 0) = false := by simpa using m3
              go_wp2
              go_ret
              refine ⟨ret_i ?_, HO2.out⟩
              clear HS HV HL HO2 hq
              simp [Cmd.check, Cmd.spare, hw, hnm, hx, hev, MetaR.zero, m3]
          · have m2' : (b == 0) = false := by simpa using m2
            go_wp2
            go_ret
            refine ⟨ret_i ?_, HO2.out⟩
            clear HS HV HL HO2 hq
            simp [Cmd.check, Cmd.spare, hw, hnm, hx, hev, MetaR.zero, m2]
        · have m1' : (a == 0) = false := by simpa using m1
          go_wp2
          go_ret
          refine ⟨ret_i ?_, HO2.out⟩
          clear HS HV HL HO2 hq
          simp [Cmd.check, Cmd.spare, hw, hnm, hx, hev, MetaR.zero, m1]
      have b2 : (ex != -2) = true := by rw [bne_iff_ne]; exact x2
      by_cases x4 : ex = -4
      · subst x4
        have hx : expects (-4) = true := by decide
        by_cases m1 : a = 0
        · subst m1
          by_cases m2 : b = 0
          · subst m2
            by_cases m3 : d = 0
            · subst m3
              go_wp2
              go_ret
              refine ⟨ret_i ?_, HO2.out⟩
              clear HS HV HL HO2 hq
              simp [Cmd.check, Cmd.spare, hw, hnm, hx, hev, MetaR.zero]
            · have m3' : (d == 0) = false := by simpa using m3
              go_wp2
              go_ret
              refine ⟨ret_i ?_, HO2.out⟩
              clear HS HV HL HO2 hq
              simp [Cmd.check, Cmd.spare, hw, hnm, hx, hev, MetaR.zero, m3]
          · have m2' : (b == 0) = false := by simpa using m2
            go_wp2
            go_ret
            refine ⟨ret_i ?_, HO2.out⟩
            clear HS HV HL HO2 hq
            simp [Cmd.check, Cmd.spare, hw, hnm, hx, hev, MetaR.zero, m2]
        · have m1' : (a == 0) = false := by simpa using m1
          go_wp2
          go_ret
          refine ⟨ret_i ?_, HO2.out⟩
          clear HS HV HL HO2 hq
          simp [Cmd.check, Cmd.spare, hw, hnm, hx, hev, MetaR.zero, m1]
      have b4 : (ex != -4) = true := by rw [bne_iff_ne]; exact x4
      by_cases y1 : ex < 0
      · have y1' : decide (ex < 0) = true := decide_eq_true y1
        have hx : expects ex = false := by simp [expects, within, x1, x2, x4]; omega
        go_wp2
        go_ret
        refine ⟨ret_i ?_, HO2.out⟩
        clear HS HV HL HO2 hq
        simp [Cmd.check, hw, hnm, hev, hx]
      have y1' : decide (ex < 0) = false := decide_eq_false y1
      by_cases y2 : ex > 1099511627776
      · have y2' : decide (ex > 1099511627776) = true := decide_eq_true y2
        have hx : expects ex = false := by simp [expects, within, x1, x2, x4]; omega
        go_wp2
        go_ret
        refine ⟨ret_i ?_, HO2.out⟩
        clear HS HV HL HO2 hq
        simp [Cmd.check, hw, hnm, hev, hx]
      have y2' : decide (ex > 1099511627776) = false := decide_eq_false y2
      have hx : expects ex = true := by simp [expects, within]; omega
      by_cases m1 : a = 0
      · subst m1
        by_cases m2 : b = 0
        · subst m2
          by_cases m3 : d = 0
          · subst m3
            go_wp2
            go_ret
            refine ⟨ret_i ?_, HO2.out⟩
            clear HS HV HL HO2 hq
            simp [Cmd.check, Cmd.spare, hw, hnm, hx, hev, MetaR.zero]
          · have m3' : (d == 0) = false := by simpa using m3
            go_wp2
            go_ret
            refine ⟨ret_i ?_, HO2.out⟩
            clear HS HV HL HO2 hq
            simp [Cmd.check, Cmd.spare, hw, hnm, hx, hev, MetaR.zero, m3]
        · have m2' : (b == 0) = false := by simpa using m2
          go_wp2
          go_ret
          refine ⟨ret_i ?_, HO2.out⟩
          clear HS HV HL HO2 hq
          simp [Cmd.check, Cmd.spare, hw, hnm, hx, hev, MetaR.zero, m2]
      · have m1' : (a == 0) = false := by simpa using m1
        go_wp2
        go_ret
        refine ⟨ret_i ?_, HO2.out⟩
        clear HS HV HL HO2 hq
        simp [Cmd.check, Cmd.spare, hw, hnm, hx, hev, MetaR.zero, m1]
theorem r7check_any (c : Cmd) (v : Value) (w : World) (hs : Slc w 4 v c.events.length (c.events.flatMap EventR.cells)) (ho : CmdOk c) :
    Calls Tryz.prog 25 #[c.val v] w fun e w' => e = .returned (.int .i64 c.check) ∧ Only [] w w' := by
  by_cases hk : c.kind = 1
  · obtain ⟨kind, time, stream, ex, l, ⟨a, b, d⟩⟩ := c
    have hk : kind = 1 := hk
    subst hk
    exact r7check_1 time stream ex l a b d v w hs ho.stream ho.evs
  · exact r7check_not1 c hk v w hs ho
end
section
open Go Go.RowKit Go.Sort
section
variable {a w w' : World} {H H' : List Nat} {rb : Nat} {r : RS} {vl vs : Value}
theorem Stepped.keepB (h : Stepped w w' H H') {g : Nat} {t : TypeId} {cur : Array Value} (hb : Blk w g t cur) (hn : g ∉ H) : Blk w' g t cur ∧ g ∉ H' := by
  obtain ⟨⟨S, h1, h2⟩, h3⟩ := h
  refine ⟨h1.blk hb (fun q => hn (h2 g q)), fun q => ?_⟩
  rcases h3 g q with y | y
  · exact hn y
  · exact absurd hb.lt (by omega)
theorem Stepped.keepS (h : Stepped w w' H H') {size n : Nat} {v : Value} {cs : List Value} (hs : Slc w size v n cs) (hn : ∀ g, v.ownBlock = some g → g ∉ H) : Slc w' size v n cs := by
  obtain ⟨⟨S, h1, h2⟩, h3⟩ := h
  exact hs.only h1 (fun b q z => hn b q (h2 b z))
theorem Stepped.setB (h : Stepped w w' H H') {g k : Nat} {u : Value} (hg : w.heap.size ≤ g) : Stepped w (w'.setCell ⟨g, k, none⟩ u) H H' := by
  obtain ⟨⟨S, h1, h2⟩, h3⟩ := h
  exact ⟨⟨S, h1.setCell (.inr hg) _, h2⟩, h3⟩
theorem HasD.setB (h : HasD a w H rb r) {g k : Nat} {u : Value} (hg : g ∉ H) (ha : a.heap.size ≤ g) : HasD a (w.setCell ⟨g, k, none⟩ u) H rb r :=
  h.keep (S := [g]) ((Only.refl _ _).setCell (.inl (by simp)) _) (by simpa using ha) (fun b hb => by simp; exact fun e => hg (e ▸ hb))
theorem HasD.setNow (h : HasD a w H rb r) (t : Int) : HasD a (w.setCell ⟨rb, 2, none⟩ (.int .i64 t)) H rb { r with now := t } ∧ Stepped w (w.setCell ⟨rb, 2, none⟩ (.int .i64 t)) H H := by
  obtain ⟨⟨vl, vs, hA, rfl⟩, ho, hab⟩ := h
  have hne := hA.ne
  have ks : Only [rb] w (w.setCell ⟨rb, 2, none⟩ (.int .i64 t)) := (Only.refl _ _).setCell (.inl (by simp)) _
  have hrb : a.heap.size ≤ rb := hab rb (by simp [hD])
  refine ⟨⟨⟨vl, vs, ⟨hA.blk.set 2 _, ?_, ?_⟩, rfl⟩, ho.setCell (.inr hrb) _, hab⟩, Stepped.of ks (by simp [hD]) (fun b hb => .inl hb)⟩
  · exact own_only hA.l ks (fun g hg hm => hne.1 g hg (List.mem_singleton.1 hm))
  · exact own_only hA.s ks (fun g hg hm => hne.2.1 g hg (List.mem_singleton.1 hm))
theorem HasD.setDone (h : HasD a w H rb r) (t : Int) : HasD a (w.setCell ⟨rb, 3, none⟩ (.int .i64 t)) H rb { r with done := t } ∧ Stepped w (w.setCell ⟨rb, 3, none⟩ (.int .i64 t)) H H := by
  obtain ⟨⟨vl, vs, hA, rfl⟩, ho, hab⟩ := h
  have hne := hA.ne
  have ks : Only [rb] w (w.setCell ⟨rb, 3, none⟩ (.int .i64 t)) := (Only.refl _ _).setCell (.inl (by simp)) _
  have hrb : a.heap.size ≤ rb := hab rb (by simp [hD])
  refine ⟨⟨⟨vl, vs, ⟨hA.blk.set 3 _, ?_, ?_⟩, rfl⟩, ho.setCell (.inr hrb) _, hab⟩, Stepped.of ks (by simp [hD]) (fun b hb => .inl hb)⟩
  · exact own_only hA.l ks (fun g hg hm => hne.1 g hg (List.mem_singleton.1 hm))
  · exact own_only hA.s ks (fun g hg hm => hne.2.1 g hg (List.mem_singleton.1 hm))
theorem DTo.setL {v' : Value} {w5 : World} {base : Nat} {l' : List StoredR} (h : HasD a w (hD rb vl vs) rb r) (hA : DocAt w rb vl vs r) (k : Only [] w w5) (hown : w5.ownsRow base 92 8 v' l'.length (l'.flatMap StoredR.cells)) (hb : w.heap.size ≤ base) :
    DTo a w (hD rb vl vs) rb { r with l := l' } (w5.setCell ⟨rb, 0, none⟩ v') := by
  have hne := hA.ne
  have hrb := hA.blk.lt
  have ks : Only [rb] w5 (w5.setCell ⟨rb, 0, none⟩ v') := (Only.refl _ _).setCell (.inl (by simp)) _
  refine hasD_of h ⟨(k.blk hA.blk (by simp)).set 0 v', ?_, ?_⟩ ?_
  · exact own_only (own_base hown (Nat.zero_le _)) ks (fun g hg hm => by
      have := (hown.lt g hg).1
      rw [List.mem_singleton.1 hm] at this
      omega)
  · exact own_only (own_only hA.s k (by simp)) ks (fun g hg hm => hne.2.1 g hg (List.mem_singleton.1 hm))
  · refine Stepped.of (S := [rb]) (k.of_nil.trans ks) (fun b hb => by rw [List.mem_singleton.1 hb]; simp [hD]) (fun b hb2 => ?_)
    simp only [hD, List.mem_cons, List.mem_append, Option.mem_toList] at hb2 ⊢
    rcases hb2 with e | e | e
    · exact .inl (.inl e)
    · have := (hown.lt b e).1
      exact .inr (by omega)
    · exact .inl (.inr (.inr e))
end
section
variable {r : RS}
theorem dfloor_bd (r : RS) (n : ByteArray) (h : r.l.length ≤ 1000000) : 0 ≤ r.floor n ∧ r.floor n ≤ 1000000 := by
  have h1 := floorE_bd (r.get n).mt (r.get n).kept r.now ((r.of n).map (·.time))
  have h2 : (r.of n).length ≤ r.l.length := List.length_filter_le _ _
  rw [List.length_map] at h1
  unfold RS.floor
  omega
theorem RS.Fine.put (h : r.Fine) {x : DStr} (h1 : x.mt.ok = true) (h2 : 0 ≤ x.kept ∧ x.kept ≤ 1000000000) : (r.put x).Fine :=
  ⟨h.few, fun n => by rw [get_put]; split; exact h1; exact h.mt n, fun n => by rw [get_put]; split; exact h2; exact h.kept n, h.now⟩
theorem RS.Fine.keep (h : r.Fine) (n : ByteArray) : (r.keep n).Fine := by
  have hb := dfloor_bd r n h.few
  exact h.put (x := { r.get n with kept := r.floor n }) (h.mt n) ⟨hb.1, by dsimp only; omega⟩
theorem RS.Fine.tick (h : r.Fine) {t : Int} (ht : within t = true) : (r.tick t).Fine := by
  refine ⟨h.few, h.mt, h.kept, ?_⟩
  have := h.now
  simp [within] at ht
  show 0 ≤ max r.now t ∧ max r.now t ≤ 1099511627776
  omega
theorem RS.Fine.more (h : r.Fine) {l : List StoredR} (hl : l.length ≤ 1000000) : ({ r with l := l } : RS).Fine := ⟨hl, h.mt, h.kept, h.now⟩
theorem putD_len (l : List DStr) (x : DStr) : (putD l x).length ≤ l.length + 1 := by
  induction l with
  | nil => simp [putD]
  | cons y l ih =>
    unfold putD
    split
    · simp
    · simp only [List.length_cons]; omega
theorem put_len (r : RS) (x : DStr) : (r.put x).s.length ≤ r.s.length + 1 := putD_len r.s x
theorem keep_len (r : RS) (n : ByteArray) : (r.keep n).s.length ≤ r.s.length + 1 := putD_len r.s _
theorem check_kind {c : Cmd} (h : c.check = 0) : 1 ≤ c.kind ∧ c.kind ≤ 5 ∧ within c.time = true := by
  unfold Cmd.check at h
  by_cases q : c.kind < 1 ∨ 5 < c.kind ∨ within c.time = false
  · rw [if_pos q] at h
    cases h
  · refine ⟨by omega, by omega, ?_⟩
    cases hw : within c.time with
    | true => rfl
    | false => exact absurd (.inr (.inr hw)) q
theorem check_evs {c : Cmd} (h : c.check = 0) (hk : c.kind = 1) : eventsE c.events = 0 := by
  obtain ⟨h1, h2, h3⟩ := check_kind h
  apply Classical.byContradiction
  intro hn
  unfold Cmd.check at h
  rw [if_neg (by rw [h3]; simp; omega)] at h
  by_cases q : c.kind ≤ 3 ∧ nameOk c.stream = false
  · rw [if_pos q] at h
    cases h
  · rw [if_neg q, if_pos ⟨hk, hn⟩] at h
    exact hn h
theorem check_mt {c : Cmd} (h : c.check = 0) (hk : c.kind = 2) : c.mt.ok = true := by
  obtain ⟨h1, h2, h3⟩ := check_kind h
  cases hm : c.mt.ok with
  | true => rfl
  | false =>
    unfold Cmd.check at h
    rw [if_neg (by rw [h3]; simp; omega)] at h
    by_cases q : c.kind ≤ 3 ∧ nameOk c.stream = false
    · rw [if_pos q] at h
      cases h
    · rw [if_neg q, if_neg (by omega), if_neg (by omega), if_pos ⟨hk, hm⟩] at h
      cases h
end
end
end Go.Proofs.YteinoiicnmemhaaGreatDoor
