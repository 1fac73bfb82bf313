/- Proved here: contracts of functions and plain laws, part 47 of one proof. Conditions: each theorem names its own. -/
import Derived.Test.YteinoiicnmemhaaGreatDoorZ5
import Derived.Test.YteinoiicnmemhaaGreatDoorZ46
set_option linter.unusedSimpArgs false
set_option linter.unusedVariables false
namespace Go.Proofs.YteinoiicnmemhaaGreatDoor
section
open Go.RowKit Go Go.Sort
section
variable {w : World} {v : Value} {ds : List DoneV}
set_option maxRecDepth 100000 in
set_option maxHeartbeats 8000000 in
theorem aordered_any (h : Slc w 26 v ds.length (ds.flatMap DoneV.cells)) (hl : ds.length ≤ 100000) (hd : ∀ d ∈ ds, DoneOk w d) :
    Calls Tryz.prog 42 #[v] w fun e w' => e = .returned (.bool (orderedF ds)) ∧ Only [] w w' := by
  obtain ⟨A0, cap, rfl, hnc, hcm, hel⟩ := h.openE DoneV.cells (fun _ => rfl)
  unfold maxLen at hcm
  have HDs := Lib.hid hel
  have HDo := Lib.hid hd
  clear h hel hd
  go_enter Tryz.func42, Tryz.ntmps42
  go_wp2_with fail
  go_loopw [9] (fun iv wr => ∃ k : Nat, k ≤ ds.length ∧ iv = .int .i64 k ∧ Hid (Only [] w wr) ∧ Hid (∀ i j (hi : i < ds.length) (hj : j < ds.length), i < k → i ≠ j → pairF ds[i] ds[j] = false)) (fun iv _ => ds.length - (intOf iv).toNat)
  case atStart => exact ⟨0, Nat.zero_le _, rfl, Lib.hid (Only.refl _ _), by intro i j _ _ h; omega⟩
  case round =>
    obtain ⟨k, hk, rfl, hO, hP⟩ := hrel
    by_cases hlt : k < ds.length
    · obtain ⟨b, off, rfl, hbb, hcc⟩ := HDs.out k hlt
      obtain ⟨d, hdx⟩ : ∃ d, d = ds[k] := ⟨_, rfl⟩
      have hdm : d ∈ ds := by rw [hdx]; exact List.getElem_mem hlt
      rw [← hdx] at hcc
      have HCc := Lib.hid (fun (W : World) (hO : Only [] w W) (i : Nat) (hi : i < 26) => (hO.cell (p := ⟨b, off + k * 26 + i, none⟩) hbb (by simp)).trans (hcc i hi))
      have hdo := HDo.out d hdm
      obtain ⟨Ad, capd, hvd, _, _, _⟩ := hdo.ev.openE EventR.cells (fun _ => rfl)
      obtain ⟨Ap, capp, hvp, _, _, _⟩ := hdo.pg.openE StoredR.cells (fun _ => rfl)
      have hcd : d.cells = [.int .i64 d.nd, .int .i64 d.id, .int .i64 d.req.x.c.kind, .int .i64 d.req.x.c.time, .string d.req.x.c.stream, .int .i64 d.req.x.c.expected, .slice Ad d.req.x.c.events.length capd, .int .i64 d.req.x.c.mt.maxCount, .int .i64 d.req.x.c.mt.maxAge, .int .i64 d.req.x.c.mt.before, .bool d.req.read, .bool d.req.all, .int .i64 d.req.fr, .int .i64 d.req.n, .bool d.req.back, .int .i64 d.rid, .int .i64 d.place, .int .i64 d.ans.err, .int .i64 d.ans.version, .int .i64 d.ans.position, .bool d.ans.again, .slice Ap d.pg.events.length capp, .int .i64 d.pg.next, .bool d.pg.isEnd, .int .i64 d.asked, .int .i64 d.answered] := by rw [← hvd, ← hvp]; rfl
      rw [hcd] at HCc
      have hB := Blk.new wr 61 #[.int .i64 d.nd, .int .i64 d.id, .int .i64 d.req.x.c.kind, .int .i64 d.req.x.c.time, .string d.req.x.c.stream, .int .i64 d.req.x.c.expected, .slice Ad d.req.x.c.events.length capd, .int .i64 d.req.x.c.mt.maxCount, .int .i64 d.req.x.c.mt.maxAge, .int .i64 d.req.x.c.mt.before, .bool d.req.read, .bool d.req.all, .int .i64 d.req.fr, .int .i64 d.req.n, .bool d.req.back, .int .i64 d.rid, .int .i64 d.place, .int .i64 d.ans.err, .int .i64 d.ans.version, .int .i64 d.ans.position, .bool d.ans.again, .slice Ap d.pg.events.length capp, .int .i64 d.pg.next, .bool d.pg.isEnd, .int .i64 d.asked, .int .i64 d.answered]
      have hO1 := hO.out.alloc (.cells #[.int .i64 d.nd, .int .i64 d.id, .int .i64 d.req.x.c.kind, .int .i64 d.req.x.c.time, .string d.req.x.c.stream, .int .i64 d.req.x.c.expected, .slice Ad d.req.x.c.events.length capd, .int .i64 d.req.x.c.mt.maxCount, .int .i64 d.req.x.c.mt.maxAge, .int .i64 d.req.x.c.mt.before, .bool d.req.read, .bool d.req.all, .int .i64 d.req.fr, .int .i64 d.req.n, .bool d.req.back, .int .i64 d.rid, .int .i64 d.place, .int .i64 d.ans.err, .int .i64 d.ans.version, .int .i64 d.ans.position, .bool d.ans.again, .slice Ap d.pg.events.length capp, .int .i64 d.pg.next, .bool d.pg.isEnd, .int .i64 d.asked, .int .i64 d.answered] 61)
      have HDX := Lib.hid hdx
      have HR := Lib.hid (HCc.out wr hO.out)
      clear hcd hvd hvp hdo hcc hdx HCc
      go_upto_region 3 with (fail)
      go_cut [3, 4] from 11 to 13 (fun s3 s4 wx => s3 = .int .i64 k ∧ ∃ ab, s4 = .pointer (some ⟨ab, 0, none⟩) ∧ Hid (Blk wx ab 61 #[.int .i64 d.nd, .int .i64 d.id, .int .i64 d.req.x.c.kind, .int .i64 d.req.x.c.time, .string d.req.x.c.stream, .int .i64 d.req.x.c.expected, .slice Ad d.req.x.c.events.length capd, .int .i64 d.req.x.c.mt.maxCount, .int .i64 d.req.x.c.mt.maxAge, .int .i64 d.req.x.c.mt.before, .bool d.req.read, .bool d.req.all, .int .i64 d.req.fr, .int .i64 d.req.n, .bool d.req.back, .int .i64 d.rid, .int .i64 d.place, .int .i64 d.ans.err, .int .i64 d.ans.version, .int .i64 d.ans.position, .bool d.ans.again, .slice Ap d.pg.events.length capp, .int .i64 d.pg.next, .bool d.pg.isEnd, .int .i64 d.asked, .int .i64 d.answered]) ∧ Hid (Only [] w wx))
      case first =>
        go_wp2_with (first
          | (refine wpList_load_row2 rfl 61 (.tmp 12) rfl b (off + k * 26) rfl 26 [.int .i64 d.nd, .int .i64 d.id, .int .i64 d.req.x.c.kind, .int .i64 d.req.x.c.time, .string d.req.x.c.stream, .int .i64 d.req.x.c.expected, .slice Ad d.req.x.c.events.length capd, .int .i64 d.req.x.c.mt.maxCount, .int .i64 d.req.x.c.mt.maxAge, .int .i64 d.req.x.c.mt.before, .bool d.req.read, .bool d.req.all, .int .i64 d.req.fr, .int .i64 d.req.n, .bool d.req.back, .int .i64 d.rid, .int .i64 d.place, .int .i64 d.ans.err, .int .i64 d.ans.version, .int .i64 d.ans.position, .bool d.ans.again, .slice Ap d.pg.events.length capp, .int .i64 d.pg.next, .bool d.pg.isEnd, .int .i64 d.asked, .int .i64 d.answered] rfl HR.out Tryz.underlying61 rfl (by kernel_rfl) ?_)
          | (refine wpList_store_new rfl 61 (.tmp 4) (.tmp 13) rfl _ _ 26 [.int .i64 d.nd, .int .i64 d.id, .int .i64 d.req.x.c.kind, .int .i64 d.req.x.c.time, .string d.req.x.c.stream, .int .i64 d.req.x.c.expected, .slice Ad d.req.x.c.events.length capd, .int .i64 d.req.x.c.mt.maxCount, .int .i64 d.req.x.c.mt.maxAge, .int .i64 d.req.x.c.mt.before, .bool d.req.read, .bool d.req.all, .int .i64 d.req.fr, .int .i64 d.req.n, .bool d.req.back, .int .i64 d.rid, .int .i64 d.place, .int .i64 d.ans.err, .int .i64 d.ans.version, .int .i64 d.ans.position, .bool d.ans.again, .slice Ap d.pg.events.length capp, .int .i64 d.pg.next, .bool d.pg.isEnd, .int .i64 d.asked, .int .i64 d.answered] rfl rfl rfl rfl (by kernel_rfl) (by simp [Value.oneCell']) ?_))
        go_meet
        exact ⟨rfl, _, rfl, Lib.hid hB, Lib.hid hO1⟩
      rename World => w2
      obtain ⟨rfl, ab, rfl, HBx, HO1⟩ := hcut
      clear hB hO1 HR
      go_wp2_with fail
      go_loopw [16] (fun jv wr => ∃ j : Nat, j ≤ ds.length ∧ jv = .int .i64 j ∧ Hid (Only [] w2 wr) ∧ Hid (∀ i (hi : i < ds.length), i < j → k ≠ i → pairF d ds[i] = false)) (fun jv _ => ds.length - (intOf jv).toNat)
      case atStart => exact ⟨0, Nat.zero_le _, rfl, Lib.hid (Only.refl _ _), by intro i _ h; omega⟩
      case round =>
        rename_i k0
        obtain ⟨j, hj, rfl, hO2, hQ⟩ := hrel
        by_cases hjt : j < ds.length
        · obtain ⟨b2, off2, he2, hbb2, hcc⟩ := HDs.out j hjt
          injection he2 with he2
          injection he2 with e1 e2
          subst e1
          subst e2
          obtain ⟨y, hyx⟩ : ∃ y, y = ds[j] := ⟨_, rfl⟩
          have hym : y ∈ ds := by rw [hyx]; exact List.getElem_mem hjt
          rw [← hyx] at hcc
          have hO := HO1.out.trans hO2.out
          have HCc := Lib.hid (fun (i : Nat) (hi : i < 26) => (hO.cell (p := ⟨b, off + j * 26 + i, none⟩) hbb2 (by simp)).trans (hcc i hi))
          have hdo := HDo.out y hym
          obtain ⟨Ay, capy, hvd, _, _, _⟩ := hdo.ev.openE EventR.cells (fun _ => rfl)
          obtain ⟨Aq, capq, hvp, _, _, _⟩ := hdo.pg.openE StoredR.cells (fun _ => rfl)
          have hcd : y.cells = [.int .i64 y.nd, .int .i64 y.id, .int .i64 y.req.x.c.kind, .int .i64 y.req.x.c.time, .string y.req.x.c.stream, .int .i64 y.req.x.c.expected, .slice Ay y.req.x.c.events.length capy, .int .i64 y.req.x.c.mt.maxCount, .int .i64 y.req.x.c.mt.maxAge, .int .i64 y.req.x.c.mt.before, .bool y.req.read, .bool y.req.all, .int .i64 y.req.fr, .int .i64 y.req.n, .bool y.req.back, .int .i64 y.rid, .int .i64 y.place, .int .i64 y.ans.err, .int .i64 y.ans.version, .int .i64 y.ans.position, .bool y.ans.again, .slice Aq y.pg.events.length capq, .int .i64 y.pg.next, .bool y.pg.isEnd, .int .i64 y.asked, .int .i64 y.answered] := by rw [← hvd, ← hvp]; rfl
          rw [hcd] at HCc
          have gB := hO2.out.blk HBx.out (by simp)
          have hB3 := Blk.new wr 61 #[.int .i64 y.nd, .int .i64 y.id, .int .i64 y.req.x.c.kind, .int .i64 y.req.x.c.time, .string y.req.x.c.stream, .int .i64 y.req.x.c.expected, .slice Ay y.req.x.c.events.length capy, .int .i64 y.req.x.c.mt.maxCount, .int .i64 y.req.x.c.mt.maxAge, .int .i64 y.req.x.c.mt.before, .bool y.req.read, .bool y.req.all, .int .i64 y.req.fr, .int .i64 y.req.n, .bool y.req.back, .int .i64 y.rid, .int .i64 y.place, .int .i64 y.ans.err, .int .i64 y.ans.version, .int .i64 y.ans.position, .bool y.ans.again, .slice Aq y.pg.events.length capq, .int .i64 y.pg.next, .bool y.pg.isEnd, .int .i64 y.asked, .int .i64 y.answered]
          have hO3 := hO2.out.alloc (.cells #[.int .i64 y.nd, .int .i64 y.id, .int .i64 y.req.x.c.kind, .int .i64 y.req.x.c.time, .string y.req.x.c.stream, .int .i64 y.req.x.c.expected, .slice Ay y.req.x.c.events.length capy, .int .i64 y.req.x.c.mt.maxCount, .int .i64 y.req.x.c.mt.maxAge, .int .i64 y.req.x.c.mt.before, .bool y.req.read, .bool y.req.all, .int .i64 y.req.fr, .int .i64 y.req.n, .bool y.req.back, .int .i64 y.rid, .int .i64 y.place, .int .i64 y.ans.err, .int .i64 y.ans.version, .int .i64 y.ans.position, .bool y.ans.again, .slice Aq y.pg.events.length capq, .int .i64 y.pg.next, .bool y.pg.isEnd, .int .i64 y.asked, .int .i64 y.answered] 61)
          have hgB := ((Only.refl [] wr).alloc (.cells #[.int .i64 y.nd, .int .i64 y.id, .int .i64 y.req.x.c.kind, .int .i64 y.req.x.c.time, .string y.req.x.c.stream, .int .i64 y.req.x.c.expected, .slice Ay y.req.x.c.events.length capy, .int .i64 y.req.x.c.mt.maxCount, .int .i64 y.req.x.c.mt.maxAge, .int .i64 y.req.x.c.mt.before, .bool y.req.read, .bool y.req.all, .int .i64 y.req.fr, .int .i64 y.req.n, .bool y.req.back, .int .i64 y.rid, .int .i64 y.place, .int .i64 y.ans.err, .int .i64 y.ans.version, .int .i64 y.ans.position, .bool y.ans.again, .slice Aq y.pg.events.length capq, .int .i64 y.pg.next, .bool y.pg.isEnd, .int .i64 y.asked, .int .i64 y.answered] 61)).blk gB (by simp)
          have HYX := Lib.hid hyx
          clear hyx hcc hvd hvp hcd hdo gB hO
          go_upto_region 6 with (fail)
          go_cut [5, 6] from 18 to 20 (fun s5 s6 wx => s5 = .int .i64 j ∧ ∃ ab2, s6 = .pointer (some ⟨ab2, 0, none⟩) ∧ Hid (Blk wx ab2 61 #[.int .i64 y.nd, .int .i64 y.id, .int .i64 y.req.x.c.kind, .int .i64 y.req.x.c.time, .string y.req.x.c.stream, .int .i64 y.req.x.c.expected, .slice Ay y.req.x.c.events.length capy, .int .i64 y.req.x.c.mt.maxCount, .int .i64 y.req.x.c.mt.maxAge, .int .i64 y.req.x.c.mt.before, .bool y.req.read, .bool y.req.all, .int .i64 y.req.fr, .int .i64 y.req.n, .bool y.req.back, .int .i64 y.rid, .int .i64 y.place, .int .i64 y.ans.err, .int .i64 y.ans.version, .int .i64 y.ans.position, .bool y.ans.again, .slice Aq y.pg.events.length capq, .int .i64 y.pg.next, .bool y.pg.isEnd, .int .i64 y.asked, .int .i64 y.answered]) ∧ Hid (Blk wx ab 61 #[.int .i64 d.nd, .int .i64 d.id, .int .i64 d.req.x.c.kind, .int .i64 d.req.x.c.time, .string d.req.x.c.stream, .int .i64 d.req.x.c.expected, .slice Ad d.req.x.c.events.length capd, .int .i64 d.req.x.c.mt.maxCount, .int .i64 d.req.x.c.mt.maxAge, .int .i64 d.req.x.c.mt.before, .bool d.req.read, .bool d.req.all, .int .i64 d.req.fr, .int .i64 d.req.n, .bool d.req.back, .int .i64 d.rid, .int .i64 d.place, .int .i64 d.ans.err, .int .i64 d.ans.version, .int .i64 d.ans.position, .bool d.ans.again, .slice Ap d.pg.events.length capp, .int .i64 d.pg.next, .bool d.pg.isEnd, .int .i64 d.asked, .int .i64 d.answered]) ∧ Hid (Only [] w2 wx))
          case first =>
            go_wp2_with (first
              | (refine wpList_load_row2 rfl 61 (.tmp 19) rfl b (off + j * 26) rfl 26 [.int .i64 y.nd, .int .i64 y.id, .int .i64 y.req.x.c.kind, .int .i64 y.req.x.c.time, .string y.req.x.c.stream, .int .i64 y.req.x.c.expected, .slice Ay y.req.x.c.events.length capy, .int .i64 y.req.x.c.mt.maxCount, .int .i64 y.req.x.c.mt.maxAge, .int .i64 y.req.x.c.mt.before, .bool y.req.read, .bool y.req.all, .int .i64 y.req.fr, .int .i64 y.req.n, .bool y.req.back, .int .i64 y.rid, .int .i64 y.place, .int .i64 y.ans.err, .int .i64 y.ans.version, .int .i64 y.ans.position, .bool y.ans.again, .slice Aq y.pg.events.length capq, .int .i64 y.pg.next, .bool y.pg.isEnd, .int .i64 y.asked, .int .i64 y.answered] rfl HCc.out Tryz.underlying61 rfl (by kernel_rfl) ?_)
              | (refine wpList_store_new rfl 61 (.tmp 6) (.tmp 20) rfl _ _ 26 [.int .i64 y.nd, .int .i64 y.id, .int .i64 y.req.x.c.kind, .int .i64 y.req.x.c.time, .string y.req.x.c.stream, .int .i64 y.req.x.c.expected, .slice Ay y.req.x.c.events.length capy, .int .i64 y.req.x.c.mt.maxCount, .int .i64 y.req.x.c.mt.maxAge, .int .i64 y.req.x.c.mt.before, .bool y.req.read, .bool y.req.all, .int .i64 y.req.fr, .int .i64 y.req.n, .bool y.req.back, .int .i64 y.rid, .int .i64 y.place, .int .i64 y.ans.err, .int .i64 y.ans.version, .int .i64 y.ans.position, .bool y.ans.again, .slice Aq y.pg.events.length capq, .int .i64 y.pg.next, .bool y.pg.isEnd, .int .i64 y.asked, .int .i64 y.answered] rfl rfl rfl rfl (by kernel_rfl) (by simp [Value.oneCell']) ?_))
            go_meet
            exact ⟨rfl, _, rfl, Lib.hid hB3, Lib.hid hgB, Lib.hid hO3⟩
          rename World => w3
          obtain ⟨rfl, ab2, rfl, HB3, HB4, HO3⟩ := hcut
          have g16 : w3.cell? ⟨ab, 16, none⟩ = some (.int .i64 d.place) := HB4.out.cell 16
          have g25 : w3.cell? ⟨ab, 25, none⟩ = some (.int .i64 d.answered) := HB4.out.cell 25
          have y16 : w3.cell? ⟨ab2, 16, none⟩ = some (.int .i64 y.place) := HB3.out.cell 16
          have y24 : w3.cell? ⟨ab2, 24, none⟩ = some (.int .i64 y.asked) := HB3.out.cell 24
          clear hB3 hO3 hgB HCc HB3 HB4
          have hfin : ∀ W, Only [] w2 W → Only [] w W := fun W h => HO1.out.trans h
          have HFin := Lib.hid hfin
          have hnx : (k ≠ j → pairF d y = false) → ∀ i (hi : i < ds.length), i < j + 1 → k ≠ i → pairF d ds[i] = false := fun hq i hi hij hne => by
            by_cases e : i = j
            · subst e
              rw [← HYX.out]
              exact hq hne
            · exact hQ.out i hi (by omega) hne
          have hbad : k ≠ j → pairF d y = true → orderedF ds = false := fun hne hq => orderedF_false (fun hP => by
            have := hP k j hlt hjt hne
            rw [← HDX.out, ← HYX.out, hq] at this
            cases this)
          have HNx := Lib.hid hnx
          have HBad := Lib.hid hbad
          clear HYX hnx hbad hQ hfin HDX
          by_cases hkj : k = j
          · have HQ3 := Lib.hid (HNx.out (fun q => absurd hkj q))
            clear HNx HBad
            subst hkj
            go_wp2_with fail
            exact ⟨⟨k + 1, hjt, by simp, HO3, HQ3⟩, by simp [intOf]; omega⟩
          · have hne : ((k : Int) != (j : Int)) = true := by rw [bne_iff_ne]; omega
            have hne2 : (k != j) = true := by rw [bne_iff_ne]; exact hkj
            have hne3 : (k == j) = false := by rw [beq_eq_false_iff_ne]; exact hkj
            have HNe := Lib.hid hkj
            by_cases hpl : d.place = y.place
            · have HB := Lib.hid (HBad.out HNe.out (by unfold pairF; rw [decide_eq_true hpl]; rfl))
              clear HNx HBad
              go_wp2_with fail
              go_ret
              exact ⟨ret_b (by rw [HB.out]), HFin.out _ HO3.out⟩
            · have hp0 : y.place ≠ d.place := fun q => hpl q.symm
              by_cases hlt2 : d.answered < y.asked
              · by_cases hgt : y.place < d.place
                · have HB := Lib.hid (HBad.out HNe.out (by unfold pairF; rw [decide_eq_true hlt2, decide_eq_true hgt]; simp))
                  clear HNx HBad
                  go_wp2_with fail
                  go_ret
                  exact ⟨ret_b (by rw [HB.out]), HFin.out _ HO3.out⟩
                · have HQ3 := Lib.hid (HNx.out (fun _ => by unfold pairF; rw [decide_eq_false hpl, decide_eq_false hgt]; simp))
                  clear HNx HBad
                  go_wp2_with fail
                  exact ⟨⟨j + 1, hjt, by simp, HO3, HQ3⟩, by simp [intOf]; omega⟩
              · have HQ3 := Lib.hid (HNx.out (fun _ => by unfold pairF; rw [decide_eq_false hpl, decide_eq_false hlt2]; simp))
                clear HNx HBad
                go_wp2_with fail
                exact ⟨⟨j + 1, hjt, by simp, HO3, HQ3⟩, by simp [intOf]; omega⟩
        · have HQ3 := Lib.hid (show ∀ i i' (hi : i < ds.length) (hi' : i' < ds.length), i < k + 1 → i ≠ i' → pairF ds[i] ds[i'] = false from fun i i' hi hi' hlt' hne => by
            by_cases e : i = k
            · subst e
              rw [← HDX.out]
              exact hQ.out i' hi' (by omega) hne
            · exact hP.out i i' hi hi' (by omega) hne)
          have HO3 := Lib.hid (HO1.out.trans hO2.out)
          clear HDX hQ hO2
          go_wp2_with fail
          exact ⟨⟨k + 1, hlt, by simp, HO3, HQ3⟩, by simp [intOf]; omega⟩
    · have HF := Lib.hid (orderedF_true (l := ds) (fun i j hi hj hne => hP.out i j hi hj (by omega) hne))
      clear HDs HDo
      go_wp2
      go_ret
      exact ⟨ret_b (by rw [HF.out]), hO.out⟩
end
end
end Go.Proofs.YteinoiicnmemhaaGreatDoor
