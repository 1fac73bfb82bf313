/- Proved here: contracts of functions and plain laws, part 6 of one proof. Conditions: each theorem names its own. -/
import Derived.Test.YteinoiicnmemhaaGreatDoorP5
/- Contract: audit.ordered. -/
set_option linter.unusedVariables false
set_option linter.unusedSimpArgs false
namespace Go.Proofs.YteinoiicnmemhaaGreatDoor
open Go.RowKit Go Go.Sort
section
variable {w : World} {v : Value} {ds : List DoneV}
set_option maxRecDepth 100000 in
set_option maxHeartbeats 8000000 in
theorem aordered_any (h : Slc w 26 v ds.length (ds.flatMap DoneV.cells)) (hl : ds.length ≤ 100000) (hd : ∀ d ∈ ds, DoneOk w d) :
    Calls Tryz.prog 42 #[v] w fun e w' => e = .returned (.bool (orderedF ds)) ∧ Only [] w w' := by
  obtain ⟨A0, cap, rfl, hnc, hcm, hel⟩ := h.openE DoneV.cells (fun _ => rfl)
  unfold maxLen at hcm
  have HDs := Lib.hid hel
  have HDo := Lib.hid hd
  clear h hel hd
  go_enter Tryz.func42, Tryz.ntmps42
  go_wp2_with fail
  go_loopw [9] (fun iv wr => ∃ k : Nat, k ≤ ds.length ∧ iv = .int .i64 k ∧ Hid (Only [] w wr) ∧ Hid (∀ i j (hi : i < ds.length) (hj : j < ds.length), i < k → i ≠ j → pairF ds[i] ds[j] = false)) (fun iv _ => ds.length - (intOf iv).toNat)
  case atStart => exact ⟨0, Nat.zero_le _, rfl, Lib.hid (Only.refl _ _), by intro i j _ _ h; omega⟩
  case round =>
    obtain ⟨k, hk, rfl, hO, hP⟩ := hrel
    by_cases hlt : k < ds.length
    · obtain ⟨b, off, rfl, hbb, hcc⟩ := HDs.out k hlt
      obtain ⟨d, hdx⟩ : ∃ d, d = ds[k] := ⟨_, rfl⟩
      have hdm : d ∈ ds := by rw [hdx]; exact List.getElem_mem hlt
      rw [← hdx] at hcc
      have HCc := Lib.hid (fun (W : World) (hO : Only [] w W) (i : Nat) (hi : i < 26) => (hO.cell (p := ⟨b, off + k * 26 + i, none⟩) hbb (by simp)).trans (hcc i hi))
      have hdo := HDo.out d hdm
      obtain ⟨Ad, capd, hvd, _, _, _⟩ := hdo.ev.openE EventR.cells (fun _ => rfl)
      obtain ⟨Ap, capp, hvp, _, _, _⟩ := hdo.pg.openE StoredR.cells (fun _ => rfl)
      have hcd : d.cells = [.int .i64 d.nd, .int .i64 d.id, .int .i64 d.req.x.c.kind, .int .i64 d.req.x.c.time, .string d.req.x.c.stream, .int .i64 d.req.x.c.expected, .slice Ad d.req.x.c.events.length capd, .int .i64 d.req.x.c.mt.maxCount, .int .i64 d.req.x.c.mt.maxAge, .int .i64 d.req.x.c.mt.before, .bool d.req.read, .bool d.req.all, .int .i64 d.req.fr, .int .i64 d.req.n, .bool d.req.back, .int .i64 d.rid, .int .i64 d.place, .int .i64 d.ans.err, .int .i64 d.ans.version, .int .i64 d.ans.position, .bool d.ans.again, .slice Ap d.pg.events.length capp, .int .i64 d.pg.next, .bool d.pg.isEnd, .int .i64 d.asked, .int .i64 d.answered] := by rw [← hvd, ← hvp]; rfl
      rw [hcd] at HCc
      have hB := Blk.new wr 61 #[.int .i64 d.nd, .int .i64 d.id, .int .i64 d.req.x.c.kind, .int .i64 d.req.x.c.time, .string d.req.x.c.stream, .int .i64 d.req.x.c.expected, .slice Ad d.req.x.c.events.length capd, .int .i64 d.req.x.c.mt.maxCount, .int .i64 d.req.x.c.mt.maxAge, .int .i64 d.req.x.c.mt.before, .bool d.req.read, .bool d.req.all, .int .i64 d.req.fr, .int .i64 d.req.n, .bool d.req.back, .int .i64 d.rid, .int .i64 d.place, .int .i64 d.ans.err, .int .i64 d.ans.version, .int .i64 d.ans.position, .bool d.ans.again, .slice Ap d.pg.events.length capp, .int .i64 d.pg.next, .bool d.pg.isEnd, .int .i64 d.asked, .int .i64 d.answered]
      have hO1 := hO.out.alloc (.cells #[.int .i64 d.nd, .int .i64 d.id, .int .i64 d.req.x.c.kind, .int .i64 d.req.x.c.time, .string d.req.x.c.stream, .int .i64 d.req.x.c.expected, .slice Ad d.req.x.c.events.length capd, .int .i64 d.req.x.c.mt.maxCount, .int .i64 d.req.x.c.mt.maxAge, .int .i64 d.req.x.c.mt.before, .bool d.req.read, .bool d.req.all, .int .i64 d.req.fr, .int .i64 d.req.n, .bool d.req.back, .int .i64 d.rid, .int .i64 d.place, .int .i64 d.ans.err, .int .i64 d.ans.version, .int .i64 d.ans.position, .bool d.ans.again, .slice Ap d.pg.events.length capp, .int .i64 d.pg.next, .bool d.pg.isEnd, .int .i64 d.asked, .int .i64 d.answered] 61)
      have HDX := Lib.hid hdx
      have HR := Lib.hid (HCc.out wr hO.out)
      clear hcd hvd hvp hdo hcc hdx HCc
      go_upto_region 3 with (fail)
      go_cut [3, 4] from 11 to 13 (fun s3 s4 wx => s3 = .int .i64 k ∧ ∃ ab, s4 = .pointer (some ⟨ab, 0, none⟩) ∧ Hid (Blk wx ab 61 #[.int .i64 d.nd, .int .i64 d.id, .int .i64 d.req.x.c.kind, .int .i64 d.req.x.c.time, .string d.req.x.c.stream, .int .i64 d.req.x.c.expected, .slice Ad d.req.x.c.events.length capd, .int .i64 d.req.x.c.mt.maxCount, .int .i64 d.req.x.c.mt.maxAge, .int .i64 d.req.x.c.mt.before, .bool d.req.read, .bool d.req.all, .int .i64 d.req.fr, .int .i64 d.req.n, .bool d.req.back, .int .i64 d.rid, .int .i64 d.place, .int .i64 d.ans.err, .int .i64 d.ans.version, .int .i64 d.ans.position, .bool d.ans.again, .slice Ap d.pg.events.length capp, .int .i64 d.pg.next, .bool d.pg.isEnd, .int .i64 d.asked, .int .i64 d.answered]) ∧ Hid (Only [] w wx))
      case first =>
        go_wp2_with (first
          | (refine wpList_load_row2 rfl 61 (.tmp 12) rfl b (off + k * 26) rfl 26 [.int .i64 d.nd, .int .i64 d.id, .int .i64 d.req.x.c.kind, .int .i64 d.req.x.c.time, .string d.req.x.c.stream, .int .i64 d.req.x.c.expected, .slice Ad d.req.x.c.events.length capd, .int .i64 d.req.x.c.mt.maxCount, .int .i64 d.req.x.c.mt.maxAge, .int .i64 d.req.x.c.mt.before, .bool d.req.read, .bool d.req.all, .int .i64 d.req.fr, .int .i64 d.req.n, .bool d.req.back, .int .i64 d.rid, .int .i64 d.place, .int .i64 d.ans.err, .int .i64 d.ans.version, .int .i64 d.ans.position, .bool d.ans.again, .slice Ap d.pg.events.length capp, .int .i64 d.pg.next, .bool d.pg.isEnd, .int .i64 d.asked, .int .i64 d.answered] rfl HR.out Tryz.underlying61 rfl (by kernel_rfl) ?_)
          | (refine wpList_store_new rfl 61 (.tmp 4) (.tmp 13) rfl _ _ 26 [.int .i64 d.nd, .int .i64 d.id, .int .i64 d.req.x.c.kind, .int .i64 d.req.x.c.time, .string d.req.x.c.stream, .int .i64 d.req.x.c.expected, .slice Ad d.req.x.c.events.length capd, .int .i64 d.req.x.c.mt.maxCount, .int .i64 d.req.x.c.mt.maxAge, .int .i64 d.req.x.c.mt.before, .bool d.req.read, .bool d.req.all, .int .i64 d.req.fr, .int .i64 d.req.n, .bool d.req.back, .int .i64 d.rid, .int .i64 d.place, .int .i64 d.ans.err, .int .i64 d.ans.version, .int .i64 d.ans.position, .bool d.ans.again, .slice Ap d.pg.events.length capp, .int .i64 d.pg.next, .bool d.pg.isEnd, .int .i64 d.asked, .int .i64 d.answered] rfl rfl rfl rfl (by kernel_rfl) (by simp [Value.oneCell']) ?_))
        go_meet
        exact ⟨rfl, _, rfl, Lib.hid hB, Lib.hid hO1⟩
      rename World => w2
      obtain ⟨rfl, ab, rfl, HBx, HO1⟩ := hcut
      clear hB hO1 HR
      go_wp2_with fail
      go_loopw [16] (fun jv wr => ∃ j : Nat, j ≤ ds.length ∧ jv = .int .i64 j ∧ Hid (Only [] w2 wr) ∧ Hid (∀ i (hi : i < ds.length), i < j → k ≠ i → pairF d ds[i] = false)) (fun jv _ => ds.length - (intOf jv).toNat)
      case atStart => exact ⟨0, Nat.zero_le _, rfl, Lib.hid (Only.refl _ _), by intro i _ h; omega⟩
      case round =>
        rename_i k0
        obtain ⟨j, hj, rfl, hO2, hQ⟩ := hrel
        by_cases hjt : j < ds.length
        · obtain ⟨b2, off2, he2, hbb2, hcc⟩ := HDs.out j hjt
          injection he2 with he2
          injection he2 with e1 e2
          subst e1
          subst e2
          obtain ⟨y, hyx⟩ : ∃ y, y = ds[j] := ⟨_, rfl⟩
          have hym : y ∈ ds := by rw [hyx]; exact List.getElem_mem hjt
          rw [← hyx] at hcc
          have hO := HO1.out.trans hO2.out
          have HCc := Lib.hid (fun (i : Nat) (hi : i < 26) => (hO.cell (p := ⟨b, off + j * 26 + i, none⟩) hbb2 (by simp)).trans (hcc i hi))
          have hdo := HDo.out y hym
          obtain ⟨Ay, capy, hvd, _, _, _⟩ := hdo.ev.openE EventR.cells (fun _ => rfl)
          obtain ⟨Aq, capq, hvp, _, _, _⟩ := hdo.pg.openE StoredR.cells (fun _ => rfl)
          have hcd : y.cells = [.int .i64 y.nd, .int .i64 y.id, .int .i64 y.req.x.c.kind, .int .i64 y.req.x.c.time, .string y.req.x.c.stream, .int .i64 y.req.x.c.expected, .slice Ay y.req.x.c.events.length capy, .int .i64 y.req.x.c.mt.maxCount, .int .i64 y.req.x.c.mt.maxAge, .int .i64 y.req.x.c.mt.before, .bool y.req.read, .bool y.req.all, .int .i64 y.req.fr, .int .i64 y.req.n, .bool y.req.back, .int .i64 y.rid, .int .i64 y.place, .int .i64 y.ans.err, .int .i64 y.ans.version, .int .i64 y.ans.position, .bool y.ans.again, .slice Aq y.pg.events.length capq, .int .i64 y.pg.next, .bool y.pg.isEnd, .int .i64 y.asked, .int .i64 y.answered] := by rw [← hvd, ← hvp]; rfl
          rw [hcd] at HCc
          have gB := hO2.out.blk HBx.out (by simp)
          have hB3 := Blk.new wr 61 #[.int .i64 y.nd, .int .i64 y.id, .int .i64 y.req.x.c.kind, .int .i64 y.req.x.c.time, .string y.req.x.c.stream, .int .i64 y.req.x.c.expected, .slice Ay y.req.x.c.events.length capy, .int .i64 y.req.x.c.mt.maxCount, .int .i64 y.req.x.c.mt.maxAge, .int .i64 y.req.x.c.mt.before, .bool y.req.read, .bool y.req.all, .int .i64 y.req.fr, .int .i64 y.req.n, .bool y.req.back, .int .i64 y.rid, .int .i64 y.place, .int .i64 y.ans.err, .int .i64 y.ans.version, .int .i64 y.ans.position, .bool y.ans.again, .slice Aq y.pg.events.length capq, .int .i64 y.pg.next, .bool y.pg.isEnd, .int .i64 y.asked, .int .i64 y.answered]
          have hO3 := hO2.out.alloc (.cells #[.int .i64 y.nd, .int .i64 y.id, .int .i64 y.req.x.c.kind, .int .i64 y.req.x.c.time, .string y.req.x.c.stream, .int .i64 y.req.x.c.expected, .slice Ay y.req.x.c.events.length capy, .int .i64 y.req.x.c.mt.maxCount, .int .i64 y.req.x.c.mt.maxAge, .int .i64 y.req.x.c.mt.before, .bool y.req.read, .bool y.req.all, .int .i64 y.req.fr, .int .i64 y.req.n, .bool y.req.back, .int .i64 y.rid, .int .i64 y.place, .int .i64 y.ans.err, .int .i64 y.ans.version, .int .i64 y.ans.position, .bool y.ans.again, .slice Aq y.pg.events.length capq, .int .i64 y.pg.next, .bool y.pg.isEnd, .int .i64 y.asked, .int .i64 y.answered] 61)
          have hgB := ((Only.refl [] wr).alloc (.cells #[.int .i64 y.nd, .int .i64 y.id, .int .i64 y.req.x.c.kind, .int .i64 y.req.x.c.time, .string y.req.x.c.stream, .int .i64 y.req.x.c.expected, .slice Ay y.req.x.c.events.length capy, .int .i64 y.req.x.c.mt.maxCount, .int .i64 y.req.x.c.mt.maxAge, .int .i64 y.req.x.c.mt.before, .bool y.req.read, .bool y.req.all, .int .i64 y.req.fr, .int .i64 y.req.n, .bool y.req.back, .int .i64 y.rid, .int .i64 y.place, .int .i64 y.ans.err, .int .i64 y.ans.version, .int .i64 y.ans.position, .bool y.ans.again, .slice Aq y.pg.events.length capq, .int .i64 y.pg.next, .bool y.pg.isEnd, .int .i64 y.asked, .int .i64 y.answered] 61)).blk gB (by simp)
          have HYX := Lib.hid hyx
          clear hyx hcc hvd hvp hcd hdo gB hO
          go_upto_region 6 with (fail)
          go_cut [5, 6] from 18 to 20 (fun s5 s6 wx => s5 = .int .i64 j ∧ ∃ ab2, s6 = .pointer (some ⟨ab2, 0, none⟩) ∧ Hid (Blk wx ab2 61 #[.int .i64 y.nd, .int .i64 y.id, .int .i64 y.req.x.c.kind, .int .i64 y.req.x.c.time, .string y.req.x.c.stream, .int .i64 y.req.x.c.expected, .slice Ay y.req.x.c.events.length capy, .int .i64 y.req.x.c.mt.maxCount, .int .i64 y.req.x.c.mt.maxAge, .int .i64 y.req.x.c.mt.before, .bool y.req.read, .bool y.req.all, .int .i64 y.req.fr, .int .i64 y.req.n, .bool y.req.back, .int .i64 y.rid, .int .i64 y.place, .int .i64 y.ans.err, .int .i64 y.ans.version, .int .i64 y.ans.position, .bool y.ans.again, .slice Aq y.pg.events.length capq, .int .i64 y.pg.next, .bool y.pg.isEnd, .int .i64 y.asked, .int .i64 y.answered]) ∧ Hid (Blk wx ab 61 #[.int .i64 d.nd, .int .i64 d.id, .int .i64 d.req.x.c.kind, .int .i64 d.req.x.c.time, .string d.req.x.c.stream, .int .i64 d.req.x.c.expected, .slice Ad d.req.x.c.events.length capd, .int .i64 d.req.x.c.mt.maxCount, .int .i64 d.req.x.c.mt.maxAge, .int .i64 d.req.x.c.mt.before, .bool d.req.read, .bool d.req.all, .int .i64 d.req.fr, .int .i64 d.req.n, .bool d.req.back, .int .i64 d.rid, .int .i64 d.place, .int .i64 d.ans.err, .int .i64 d.ans.version, .int .i64 d.ans.position, .bool d.ans.again, .slice Ap d.pg.events.length capp, .int .i64 d.pg.next, .bool d.pg.isEnd, .int .i64 d.asked, .int .i64 d.answered]) ∧ Hid (Only [] w2 wx))
          case first =>
            go_wp2_with (first
              | (refine wpList_load_row2 rfl 61 (.tmp 19) rfl b (off + j * 26) rfl 26 [.int .i64 y.nd, .int .i64 y.id, .int .i64 y.req.x.c.kind, .int .i64 y.req.x.c.time, .string y.req.x.c.stream, .int .i64 y.req.x.c.expected, .slice Ay y.req.x.c.events.length capy, .int .i64 y.req.x.c.mt.maxCount, .int .i64 y.req.x.c.mt.maxAge, .int .i64 y.req.x.c.mt.before, .bool y.req.read, .bool y.req.all, .int .i64 y.req.fr, .int .i64 y.req.n, .bool y.req.back, .int .i64 y.rid, .int .i64 y.place, .int .i64 y.ans.err, .int .i64 y.ans.version, .int .i64 y.ans.position, .bool y.ans.again, .slice Aq y.pg.events.length capq, .int .i64 y.pg.next, .bool y.pg.isEnd, .int .i64 y.asked, .int .i64 y.answered] rfl HCc.out Tryz.underlying61 rfl (by kernel_rfl) ?_)
              | (refine wpList_store_new rfl 61 (.tmp 6) (.tmp 20) rfl _ _ 26 [.int .i64 y.nd, .int .i64 y.id, .int .i64 y.req.x.c.kind, .int .i64 y.req.x.c.time, .string y.req.x.c.stream, .int .i64 y.req.x.c.expected, .slice Ay y.req.x.c.events.length capy, .int .i64 y.req.x.c.mt.maxCount, .int .i64 y.req.x.c.mt.maxAge, .int .i64 y.req.x.c.mt.before, .bool y.req.read, .bool y.req.all, .int .i64 y.req.fr, .int .i64 y.req.n, .bool y.req.back, .int .i64 y.rid, .int .i64 y.place, .int .i64 y.ans.err, .int .i64 y.ans.version, .int .i64 y.ans.position, .bool y.ans.again, .slice Aq y.pg.events.length capq, .int .i64 y.pg.next, .bool y.pg.isEnd, .int .i64 y.asked, .int .i64 y.answered] rfl rfl rfl rfl (by kernel_rfl) (by simp [Value.oneCell']) ?_))
            go_meet
            exact ⟨rfl, _, rfl, Lib.hid hB3, Lib.hid hgB, Lib.hid hO3⟩
          rename World => w3
          obtain ⟨rfl, ab2, rfl, HB3, HB4, HO3⟩ := hcut
          have g16 : w3.cell? ⟨ab, 16, none⟩ = some (.int .i64 d.place) := HB4.out.cell 16
          have g25 : w3.cell? ⟨ab, 25, none⟩ = some (.int .i64 d.answered) := HB4.out.cell 25
          have y16 : w3.cell? ⟨ab2, 16, none⟩ = some (.int .i64 y.place) := HB3.out.cell 16
          have y24 : w3.cell? ⟨ab2, 24, none⟩ = some (.int .i64 y.asked) := HB3.out.cell 24
          clear hB3 hO3 hgB HCc HB3 HB4
          have hfin : ∀ W, Only [] w2 W → Only [] w W := fun W h => HO1.out.trans h
          have HFin := Lib.hid hfin
          have hnx : (k ≠ j → pairF d y = false) → ∀ i (hi : i < ds.length), i < j + 1 → k ≠ i → pairF d ds[i] = false := fun hq i hi hij hne => by
            by_cases e : i = j
            · subst e
              rw [← HYX.out]
              exact hq hne
            · exact hQ.out i hi (by omega) hne
          have hbad : k ≠ j → pairF d y = true → orderedF ds = false := fun hne hq => orderedF_false (fun hP => by
            have := hP k j hlt hjt hne
            rw [← HDX.out, ← HYX.out, hq] at this
            cases this)
          have HNx := Lib.hid hnx
          have HBad := Lib.hid hbad
          clear HYX hnx hbad hQ hfin HDX
          by_cases hkj : k = j
          · have HQ3 := Lib.hid (HNx.out (fun q => absurd hkj q))
            clear HNx HBad
            subst hkj
            go_wp2_with fail
            exact ⟨⟨k + 1, hjt, by simp, HO3, HQ3⟩, by simp [intOf]; omega⟩
          · have hne : ((k : Int) != (j : Int)) = true := by rw [bne_iff_ne]; omega
            have hne2 : (k != j) = true := by rw [bne_iff_ne]; exact hkj
            have hne3 : (k == j) = false := by rw [beq_eq_false_iff_ne]; exact hkj
            have HNe := Lib.hid hkj
            by_cases hpl : d.place = y.place
            · have HB := Lib.hid (HBad.out HNe.out (by unfold pairF; rw [decide_eq_true hpl]; rfl))
              clear HNx HBad
              go_wp2_with fail
              go_ret
              exact ⟨ret_b (by rw [HB.out]), HFin.out _ HO3.out⟩
            · have hp0 : y.place ≠ d.place := fun q => hpl q.symm
              by_cases hlt2 : d.answered < y.asked
              · by_cases hgt : y.place < d.place
                · have HB := Lib.hid (HBad.out HNe.out (by unfold pairF; rw [decide_eq_true hlt2, decide_eq_true hgt]; simp))
                  clear HNx HBad
                  go_wp2_with fail
                  go_ret
                  exact ⟨ret_b (by rw [HB.out]), HFin.out _ HO3.out⟩
                · have HQ3 := Lib.hid (HNx.out (fun _ => by unfold pairF; rw [decide_eq_false hpl, decide_eq_false hgt]; simp))
                  clear HNx HBad
                  go_wp2_with fail
                  exact ⟨⟨j + 1, hjt, by simp, HO3, HQ3⟩, by simp [intOf]; omega⟩
              · have HQ3 := Lib.hid (HNx.out (fun _ => by unfold pairF; rw [decide_eq_false hpl, decide_eq_false hlt2]; simp))
                clear HNx HBad
                go_wp2_with fail
                exact ⟨⟨j + 1, hjt, by simp, HO3, HQ3⟩, by simp [intOf]; omega⟩
        · have HQ3 := Lib.hid (show ∀ i i' (hi : i < ds.length) (hi' : i' < ds.length), i < k + 1 → i ≠ i' → pairF ds[i] ds[i'] = false from fun i i' hi hi' hlt' hne => by
            by_cases e : i = k
            · subst e
              rw [← HDX.out]
              exact hQ.out i' hi' (by omega) hne
            · exact hP.out i i' hi hi' (by omega) hne)
          have HO3 := Lib.hid (HO1.out.trans hO2.out)
          clear HDX hQ hO2
          go_wp2_with fail
          exact ⟨⟨k + 1, hlt, by simp, HO3, HQ3⟩, by simp [intOf]; omega⟩
    · have HF := Lib.hid (orderedF_true (l := ds) (fun i j hi hj hne => hP.out i j hi hj (by omega) hne))
      clear HDs HDo
      go_wp2
      go_ret
      exact ⟨ret_b (by rw [HF.out]), hO.out⟩
end
end Go.Proofs.YteinoiicnmemhaaGreatDoor
/- Contract: audit.Explain. -/
set_option linter.unusedVariables false
set_option linter.unusedSimpArgs false
namespace Go.Proofs.YteinoiicnmemhaaGreatDoor
open Go.RowKit Go Go.Sort
theorem infoDn : (Tryz.prog.info? 61).map (fun i => (i.zero, i.size, i.bytes)) = some (some (.agg #[.int .i64 0, .int .i64 0, .int .i64 0, .int .i64 0, .string ⟨#[]⟩, .int .i64 0, .slice none 0 0, .int .i64 0, .int .i64 0, .int .i64 0, .bool false, .bool false, .int .i64 0, .int .i64 0, .bool false, .int .i64 0, .int .i64 0, .int .i64 0, .int .i64 0, .int .i64 0, .bool false, .slice none 0 0, .int .i64 0, .bool false, .int .i64 0, .int .i64 0]), 26, 240) := by kernel_rfl
theorem infoDn2 : (Tryz.prog.info? 61).map (fun i => (i.zero, i.size)) = some (some (.agg #[.int .i64 0, .int .i64 0, .int .i64 0, .int .i64 0, .string ⟨#[]⟩, .int .i64 0, .slice none 0 0, .int .i64 0, .int .i64 0, .int .i64 0, .bool false, .bool false, .int .i64 0, .int .i64 0, .bool false, .int .i64 0, .int .i64 0, .int .i64 0, .int .i64 0, .int .i64 0, .bool false, .slice none 0 0, .int .i64 0, .bool false, .int .i64 0, .int .i64 0]), 26) := by kernel_rfl
theorem zeroDn (w : World) : (zeroValue 61).run Tryz.prog w = .ok (.agg #[.int .i64 0, .int .i64 0, .int .i64 0, .int .i64 0, .string ⟨#[]⟩, .int .i64 0, .slice none 0 0, .int .i64 0, .int .i64 0, .int .i64 0, .bool false, .bool false, .int .i64 0, .int .i64 0, .bool false, .int .i64 0, .int .i64 0, .int .i64 0, .int .i64 0, .int .i64 0, .bool false, .slice none 0 0, .int .i64 0, .bool false, .int .i64 0, .int .i64 0]) w := (zero_of_info infoDn2).1 w
def DoneV.val (d : DoneV) : Value := .agg d.cells.toArray
/-- What lies there while the answers are gone through. -/
structure Ex1 (w wr : World) (mb : Nat) (v : Value) (T : List DoneV) (kv : List (Int × Value)) : Prop where
  only : Only [] w wr
  row : wr.ownsRow w.heap.size 61 26 v T.length (T.flatMap DoneV.cells)
  map : MapIs (Value.int .i64) wr mb kv
  above : w.heap.size ≤ mb
  at_ : ∀ q, aget kv q = (atD T q).map DoneV.val
theorem Ex1.keep0 {w wr w' : World} {mb : Nat} {v : Value} {T : List DoneV} {kv : List (Int × Value)} (h : Ex1 w wr mb v T kv) (k : Only [] wr w') : Ex1 w w' mb v T kv := ⟨h.only.trans k, own_only h.row k (by simp), h.map.only k (by simp), h.above, h.at_⟩
/-- A told one more: the row has grown in w2, then the map takes it. -/
theorem Ex1.told {w wr w2 w3 : World} {mb : Nat} {v v2 : Value} {T : List DoneV} {kv : List (Int × Value)} {d : DoneV} (h : Ex1 w wr mb v T kv) (k1 : Only v.ownBlock.toList wr w2) (hr : w2.ownsRow w.heap.size 61 26 v2 (T ++ [d]).length ((T ++ [d]).flatMap DoneV.cells))
    (hm : MapIs (Value.int .i64) w3 mb (aput kv d.place d.val)) (k2 : Only [mb] w2 w3) : Ex1 w w3 mb v2 (T ++ [d]) (aput kv d.place d.val) := by
  have hmb := h.above
  refine ⟨?_, own_only hr k2 (fun g hg q => ?_), hm, hmb, fun q => ?_⟩
  · exact (h.only.step k1 (fun i hi => .inr (World.ownsRow.lt h.row i (by simpa using hi)).1)).step k2 (fun i hi => by simp at hi; subst hi; exact .inr hmb)
  · simp at q
    subst q
    obtain ⟨cur, hb⟩ := own_type hr hg
    have h2 : MapIs (Value.int .i64) w2 g kv := h.map.only k1 (fun q => by
      obtain ⟨cur, hb⟩ := own_type h.row (by simpa using q)
      exact h.map.ne_blk hb rfl)
    exact h2.ne_blk hb rfl
  · rw [aget_aput, atD_snoc, h.at_ q]
    split
    · rfl
    · rfl
open Classical in
theorem explainF_ord {es : List EntV} {ds : List DoneV} (h1 : ∀ d ∈ ds, d.place < es.length) (h2 : ∀ i (hi : i < es.length) d, atD (toldF ds) i = some d → RightAt es i hi d) : explainF es ds = orderedF (toldF ds) := by
  unfold explainF orderedF
  by_cases h : OrderedP (toldF ds)
  · rw [decide_eq_true h, decide_eq_true (⟨h1, h2, h⟩ : ExplainP es ds)]
  · rw [decide_eq_false h, decide_eq_false (fun q : ExplainP es ds => h q.ord)]
section
variable {w : World} {v1 v2 : Value} {es : List EntV} {ds : List DoneV}
set_option maxRecDepth 100000 in
set_option maxHeartbeats 16000000 in
theorem explain_any (hes : Slc w 9 v1 es.length (es.flatMap EntV.cells)) (hds : Slc w 26 v2 ds.length (ds.flatMap DoneV.cells)) (hle : es.length ≤ 1000) (hld : ds.length ≤ 200)
    (hc : ∀ e ∈ es, CmdOk e.x.c ∧ Slc w 4 e.x.ev e.x.c.events.length (e.x.c.events.flatMap EventR.cells) ∧ ∀ g, e.x.ev.ownBlock = some g → g < w.heap.size ∨ e.x.c.events = []) (hcf : ∀ e ∈ es, e.x.c.events.length ≤ 1000000) (hd : ∀ d ∈ ds, DoneOk w d) :
    Calls Tryz.prog 15 #[v1, v2] w fun e w' => e = .returned (.bool (explainF es ds)) ∧ Only [] w w' := by
  obtain ⟨Ae, cape, rfl, hne, hce, hee⟩ := hes.openE EntV.cells (fun _ => rfl)
  obtain ⟨A0, cap, rfl, hnc, hcm, hel⟩ := hds.openE DoneV.cells (fun _ => rfl)
  unfold maxLen at hcm hce
  have HDs := Lib.hid hel
  have HEs := Lib.hid hee
  have HDo := Lib.hid hd
  have HC := Lib.hid hc
  have HCf := Lib.hid hcf
  have HN := Lib.hid (fun (W : World) => has_newS W W (Only.refl _ _) [] (by simp))
  have hmm := @run_makeMap Tryz.prog
  obtain ⟨mb, hmb⟩ : ∃ mb, w.heap.size = mb := ⟨_, rfl⟩
  have HX0 := Lib.hid (show Ex1 w (w.alloc (.map #[] 0)) mb (.slice none 0 0) [] [] from ⟨(Only.refl _ _).alloc _, World.ownsRow_nil _ _ _ _, by rw [← hmb]; exact MapIs.new _ _, by omega, fun q => rfl⟩)
  clear hes hds hel hee hd hc hcf
  go_enter Tryz.func15, Tryz.ntmps15
  go_wp2_with fail
  try rw [hmb]
  clear hmb hmm
  go_loopw [6, 27] (fun ov iv wr => ∃ (k : Nat) (v : Value) (T : List DoneV) (kv : List (Int × Value)), k ≤ ds.length ∧ ov = v ∧ iv = .int .i64 k ∧ Hid (T = toldF (ds.take k)) ∧ Hid (∀ d ∈ ds.take k, d.place < es.length) ∧ Hid (Ex1 w wr mb v T kv)) (fun _ iv _ => ds.length - (intOf iv).toNat)
  case atStart => exact ⟨0, _, [], [], Nat.zero_le _, rfl, rfl, by unfold Hid; rfl, by unfold Hid; simp, HX0⟩
  case round =>
    obtain ⟨k, v, T, kv, hk, rfl, rfl, hT, hIn, hX⟩ := hrel
    obtain ⟨Av, cv, rfl, _, _⟩ := own_form hX.out.row
    by_cases hlt : k < ds.length
    · obtain ⟨b, off, rfl, hbb, hcc⟩ := HDs.out k hlt
      obtain ⟨d, hdx⟩ : ∃ d, d = ds[k] := ⟨_, rfl⟩
      have hdm : d ∈ ds := by rw [hdx]; exact List.getElem_mem hlt
      rw [← hdx] at hcc
      have HCc := Lib.hid (fun (W : World) (hO : Only [] w W) (i : Nat) (hi : i < 26) => (hO.cell (p := ⟨b, off + k * 26 + i, none⟩) hbb (by simp)).trans (hcc i hi))
      have hdo := HDo.out d hdm
      obtain ⟨Ad, capd, hvd, _, _, _⟩ := hdo.ev.openE EventR.cells (fun _ => rfl)
      obtain ⟨Ap, capp, hvp, _, _, _⟩ := hdo.pg.openE StoredR.cells (fun _ => rfl)
      have hcd : d.cells = [.int .i64 d.nd, .int .i64 d.id, .int .i64 d.req.x.c.kind, .int .i64 d.req.x.c.time, .string d.req.x.c.stream, .int .i64 d.req.x.c.expected, .slice Ad d.req.x.c.events.length capd, .int .i64 d.req.x.c.mt.maxCount, .int .i64 d.req.x.c.mt.maxAge, .int .i64 d.req.x.c.mt.before, .bool d.req.read, .bool d.req.all, .int .i64 d.req.fr, .int .i64 d.req.n, .bool d.req.back, .int .i64 d.rid, .int .i64 d.place, .int .i64 d.ans.err, .int .i64 d.ans.version, .int .i64 d.ans.position, .bool d.ans.again, .slice Ap d.pg.events.length capp, .int .i64 d.pg.next, .bool d.pg.isEnd, .int .i64 d.asked, .int .i64 d.answered] := by rw [← hvd, ← hvp]; rfl
      rw [hcd] at HCc
      have hdr : ds.take (k + 1) = ds.take k ++ [d] := by rw [List.take_succ_eq_append_getElem hlt, ← hdx]
      have HDR := Lib.hid hdr
      have HCD := Lib.hid hcd
      have HR := Lib.hid (HCc.out wr hX.out.only)
      have hB := Blk.new wr 61 #[.int .i64 d.nd, .int .i64 d.id, .int .i64 d.req.x.c.kind, .int .i64 d.req.x.c.time, .string d.req.x.c.stream, .int .i64 d.req.x.c.expected, .slice Ad d.req.x.c.events.length capd, .int .i64 d.req.x.c.mt.maxCount, .int .i64 d.req.x.c.mt.maxAge, .int .i64 d.req.x.c.mt.before, .bool d.req.read, .bool d.req.all, .int .i64 d.req.fr, .int .i64 d.req.n, .bool d.req.back, .int .i64 d.rid, .int .i64 d.place, .int .i64 d.ans.err, .int .i64 d.ans.version, .int .i64 d.ans.position, .bool d.ans.again, .slice Ap d.pg.events.length capp, .int .i64 d.pg.next, .bool d.pg.isEnd, .int .i64 d.asked, .int .i64 d.answered]
      have hX1 := hX.out.keep0 ((Only.refl [] wr).alloc (.cells #[.int .i64 d.nd, .int .i64 d.id, .int .i64 d.req.x.c.kind, .int .i64 d.req.x.c.time, .string d.req.x.c.stream, .int .i64 d.req.x.c.expected, .slice Ad d.req.x.c.events.length capd, .int .i64 d.req.x.c.mt.maxCount, .int .i64 d.req.x.c.mt.maxAge, .int .i64 d.req.x.c.mt.before, .bool d.req.read, .bool d.req.all, .int .i64 d.req.fr, .int .i64 d.req.n, .bool d.req.back, .int .i64 d.rid, .int .i64 d.place, .int .i64 d.ans.err, .int .i64 d.ans.version, .int .i64 d.ans.position, .bool d.ans.again, .slice Ap d.pg.events.length capp, .int .i64 d.pg.next, .bool d.pg.isEnd, .int .i64 d.asked, .int .i64 d.answered] 61))
      have hdn : ∀ g, (Value.slice Av T.length cv).ownBlock = some g → g ≠ wr.heap.size := fun g hg => by have := (World.ownsRow.lt hX.out.row g hg).2; omega
      clear hcd hvd hvp hdo hcc hdx HCc hdr hX
      go_upto_region 7 with (fail)
      go_cut [8] from 28 to 30 (fun s8 wx => ∃ db, s8 = .pointer (some ⟨db, 0, none⟩) ∧ Hid (∀ g, (Value.slice Av T.length cv).ownBlock = some g → g ≠ db) ∧ Hid (Blk wx db 61 #[.int .i64 d.nd, .int .i64 d.id, .int .i64 d.req.x.c.kind, .int .i64 d.req.x.c.time, .string d.req.x.c.stream, .int .i64 d.req.x.c.expected, .slice Ad d.req.x.c.events.length capd, .int .i64 d.req.x.c.mt.maxCount, .int .i64 d.req.x.c.mt.maxAge, .int .i64 d.req.x.c.mt.before, .bool d.req.read, .bool d.req.all, .int .i64 d.req.fr, .int .i64 d.req.n, .bool d.req.back, .int .i64 d.rid, .int .i64 d.place, .int .i64 d.ans.err, .int .i64 d.ans.version, .int .i64 d.ans.position, .bool d.ans.again, .slice Ap d.pg.events.length capp, .int .i64 d.pg.next, .bool d.pg.isEnd, .int .i64 d.asked, .int .i64 d.answered]) ∧ Hid (Ex1 w wx mb (.slice Av T.length cv) T kv))
      case first =>
        go_wp2_with (first
          | (refine wpList_load_row2 rfl 61 (.tmp 29) rfl b (off + k * 26) rfl 26 [.int .i64 d.nd, .int .i64 d.id, .int .i64 d.req.x.c.kind, .int .i64 d.req.x.c.time, .string d.req.x.c.stream, .int .i64 d.req.x.c.expected, .slice Ad d.req.x.c.events.length capd, .int .i64 d.req.x.c.mt.maxCount, .int .i64 d.req.x.c.mt.maxAge, .int .i64 d.req.x.c.mt.before, .bool d.req.read, .bool d.req.all, .int .i64 d.req.fr, .int .i64 d.req.n, .bool d.req.back, .int .i64 d.rid, .int .i64 d.place, .int .i64 d.ans.err, .int .i64 d.ans.version, .int .i64 d.ans.position, .bool d.ans.again, .slice Ap d.pg.events.length capp, .int .i64 d.pg.next, .bool d.pg.isEnd, .int .i64 d.asked, .int .i64 d.answered] rfl HR.out Tryz.underlying61 rfl (by kernel_rfl) ?_)
          | (refine wpList_store_new rfl 61 (.tmp 8) (.tmp 30) rfl _ _ 26 [.int .i64 d.nd, .int .i64 d.id, .int .i64 d.req.x.c.kind, .int .i64 d.req.x.c.time, .string d.req.x.c.stream, .int .i64 d.req.x.c.expected, .slice Ad d.req.x.c.events.length capd, .int .i64 d.req.x.c.mt.maxCount, .int .i64 d.req.x.c.mt.maxAge, .int .i64 d.req.x.c.mt.before, .bool d.req.read, .bool d.req.all, .int .i64 d.req.fr, .int .i64 d.req.n, .bool d.req.back, .int .i64 d.rid, .int .i64 d.place, .int .i64 d.ans.err, .int .i64 d.ans.version, .int .i64 d.ans.position, .bool d.ans.again, .slice Ap d.pg.events.length capp, .int .i64 d.pg.next, .bool d.pg.isEnd, .int .i64 d.asked, .int .i64 d.answered] rfl rfl rfl rfl (by kernel_rfl) (by simp [Value.oneCell']) ?_))
        go_meet
        exact ⟨_, rfl, Lib.hid hdn, Lib.hid hB, Lib.hid hX1⟩
      rename World => w2
      obtain ⟨db, rfl, HDn, HB, HX⟩ := hcut
      clear hdn hB hX1 HR
      have g16 : w2.cell? ⟨db, 16, none⟩ = some (.int .i64 d.place) := HB.out.cell 16
      by_cases hp0 : d.place < 0
      · have HT2 := Lib.hid (show T = toldF (ds.take (k + 1)) from by rw [HDR.out, toldF_snoc, if_neg (by omega)]; exact hT.out)
        have HIn2 := Lib.hid (show ∀ y ∈ ds.take (k + 1), y.place < es.length from fun y hy => by
          rw [HDR.out] at hy
          rcases List.mem_append.1 hy with q | q
          · exact hIn.out y q
          · simp at q; subst q; omega)
        clear hT hIn HDR
        go_wp2_with fail
        exact ⟨⟨k + 1, _, T, kv, hlt, rfl, by simp, HT2, HIn2, HX⟩, by simp [intOf]; omega⟩
      · by_cases hp1 : (es.length : Int) ≤ d.place
        · have HF := Lib.hid (explainF_false (es := es) (ds := ds) (fun hE => by have := hE.inside d hdm; omega))
          go_wp2_with fail
          go_ret
          exact ⟨ret_b (by rw [HF.out]), HX.out.only⟩
        · have hX := HX.out
          have hrow := hX.row
          obtain ⟨S, hS⟩ : ∃ S : List Nat, S = mb :: (Value.slice Av T.length cv).ownBlock.toList := ⟨_, rfl⟩
          have hdb : db ∉ S := fun q => by
            rw [hS] at q
            rcases List.mem_cons.1 q with q | q
            · exact hX.map.ne_blk HB.out q.symm
            · exact HDn.out db (by simpa using q) rfl
          have HBW := Lib.hid (fun (W : World) (hW : ∃ p : Within S w2, W = p.W) => show ∀ i, i < 26 → W.cell? ⟨db, 0 + i, none⟩ = [.int .i64 d.nd, .int .i64 d.id, .int .i64 d.req.x.c.kind, .int .i64 d.req.x.c.time, .string d.req.x.c.stream, .int .i64 d.req.x.c.expected, .slice Ad d.req.x.c.events.length capd, .int .i64 d.req.x.c.mt.maxCount, .int .i64 d.req.x.c.mt.maxAge, .int .i64 d.req.x.c.mt.before, .bool d.req.read, .bool d.req.all, .int .i64 d.req.fr, .int .i64 d.req.n, .bool d.req.back, .int .i64 d.rid, .int .i64 d.place, .int .i64 d.ans.err, .int .i64 d.ans.version, .int .i64 d.ans.position, .bool d.ans.again, .slice Ap d.pg.events.length capp, .int .i64 d.pg.next, .bool d.pg.isEnd, .int .i64 d.asked, .int .i64 d.answered][i]? from by
            obtain ⟨p, rfl⟩ := hW
            intro i hi
            have := (p.h.blk HB.out hdb).cell i
            simpa using this)
          have hr4 := (own_only hrow (Only.refl [] w2).drew (by simp)).alloc (.cells #[.int .i64 d.nd, .int .i64 d.id, .int .i64 d.req.x.c.kind, .int .i64 d.req.x.c.time, .string d.req.x.c.stream, .int .i64 d.req.x.c.expected, .slice Ad d.req.x.c.events.length capd, .int .i64 d.req.x.c.mt.maxCount, .int .i64 d.req.x.c.mt.maxAge, .int .i64 d.req.x.c.mt.before, .bool d.req.read, .bool d.req.all, .int .i64 d.req.fr, .int .i64 d.req.n, .bool d.req.back, .int .i64 d.rid, .int .i64 d.place, .int .i64 d.ans.err, .int .i64 d.ans.version, .int .i64 d.ans.position, .bool d.ans.again, .slice Ap d.pg.events.length capp, .int .i64 d.pg.next, .bool d.pg.isEnd, .int .i64 d.asked, .int .i64 d.answered] 61)
          have hTl : T.length ≤ 200 := by
            rw [hT.out]
            have := List.length_filter_le (fun d : DoneV => decide (0 ≤ d.place)) (ds.take k)
            unfold toldF
            simp at this ⊢
            omega
          have hz2 := hX.only.size
          obtain ⟨A3, cap3, w5, hrun, hown, hO5, hfr⟩ := run_app (P := Tryz.prog) 50 50 w.heap.size 61 (.agg #[.int .i64 0, .int .i64 0, .int .i64 0, .int .i64 0, .string ⟨#[]⟩, .int .i64 0, .slice none 0 0, .int .i64 0, .int .i64 0, .int .i64 0, .bool false, .bool false, .int .i64 0, .int .i64 0, .bool false, .int .i64 0, .int .i64 0, .int .i64 0, .int .i64 0, .int .i64 0, .bool false, .slice none 0 0, .int .i64 0, .bool false, .int .i64 0, .int .i64 0]) 26 240 Tryz.underlying50 infoDn rfl (by decide) hr4 (slc_new1 (w := w2.drew) (e := 61) (size := 26) (cs := [.int .i64 d.nd, .int .i64 d.id, .int .i64 d.req.x.c.kind, .int .i64 d.req.x.c.time, .string d.req.x.c.stream, .int .i64 d.req.x.c.expected, .slice Ad d.req.x.c.events.length capd, .int .i64 d.req.x.c.mt.maxCount, .int .i64 d.req.x.c.mt.maxAge, .int .i64 d.req.x.c.mt.before, .bool d.req.read, .bool d.req.all, .int .i64 d.req.fr, .int .i64 d.req.n, .bool d.req.back, .int .i64 d.rid, .int .i64 d.place, .int .i64 d.ans.err, .int .i64 d.ans.version, .int .i64 d.ans.position, .bool d.ans.again, .slice Ap d.pg.events.length capp, .int .i64 d.pg.next, .bool d.pg.isEnd, .int .i64 d.asked, .int .i64 d.answered]) rfl) (by simp [Value.oneCell']) (by omega) (by unfold maxLen; omega) (by simp; omega)
          have hmr : ∀ g, (Value.slice Av T.length cv).ownBlock = some g → g ≠ mb := fun g hg => by
            obtain ⟨cur, hb⟩ := own_type hrow hg
            exact (hX.map.ne_blk hb).symm
          have hO5' : Only (Value.slice Av T.length cv).ownBlock.toList w2 w5 := ((((Only.refl [] w2).drew).alloc _).of_nil).trans hO5
          have hm5 := hX.map.only hO5' (fun q => hmr mb (by simpa using q) rfl)
          have HM5 := Lib.hid hm5
          have HRun := Lib.hid hrun
          have hrow5 : w5.ownsRow w.heap.size 61 26 (.slice A3 (T.length + 1) cap3) (T ++ [d]).length ((T ++ [d]).flatMap DoneV.cells) := by
            rw [List.flatMap_append, show List.flatMap DoneV.cells [d] = [.int .i64 d.nd, .int .i64 d.id, .int .i64 d.req.x.c.kind, .int .i64 d.req.x.c.time, .string d.req.x.c.stream, .int .i64 d.req.x.c.expected, .slice Ad d.req.x.c.events.length capd, .int .i64 d.req.x.c.mt.maxCount, .int .i64 d.req.x.c.mt.maxAge, .int .i64 d.req.x.c.mt.before, .bool d.req.read, .bool d.req.all, .int .i64 d.req.fr, .int .i64 d.req.n, .bool d.req.back, .int .i64 d.rid, .int .i64 d.place, .int .i64 d.ans.err, .int .i64 d.ans.version, .int .i64 d.ans.position, .bool d.ans.again, .slice Ap d.pg.events.length capp, .int .i64 d.pg.next, .bool d.pg.isEnd, .int .i64 d.asked, .int .i64 d.answered] from by rw [← HCD.out]; simp, List.length_append]
            exact hown
          have HTold := Lib.hid (fun (w6 : World) (hm : MapIs (Value.int .i64) w6 mb (aput kv d.place d.val)) (k2 : Only [mb] w5 w6) => hX.told hO5' hrow5 hm k2)
          have HT2 := Lib.hid (show T ++ [d] = toldF (ds.take (k + 1)) from by rw [HDR.out, toldF_snoc, if_pos (by omega), ← hT.out])
          have HIn2 := Lib.hid (show ∀ y ∈ ds.take (k + 1), y.place < es.length from fun y hy => by
            rw [HDR.out] at hy
            rcases List.mem_append.1 hy with q | q
            · exact hIn.out y q
            · simp at q; subst q; omega)
          have HO5 := Lib.hid hO5'
          have HSm := Lib.hid (show mb ∈ S from by rw [hS]; simp)
          have HSr := Lib.hid (show ∀ g ∈ (Value.slice Av T.length cv).ownBlock.toList, g ∈ S from fun g hg => by rw [hS]; exact List.mem_cons_of_mem _ hg)
          have HTl := Lib.hid (show (T ++ [d]).length = T.length + 1 from by simp)
          have HDv := Lib.hid (show d.val = .agg #[.int .i64 d.nd, .int .i64 d.id, .int .i64 d.req.x.c.kind, .int .i64 d.req.x.c.time, .string d.req.x.c.stream, .int .i64 d.req.x.c.expected, .slice Ad d.req.x.c.events.length capd, .int .i64 d.req.x.c.mt.maxCount, .int .i64 d.req.x.c.mt.maxAge, .int .i64 d.req.x.c.mt.before, .bool d.req.read, .bool d.req.all, .int .i64 d.req.fr, .int .i64 d.req.n, .bool d.req.back, .int .i64 d.rid, .int .i64 d.place, .int .i64 d.ans.err, .int .i64 d.ans.version, .int .i64 d.ans.position, .bool d.ans.again, .slice Ap d.pg.events.length capp, .int .i64 d.pg.next, .bool d.pg.isEnd, .int .i64 d.asked, .int .i64 d.answered] from by unfold DoneV.val; rw [HCD.out])
          clear hS hX hrow hdb hr4 hrun hown hO5 hfr hO5' hm5 hrow5 hT hIn HDR hz2 hTl hmr HX HB
          go_wp2_with fail
          refine wp_region_in S [0, 1, 2, 3, 4] [5, 6, 7] [8] (by kernel_rfl) (by kernel_rfl) (by intro c d u a w h; cases d <;> exact h) ?_
          clear g16
          show wpQuiet _ _ _ _ [_, _, _, _, _] _
          go_big_quiet_step (fail)
          go_big_quiet_step (fail)
          go_big_quiet_want
          refine quiet_load_row 61 (.tmp 8) rfl db 0 rfl 26 [.int .i64 d.nd, .int .i64 d.id, .int .i64 d.req.x.c.kind, .int .i64 d.req.x.c.time, .string d.req.x.c.stream, .int .i64 d.req.x.c.expected, .slice Ad d.req.x.c.events.length capd, .int .i64 d.req.x.c.mt.maxCount, .int .i64 d.req.x.c.mt.maxAge, .int .i64 d.req.x.c.mt.before, .bool d.req.read, .bool d.req.all, .int .i64 d.req.fr, .int .i64 d.req.n, .bool d.req.back, .int .i64 d.rid, .int .i64 d.place, .int .i64 d.ans.err, .int .i64 d.ans.version, .int .i64 d.ans.position, .bool d.ans.again, .slice Ap d.pg.events.length capp, .int .i64 d.pg.next, .bool d.pg.isEnd, .int .i64 d.asked, .int .i64 d.answered] rfl HBW.out Tryz.underlying61 rfl (by kernel_rfl) ?_
          go_big_quiet_on
          try go_frame
          go_big_quiet_step (fail)
          go_big_quiet_want
          refine quiet_load_row 61 (.tmp 8) rfl db 0 rfl 26 [.int .i64 d.nd, .int .i64 d.id, .int .i64 d.req.x.c.kind, .int .i64 d.req.x.c.time, .string d.req.x.c.stream, .int .i64 d.req.x.c.expected, .slice Ad d.req.x.c.events.length capd, .int .i64 d.req.x.c.mt.maxCount, .int .i64 d.req.x.c.mt.maxAge, .int .i64 d.req.x.c.mt.before, .bool d.req.read, .bool d.req.all, .int .i64 d.req.fr, .int .i64 d.req.n, .bool d.req.back, .int .i64 d.rid, .int .i64 d.place, .int .i64 d.ans.err, .int .i64 d.ans.version, .int .i64 d.ans.position, .bool d.ans.again, .slice Ap d.pg.events.length capp, .int .i64 d.pg.next, .bool d.pg.isEnd, .int .i64 d.asked, .int .i64 d.answered] rfl HBW.out Tryz.underlying61 rfl (by kernel_rfl) ?_
          go_big_quiet_on
          try go_frame
          refine wpQuiet_nil ?_
          show wpList _ _ _ [_] _ _
          go_wp2_with fail
          refine check_of (S := S) (((Only.refl [] w2).drew.alloc _).of_nil) ?_
          show wpList _ _ _ [_] _ _
          go_wp2_with (at_builtin; refine Lib.wpList_append_run _ rfl (.tmp 37) (.tmp 39) 50 50 rfl _ _ rfl rfl _ _ HRun.out ?_)
          refine check_of (S := S) (HO5.out.mono HSr.out) ?_
          show wpList _ _ _ [_] _ _
          go_wp2_with (refine wpList_update_is rfl 107 rfl (keyEnc_int .i64) Tryz.underlying107 Tryz.underlying3 d.place (.agg #[.int .i64 d.nd, .int .i64 d.id, .int .i64 d.req.x.c.kind, .int .i64 d.req.x.c.time, .string d.req.x.c.stream, .int .i64 d.req.x.c.expected, .slice Ad d.req.x.c.events.length capd, .int .i64 d.req.x.c.mt.maxCount, .int .i64 d.req.x.c.mt.maxAge, .int .i64 d.req.x.c.mt.before, .bool d.req.read, .bool d.req.all, .int .i64 d.req.fr, .int .i64 d.req.n, .bool d.req.back, .int .i64 d.rid, .int .i64 d.place, .int .i64 d.ans.err, .int .i64 d.ans.version, .int .i64 d.ans.position, .bool d.ans.again, .slice Ap d.pg.events.length capp, .int .i64 d.pg.next, .bool d.pg.isEnd, .int .i64 d.asked, .int .i64 d.answered]) rfl rfl rfl HM5.out ?_; intro w6 hm6 hk6)
          rw [← HDv.out] at hm6
          have hX6 := HTold.out w6 hm6 hk6
          have HX6 := Lib.hid hX6
          refine check_of (S := S) ((HO5.out.mono HSr.out).trans (hk6.mono (fun g hg => by simp at hg; subst hg; exact HSm.out))) ?_
          clear hm6 hk6 hX6
          show wpList _ _ _ [_] _ _
          go_wp2_with fail
          exact ⟨⟨k + 1, _, T ++ [d], _, hlt, rfl, by simp, HT2, HIn2, HX6⟩, by simp [intOf]; omega⟩
    · have hkl : ds.take k = ds := List.take_of_length_le (by omega)
      have hT2 := hT.out
      have hIn2 := hIn.out
      rw [hkl] at hT2 hIn2
      have HT := Lib.hid hT2
      have HIn := Lib.hid hIn2
      have HX := hX
      clear hkl hT2 hIn2 hT hIn hX HX0 HDs
      rename World => wd
      go_wp2_with fail
      clear hlt hk
      refine (HN.out _).mono ?_
      rintro e w3 ⟨rfl, hs3, k3⟩
      obtain ⟨sb, hsb⟩ : ∃ sb, wd.heap.size + 1 = sb := ⟨_, rfl⟩
      obtain ⟨smb, hsm⟩ : ∃ smb, wd.heap.size = smb := ⟨_, rfl⟩
      have HS3 := Lib.hid (show HasS wd w3 [] [] sb smb MS.new 0 from by rw [← hsb, ← hsm]; exact hs3)
      rw [hsb]
      clear hsb hsm hs3 k3 HN
      go_wp2_with fail
      go_loopw [53] (fun iv wr => ∃ k : Nat, k ≤ es.length ∧ iv = .int .i64 k ∧ Hid (HasS wd wr [] [] sb smb (runE MS.new (es.take k)) k) ∧ Hid (∀ i (hi : i < es.length), i < k → ∀ d, atD T i = some d → RightAt es i hi d)) (fun iv _ => es.length - (intOf iv).toNat)
      case atStart => exact ⟨0, Nat.zero_le _, rfl, HS3, by unfold Hid; intro i hi h0; omega⟩
      case round =>
        rename_i k00
        obtain ⟨k, hk, rfl, hS, hR⟩ := hrel
        by_cases hlt : k < es.length
        · obtain ⟨b, off, rfl, hbb, hcc⟩ := HEs.out k hlt
          obtain ⟨x, hx⟩ : ∃ x, x = es[k] := ⟨_, rfl⟩
          have hxm : x ∈ es := by rw [hx]; exact List.getElem_mem hlt
          have hrt := runE_take MS.new es hlt
          rw [← hx] at hcc hrt
          have hO := HX.out.only.trans hS.out.only
          have HCc := Lib.hid (fun (W : World) (hO : Only [] w W) (i : Nat) (hi : i < 9) => (hO.cell (p := ⟨b, off + k * 9 + i, none⟩) hbb (by simp)).trans (hcc i hi))
          obtain ⟨q1, q2, q3⟩ := HC.out x hxm
          obtain ⟨Ax, capx, hxv, _, _, _⟩ := q2.openE EventR.cells (fun _ => rfl)
          have c0 : (wr).cell? ⟨b, off + k * 9, none⟩ = some (.int .i64 x.ep) := HCc.out _ hO 0 (by omega)
          have c1 : (wr).cell? ⟨b, off + k * 9 + 1, none⟩ = some (.int .i64 x.x.c.kind) := HCc.out _ hO 1 (by omega)
          have c2 : (wr).cell? ⟨b, off + k * 9 + 2, none⟩ = some (.int .i64 x.x.c.time) := HCc.out _ hO 2 (by omega)
          have c3 : (wr).cell? ⟨b, off + k * 9 + 3, none⟩ = some (.string x.x.c.stream) := HCc.out _ hO 3 (by omega)
          have c4 : (wr).cell? ⟨b, off + k * 9 + 4, none⟩ = some (.int .i64 x.x.c.expected) := HCc.out _ hO 4 (by omega)
          have c5 : (wr).cell? ⟨b, off + k * 9 + 5, none⟩ = some (.slice Ax x.x.c.events.length capx) := (HCc.out _ hO 5 (by omega)).trans (by rw [← hxv]; rfl)
          have c6 : (wr).cell? ⟨b, off + k * 9 + 6, none⟩ = some (.int .i64 x.x.c.mt.maxCount) := HCc.out _ hO 6 (by omega)
          have c7 : (wr).cell? ⟨b, off + k * 9 + 7, none⟩ = some (.int .i64 x.x.c.mt.maxAge) := HCc.out _ hO 7 (by omega)
          have c8 : (wr).cell? ⟨b, off + k * 9 + 8, none⟩ = some (.int .i64 x.x.c.mt.before) := HCc.out _ hO 8 (by omega)
          have hev : Slc w 4 (.slice Ax x.x.c.events.length capx) x.x.c.events.length (x.x.c.events.flatMap EventR.cells) := by rw [← hxv]; exact q2
          have hwd := HX.out.only.size
          have HDo2 := Lib.hid (fun (cs : Array Value) => show Calls Tryz.prog 9 #[.pointer (some ⟨sb, 0, none⟩), .agg #[.int .i64 x.x.c.kind, .int .i64 x.x.c.time, .string x.x.c.stream, .int .i64 x.x.c.expected, .slice Ax x.x.c.events.length capx, .int .i64 x.x.c.mt.maxCount, .int .i64 x.x.c.mt.maxAge, .int .i64 x.x.c.mt.before]] (wr.alloc (.cells cs 43)) fun e w' => e = .returned ((runE MS.new (es.take k)).do x.x.c).1.val ∧ HasS wd w' [] [wr.heap.size] sb smb ((runE MS.new (es.take k)).do x.x.c).2 (k + 1) ∧ Keeps wd ([] ++ [wr.heap.size]) (wr.alloc (.cells cs 43)) w' from
            has_do (c := x.x.c) (ev := .slice Ax x.x.c.events.length capx) (hS.out.addE ((Only.refl _ _).alloc _) (Nat.le_refl _) (by simp)) (by omega) q1 ⟨hev.only0 (hO.trans ((Only.refl _ _).alloc _)), fun g hg => by
              rw [← hxv] at hg
              rcases q3 g hg with z | z
              · exact .inl (.inl (by omega))
              · exact .inr (by rw [z]; rfl)⟩)
          have HEv := Lib.hid hev
          rw [← hrt] at HDo2
          obtain ⟨an, han⟩ : ∃ an, ((runE MS.new (es.take k)).do x.x.c).1 = an := ⟨_, rfl⟩
          rw [han] at HDo2
          have HAn := Lib.hid han
          have HX2 := Lib.hid hx
          unfold Ans.val at HDo2
          clear hcc q1 q2 q3 hxv hev hO hrt hx HCc han
          go_upto_region 19 with (go_at_call 9; refine (HDo2.out _).mono ?_; rintro e w5 ⟨rfl, hs5, k5⟩)
          have hbx := k5.blk (Blk.new wr 43 _) (.inr (by simp))
          obtain ⟨xb, hxb⟩ : ∃ xb, wr.heap.size = xb := ⟨_, rfl⟩
          obtain ⟨ab, hab⟩ : ∃ ab, w5.heap.size = ab := ⟨_, rfl⟩
          have k5a := (Only.refl [] w5).alloc (.cells #[.int .i64 an.err, .int .i64 an.version, .int .i64 an.position, .bool an.again] 34)
          obtain ⟨W3, hW3⟩ : ∃ W3, w5.alloc (.cells #[.int .i64 an.err, .int .i64 an.version, .int .i64 an.position, .bool an.again] 34) = W3 := ⟨_, rfl⟩
          have hba := Blk.new w5 34 #[.int .i64 an.err, .int .i64 an.version, .int .i64 an.position, .bool an.again]
          rw [hW3] at k5a hba
          have hbx3 := k5a.blk hbx (by simp)
          have hs6 := hs5.keep k5a
          rw [hxb] at hbx3 hs6
          rw [hab] at hba
          rw [hW3]
          try rw [hxb]
          try rw [hab]
          have HBx := Lib.hid hbx3
          have HBa := Lib.hid hba
          have HS6 := Lib.hid hs6
          have HX3 := Lib.hid (HX.out.keep0 hs6.only)
          clear hbx hbx3 hba hs5 k5 k5a hxb hab hW3 hs6 HDo2 c0 c1 c2 c3 c4 c5 c6 c7 c8
          go_cut [14, 15] from 54 to 67 (fun s14 s15 wx => ∃ db is, s14 = .pointer (some ⟨db, 0, none⟩) ∧ s15 = .bool is ∧ Hid ((atD T k = none ∧ is = false) ∨ ∃ d, atD T k = some d ∧ is = true ∧ Blk wx db 61 d.cells.toArray) ∧ Hid (Only [] W3 wx))
          case first =>
            have HM := Lib.hid HX3.out.map
            have hat := HX3.out.at_ (k : Int)
            cases hd : atD T (k : Int) with
            | none =>
              rw [hd] at hat
              have hv : (aget kv (k : Int)).getD (.agg #[.int .i64 0, .int .i64 0, .int .i64 0, .int .i64 0, .string ⟨#[]⟩, .int .i64 0, .slice none 0 0, .int .i64 0, .int .i64 0, .int .i64 0, .bool false, .bool false, .int .i64 0, .int .i64 0, .bool false, .int .i64 0, .int .i64 0, .int .i64 0, .int .i64 0, .int .i64 0, .bool false, .slice none 0 0, .int .i64 0, .bool false, .int .i64 0, .int .i64 0]) = .agg #[.int .i64 0, .int .i64 0, .int .i64 0, .int .i64 0, .string ⟨#[]⟩, .int .i64 0, .slice none 0 0, .int .i64 0, .int .i64 0, .int .i64 0, .bool false, .bool false, .int .i64 0, .int .i64 0, .bool false, .int .i64 0, .int .i64 0, .int .i64 0, .int .i64 0, .int .i64 0, .bool false, .slice none 0 0, .int .i64 0, .bool false, .int .i64 0, .int .i64 0] := by rw [hat]; rfl
              have hi : (aget kv (k : Int)).isSome = false := by rw [hat]; rfl
              have HV := Lib.hid hv
              have HI := Lib.hid hi
              have HD := Lib.hid hd
              clear hat hv hi hd
              go_wp2_with (first
                | (refine wpList_lookup_ok_is rfl 107 rfl (keyEnc_int .i64) Tryz.underlying107 Tryz.underlying3 (zeroDn _) (k : Int) rfl rfl HM.out (.agg #[.int .i64 0, .int .i64 0, .int .i64 0, .int .i64 0, .string ⟨#[]⟩, .int .i64 0, .slice none 0 0, .int .i64 0, .int .i64 0, .int .i64 0, .bool false, .bool false, .int .i64 0, .int .i64 0, .bool false, .int .i64 0, .int .i64 0, .int .i64 0, .int .i64 0, .int .i64 0, .bool false, .slice none 0 0, .int .i64 0, .bool false, .int .i64 0, .int .i64 0]) false HV.out HI.out ?_)
                | (refine wpList_store_new rfl 61 (.tmp 14) (.tmp 66) rfl _ _ 26 [.int .i64 0, .int .i64 0, .int .i64 0, .int .i64 0, .string ⟨#[]⟩, .int .i64 0, .slice none 0 0, .int .i64 0, .int .i64 0, .int .i64 0, .bool false, .bool false, .int .i64 0, .int .i64 0, .bool false, .int .i64 0, .int .i64 0, .int .i64 0, .int .i64 0, .int .i64 0, .bool false, .slice none 0 0, .int .i64 0, .bool false, .int .i64 0, .int .i64 0] rfl rfl rfl rfl (by kernel_rfl) (by simp [Value.oneCell']) ?_))
              go_meet
              exact ⟨_, false, rfl, rfl, Lib.hid (.inl ⟨HD.out, rfl⟩), Lib.hid ((Only.refl _ _).alloc _)⟩
            | some d =>
              rw [hd] at hat
              have hdm : d ∈ ds := by
                have := (atD_mem hd).1
                rw [HT.out] at this
                exact (mem_told.1 this).1
              have hdo := HDo.out d hdm
              obtain ⟨Ad, capd, hvd, _, _, _⟩ := hdo.ev.openE EventR.cells (fun _ => rfl)
              obtain ⟨Ap, capp, hvp, _, _, _⟩ := hdo.pg.openE StoredR.cells (fun _ => rfl)
              have hcd : d.cells = [.int .i64 d.nd, .int .i64 d.id, .int .i64 d.req.x.c.kind, .int .i64 d.req.x.c.time, .string d.req.x.c.stream, .int .i64 d.req.x.c.expected, .slice Ad d.req.x.c.events.length capd, .int .i64 d.req.x.c.mt.maxCount, .int .i64 d.req.x.c.mt.maxAge, .int .i64 d.req.x.c.mt.before, .bool d.req.read, .bool d.req.all, .int .i64 d.req.fr, .int .i64 d.req.n, .bool d.req.back, .int .i64 d.rid, .int .i64 d.place, .int .i64 d.ans.err, .int .i64 d.ans.version, .int .i64 d.ans.position, .bool d.ans.again, .slice Ap d.pg.events.length capp, .int .i64 d.pg.next, .bool d.pg.isEnd, .int .i64 d.asked, .int .i64 d.answered] := by rw [← hvd, ← hvp]; rfl
              have hv : (aget kv (k : Int)).getD (.agg #[.int .i64 0, .int .i64 0, .int .i64 0, .int .i64 0, .string ⟨#[]⟩, .int .i64 0, .slice none 0 0, .int .i64 0, .int .i64 0, .int .i64 0, .bool false, .bool false, .int .i64 0, .int .i64 0, .bool false, .int .i64 0, .int .i64 0, .int .i64 0, .int .i64 0, .int .i64 0, .bool false, .slice none 0 0, .int .i64 0, .bool false, .int .i64 0, .int .i64 0]) = .agg #[.int .i64 d.nd, .int .i64 d.id, .int .i64 d.req.x.c.kind, .int .i64 d.req.x.c.time, .string d.req.x.c.stream, .int .i64 d.req.x.c.expected, .slice Ad d.req.x.c.events.length capd, .int .i64 d.req.x.c.mt.maxCount, .int .i64 d.req.x.c.mt.maxAge, .int .i64 d.req.x.c.mt.before, .bool d.req.read, .bool d.req.all, .int .i64 d.req.fr, .int .i64 d.req.n, .bool d.req.back, .int .i64 d.rid, .int .i64 d.place, .int .i64 d.ans.err, .int .i64 d.ans.version, .int .i64 d.ans.position, .bool d.ans.again, .slice Ap d.pg.events.length capp, .int .i64 d.pg.next, .bool d.pg.isEnd, .int .i64 d.asked, .int .i64 d.answered] := by rw [hat]; show DoneV.val d = _; unfold DoneV.val; rw [hcd]
              have hi : (aget kv (k : Int)).isSome = true := by rw [hat]; rfl
              have HV := Lib.hid hv
              have HI := Lib.hid hi
              have HD := Lib.hid hd
              have HBd := Lib.hid (show Blk (W3.alloc (.cells #[.int .i64 d.nd, .int .i64 d.id, .int .i64 d.req.x.c.kind, .int .i64 d.req.x.c.time, .string d.req.x.c.stream, .int .i64 d.req.x.c.expected, .slice Ad d.req.x.c.events.length capd, .int .i64 d.req.x.c.mt.maxCount, .int .i64 d.req.x.c.mt.maxAge, .int .i64 d.req.x.c.mt.before, .bool d.req.read, .bool d.req.all, .int .i64 d.req.fr, .int .i64 d.req.n, .bool d.req.back, .int .i64 d.rid, .int .i64 d.place, .int .i64 d.ans.err, .int .i64 d.ans.version, .int .i64 d.ans.position, .bool d.ans.again, .slice Ap d.pg.events.length capp, .int .i64 d.pg.next, .bool d.pg.isEnd, .int .i64 d.asked, .int .i64 d.answered] 61)) W3.heap.size 61 d.cells.toArray from by rw [hcd]; exact Blk.new _ _ _)
              clear hat hv hi hd hdo hvd hvp hcd
              go_wp2_with (first
                | (refine wpList_lookup_ok_is rfl 107 rfl (keyEnc_int .i64) Tryz.underlying107 Tryz.underlying3 (zeroDn _) (k : Int) rfl rfl HM.out (.agg #[.int .i64 d.nd, .int .i64 d.id, .int .i64 d.req.x.c.kind, .int .i64 d.req.x.c.time, .string d.req.x.c.stream, .int .i64 d.req.x.c.expected, .slice Ad d.req.x.c.events.length capd, .int .i64 d.req.x.c.mt.maxCount, .int .i64 d.req.x.c.mt.maxAge, .int .i64 d.req.x.c.mt.before, .bool d.req.read, .bool d.req.all, .int .i64 d.req.fr, .int .i64 d.req.n, .bool d.req.back, .int .i64 d.rid, .int .i64 d.place, .int .i64 d.ans.err, .int .i64 d.ans.version, .int .i64 d.ans.position, .bool d.ans.again, .slice Ap d.pg.events.length capp, .int .i64 d.pg.next, .bool d.pg.isEnd, .int .i64 d.asked, .int .i64 d.answered]) true HV.out HI.out ?_)
                | (refine wpList_store_new rfl 61 (.tmp 14) (.tmp 66) rfl _ _ 26 [.int .i64 d.nd, .int .i64 d.id, .int .i64 d.req.x.c.kind, .int .i64 d.req.x.c.time, .string d.req.x.c.stream, .int .i64 d.req.x.c.expected, .slice Ad d.req.x.c.events.length capd, .int .i64 d.req.x.c.mt.maxCount, .int .i64 d.req.x.c.mt.maxAge, .int .i64 d.req.x.c.mt.before, .bool d.req.read, .bool d.req.all, .int .i64 d.req.fr, .int .i64 d.req.n, .bool d.req.back, .int .i64 d.rid, .int .i64 d.place, .int .i64 d.ans.err, .int .i64 d.ans.version, .int .i64 d.ans.position, .bool d.ans.again, .slice Ap d.pg.events.length capp, .int .i64 d.pg.next, .bool d.pg.isEnd, .int .i64 d.asked, .int .i64 d.answered] rfl rfl rfl rfl (by kernel_rfl) (by simp [Value.oneCell']) ?_))
              go_meet
              exact ⟨_, true, rfl, rfl, Lib.hid (.inr ⟨d, HD.out, rfl, HBd.out⟩), Lib.hid ((Only.refl _ _).alloc _)⟩
          rename World => w7
          obtain ⟨db, is, rfl, rfl, hat, k7⟩ := hcut
          have hs7 := HS6.out.keep k7.out
          have hO7 := HX3.out.only.trans k7.out
          have HS8 := Lib.hid (hs7.less (R' := []) (E' := []) (by simp) (by simp))
          rcases hat.out with ⟨hn, hi⟩ | ⟨d, hd, hi, hbd⟩
          · subst hi
            have HR2 := Lib.hid (show ∀ i (hi : i < es.length), i < k + 1 → ∀ d, atD T i = some d → RightAt es i hi d from fun i hi hlt' d hd' => by
              by_cases e : i = k
              · subst e
                rw [hn] at hd'
                cases hd'
              · exact hR.out i hi (by omega) d hd')
            clear hs7 hO7 hn hat hR HS6 HX3 HBx HBa
            go_wp2_with fail
            exact ⟨⟨k + 1, hlt, by simp, HS8, HR2⟩, by simp [intOf]; omega⟩
          · subst hi
            have hdm : d ∈ ds := by
              have := (atD_mem hd).1
              rw [HT.out] at this
              exact (mem_told.1 this).1
            have hdo := (HDo.out d hdm).keep0 hO7
            obtain ⟨Ad, capd, hvd, _, _, _⟩ := hdo.ev.openE EventR.cells (fun _ => rfl)
            obtain ⟨Ap, capp, hvp, _, _, _⟩ := hdo.pg.openE StoredR.cells (fun _ => rfl)
            have hcd : d.cells = [.int .i64 d.nd, .int .i64 d.id, .int .i64 d.req.x.c.kind, .int .i64 d.req.x.c.time, .string d.req.x.c.stream, .int .i64 d.req.x.c.expected, .slice Ad d.req.x.c.events.length capd, .int .i64 d.req.x.c.mt.maxCount, .int .i64 d.req.x.c.mt.maxAge, .int .i64 d.req.x.c.mt.before, .bool d.req.read, .bool d.req.all, .int .i64 d.req.fr, .int .i64 d.req.n, .bool d.req.back, .int .i64 d.rid, .int .i64 d.place, .int .i64 d.ans.err, .int .i64 d.ans.version, .int .i64 d.ans.position, .bool d.ans.again, .slice Ap d.pg.events.length capp, .int .i64 d.pg.next, .bool d.pg.isEnd, .int .i64 d.asked, .int .i64 d.answered] := by rw [← hvd, ← hvp]; rfl
            rw [hcd] at hbd
            have gx := fun i => (k7.out.blk HBx.out (by simp)).cell i
            have ga := fun i => (k7.out.blk HBa.out (by simp)).cell i
            have HBd := Lib.hid (show ∀ i, i < 26 → w7.cell? ⟨db, 0 + i, none⟩ = [.int .i64 d.nd, .int .i64 d.id, .int .i64 d.req.x.c.kind, .int .i64 d.req.x.c.time, .string d.req.x.c.stream, .int .i64 d.req.x.c.expected, .slice Ad d.req.x.c.events.length capd, .int .i64 d.req.x.c.mt.maxCount, .int .i64 d.req.x.c.mt.maxAge, .int .i64 d.req.x.c.mt.before, .bool d.req.read, .bool d.req.all, .int .i64 d.req.fr, .int .i64 d.req.n, .bool d.req.back, .int .i64 d.rid, .int .i64 d.place, .int .i64 d.ans.err, .int .i64 d.ans.version, .int .i64 d.ans.position, .bool d.ans.again, .slice Ap d.pg.events.length capp, .int .i64 d.pg.next, .bool d.pg.isEnd, .int .i64 d.asked, .int .i64 d.answered][i]? from fun i hi => by have := hbd.cell i; simpa using this)
            have hinv := run_inv (es.take (k + 1)) inv_new inv2_new MS.new_ok
            have hxc := HCf.out x (by rw [HX2.out]; exact List.getElem_mem hlt)
            have hrg : Calls Tryz.prog 41 #[.pointer (some ⟨sb, 0, none⟩), .agg #[.int .i64 x.x.c.kind, .int .i64 x.x.c.time, .string x.x.c.stream, .int .i64 x.x.c.expected, .slice Ax x.x.c.events.length capx, .int .i64 x.x.c.mt.maxCount, .int .i64 x.x.c.mt.maxAge, .int .i64 x.x.c.mt.before], .agg #[.int .i64 an.err, .int .i64 an.version, .int .i64 an.position, .bool an.again], .agg #[.int .i64 d.nd, .int .i64 d.id, .int .i64 d.req.x.c.kind, .int .i64 d.req.x.c.time, .string d.req.x.c.stream, .int .i64 d.req.x.c.expected, .slice Ad d.req.x.c.events.length capd, .int .i64 d.req.x.c.mt.maxCount, .int .i64 d.req.x.c.mt.maxAge, .int .i64 d.req.x.c.mt.before, .bool d.req.read, .bool d.req.all, .int .i64 d.req.fr, .int .i64 d.req.n, .bool d.req.back, .int .i64 d.rid, .int .i64 d.place, .int .i64 d.ans.err, .int .i64 d.ans.version, .int .i64 d.ans.position, .bool d.ans.again, .slice Ap d.pg.events.length capp, .int .i64 d.pg.next, .bool d.pg.isEnd, .int .i64 d.asked, .int .i64 d.answered]] w7 fun e w' => e = .returned (.bool (rightF (runE MS.new (es.take (k + 1))) x.x.c an d)) ∧ Only [] w7 w' := by
              rw [← hvd, ← hvp]
              cases hrd : d.req.read with
              | false =>
                have := right_no (sb := sb) (s := runE MS.new (es.take (k + 1))) (c := x.x.c) (an := an) hrd hdo (HEv.out.only0 hO7) hxc
                rw [hrd] at this
                exact this
              | true =>
                have := right_yes (an := an) (c := x.x.c) hrd hs7 (by omega) hinv.2.1 hdo (HEv.out.only0 hO7) hxc
                rw [hrd] at this
                exact this
            have hra : RightAt es k hlt d = (rightF (runE MS.new (es.take (k + 1))) x.x.c an d = true) := by
              unfold RightAt
              rw [← HX2.out, HAn.out]
            obtain ⟨b0, hb0⟩ : ∃ b0, rightF (runE MS.new (es.take (k + 1))) x.x.c an d = b0 := ⟨_, rfl⟩
            rw [hb0] at hrg hra
            have HRg := Lib.hid hrg
            have HRa := Lib.hid hra
            have HDd := Lib.hid hd
            clear hinv hrg hdo hvd hvp hcd hbd hs7 hO7 hxc hb0 hra hd hat HEv HX2 HAn HS6 HX3 HBx HBa
            cases b0
            · have HF := Lib.hid (explainF_false (es := es) (ds := ds) (fun hE => by
                have := hE.right k hlt d (by rw [← HT.out]; exact HDd.out)
                rw [HRa.out] at this
                cases this))
              have HOF := Lib.hid (HX.out.only.trans HS8.out.only)
              go_wp2_with (first
                | (refine wpList_load_row2w rfl 61 (.tmp 14) rfl db 0 rfl 26 [.int .i64 d.nd, .int .i64 d.id, .int .i64 d.req.x.c.kind, .int .i64 d.req.x.c.time, .string d.req.x.c.stream, .int .i64 d.req.x.c.expected, .slice Ad d.req.x.c.events.length capd, .int .i64 d.req.x.c.mt.maxCount, .int .i64 d.req.x.c.mt.maxAge, .int .i64 d.req.x.c.mt.before, .bool d.req.read, .bool d.req.all, .int .i64 d.req.fr, .int .i64 d.req.n, .bool d.req.back, .int .i64 d.rid, .int .i64 d.place, .int .i64 d.ans.err, .int .i64 d.ans.version, .int .i64 d.ans.position, .bool d.ans.again, .slice Ap d.pg.events.length capp, .int .i64 d.pg.next, .bool d.pg.isEnd, .int .i64 d.asked, .int .i64 d.answered] rfl HBd.out Tryz.underlying61 rfl (by kernel_rfl) ?_)
                | (go_at_call 41; refine HRg.out.mono ?_; rintro e w8 ⟨rfl, k8⟩))
              go_ret
              exact ⟨ret_b (by rw [HF.out]), HOF.out.trans k8⟩
            · have HR2 := Lib.hid (show ∀ i (hi : i < es.length), i < k + 1 → ∀ d, atD T i = some d → RightAt es i hi d from fun i hi hlt' d' hd' => by
                by_cases e : i = k
                · subst e
                  rw [HDd.out] at hd'
                  injection hd' with hd'
                  subst hd'
                  rw [HRa.out]
                · exact hR.out i hi (by omega) d' hd')
              clear hR
              go_wp2_with (first
                | (refine wpList_load_row2w rfl 61 (.tmp 14) rfl db 0 rfl 26 [.int .i64 d.nd, .int .i64 d.id, .int .i64 d.req.x.c.kind, .int .i64 d.req.x.c.time, .string d.req.x.c.stream, .int .i64 d.req.x.c.expected, .slice Ad d.req.x.c.events.length capd, .int .i64 d.req.x.c.mt.maxCount, .int .i64 d.req.x.c.mt.maxAge, .int .i64 d.req.x.c.mt.before, .bool d.req.read, .bool d.req.all, .int .i64 d.req.fr, .int .i64 d.req.n, .bool d.req.back, .int .i64 d.rid, .int .i64 d.place, .int .i64 d.ans.err, .int .i64 d.ans.version, .int .i64 d.ans.position, .bool d.ans.again, .slice Ap d.pg.events.length capp, .int .i64 d.pg.next, .bool d.pg.isEnd, .int .i64 d.asked, .int .i64 d.answered] rfl HBd.out Tryz.underlying61 rfl (by kernel_rfl) ?_)
                | (go_at_call 41; refine HRg.out.mono ?_; rintro e w8 ⟨rfl, k8⟩))
              exact ⟨⟨k + 1, hlt, by simp, Lib.hid (HS8.out.keep k8), HR2⟩, by simp [intOf]; omega⟩
        · have hkk : k = es.length := by omega
          have hO := HX.out.only.trans hS.out.only
          have hrow := (HX.out.keep0 hS.out.only).row
          have HOr := Lib.hid (aordered_any (ds := T) (Slc.of_own hrow).1 (by
            rw [HT.out]
            have := List.length_filter_le (fun d : DoneV => decide (0 ≤ d.place)) ds
            unfold toldF
            omega) (fun d hd => (HDo.out d (by rw [HT.out] at hd; exact (mem_told.1 hd).1)).keep0 hO))
          have HF := Lib.hid (explainF_ord (es := es) (ds := ds) HIn.out (fun i hi d hd => hR.out i hi (by omega) d (by rw [HT.out]; exact hd)))
          have HO := Lib.hid hO
          clear hO hrow hkk
          go_wp2_with fail
          refine HOr.out.mono ?_
          rintro e w8 ⟨rfl, k8⟩
          go_wp2_with fail
          go_ret
          exact ⟨ret_b (by rw [HF.out, HT.out]), HO.out.trans k8⟩
end
end Go.Proofs.YteinoiicnmemhaaGreatDoor
/- Contracts: audit.Agree of no world; the plain law of AuditNone. -/
set_option linter.unusedVariables false
set_option linter.unusedSimpArgs false
namespace Go.Proofs.YteinoiicnmemhaaGreatDoor
open Go.RowKit Go Go.Sort
set_option maxRecDepth 100000 in
theorem wis_nil (w : World) (i : Int) : Calls Tryz.prog 118 #[.pointer none, .int .i64 i] w fun e w' => e = .returned (.bool false) ∧ w' = w := by
  go_enter Tryz.func118, Tryz.ntmps118
  go_wp2
  go_ret
  exact ⟨rfl, rfl⟩
set_option maxRecDepth 100000 in
theorem wnode_nil (w : World) (i : Int) : Calls Tryz.prog 82 #[.pointer none, .int .i64 i] w fun e w' => e = .returned (.pointer none) ∧ w' = w := by
  have HI := Lib.hid (fun (W : World) => wis_nil W i)
  go_enter Tryz.func82, Tryz.ntmps82
  go_wp2_with (go_at_call 118; refine (HI.out _).mono ?_; rintro e w1 ⟨rfl, rfl⟩)
  go_ret
  exact ⟨rfl, rfl⟩
set_option maxRecDepth 100000 in
set_option maxHeartbeats 4000000 in
theorem anodes_nil (w : World) : Calls Tryz.prog 43 #[.pointer none] w fun e w' => e = .returned (.slice none 0 0) ∧ w' = w := by
  have HN := Lib.hid (fun (i : Int) => wnode_nil w i)
  go_enter Tryz.func43, Tryz.ntmps43
  go_wp2_with fail
  go_loopw [3, 6] (fun ov iv wr => ∃ k : Nat, k ≤ 7 ∧ ov = .slice none 0 0 ∧ iv = .int .i64 k ∧ Hid (wr = w)) (fun _ iv _ => 7 - (intOf iv).toNat)
  case atStart => exact ⟨0, by omega, rfl, rfl, Lib.hid rfl⟩
  case round =>
    obtain ⟨k, hk, rfl, rfl, hwr⟩ := hrel
    have hwr' := hwr.out.symm
    clear hwr
    subst hwr'
    have e9 := IntWalk.i64_in ((k : Int) + 1) ⟨by omega, by omega⟩
    by_cases h7 : k < 7
    · have hki : (k : Int) < 7 := by omega
      go_wp2_with (go_at_call 82; refine (HN.out _).mono ?_; rintro e w1 ⟨rfl, rfl⟩)
      exact ⟨⟨k + 1, by omega, rfl, by simp, Lib.hid trivial⟩, by simp [intOf]; omega⟩
    · have hki : ¬ (k : Int) < 7 := by omega
      go_wp2_with fail
      go_ret
      exact ⟨rfl, rfl⟩
set_option maxRecDepth 100000 in
set_option maxHeartbeats 4000000 in
theorem aagree_nil (w : World) : Calls Tryz.prog 16 #[.pointer none] w fun e w' => e = .returned (.bool true) ∧ w' = w := by
  have HN := Lib.hid (anodes_nil w)
  go_enter Tryz.func16, Tryz.ntmps16
  go_wp2_with fail
  refine HN.out.mono ?_
  rintro e w1 ⟨rfl, hw⟩
  have hw' := hw.symm
  subst hw'
  go_wp2_with fail
  go_loopw [12] (fun iv wr => iv = .int .i64 0 ∧ Hid (wr = w)) (fun _ _ => 0)
  case atStart => exact ⟨rfl, Lib.hid rfl⟩
  case round =>
    obtain ⟨rfl, hwr⟩ := hrel
    have hwr' := hwr.out.symm
    clear hwr
    subst hwr'
    go_wp2_with fail
    go_ret
    exact ⟨rfl, rfl⟩
/-- The answer that the law asks about. -/
def dNone (place : Int) : DoneV := ⟨0, 0, ⟨⟨⟨0, 0, ⟨#[]⟩, 0, [], MetaR.zero⟩, .slice none 0 0⟩, true, true, 0, 500, false⟩, 0, place, ⟨25, 0, 0, false⟩, ⟨[], 0, false⟩, .slice none 0 0, 0, 0⟩
theorem told_neg {place : Int} (h : place < 0) : toldF [dNone place] = [] := by
  unfold toldF
  rw [List.filter_cons, if_neg (by show ¬ decide (0 ≤ place) = true; rw [decide_eq_true_eq]; omega)]
  rfl
theorem told_pos {place : Int} (h : ¬ place < 0) : toldF [dNone place] = [dNone place] := by
  unfold toldF
  rw [List.filter_cons, if_pos (by show decide (0 ≤ place) = true; rw [decide_eq_true_eq]; omega)]
  rfl
theorem explain_none (es : List EntV) (place : Int) : explainF es [dNone place] = decide (place < 0) := by
  by_cases h : place < 0
  · rw [decide_eq_true h]
    refine explainF_true ⟨fun d hd => ?_, fun k hk d hd => ?_, ?_⟩
    · simp at hd
      subst hd
      show place < _
      omega
    · rw [told_neg h] at hd
      cases hd
    · rw [told_neg h]
      intro i j hi
      simp at hi
  · rw [decide_eq_false h]
    refine explainF_false (fun hE => ?_)
    have h1 := hE.inside (dNone place) (by simp)
    have h1' : place < es.length := h1
    obtain ⟨k, hk⟩ : ∃ k : Nat, place = (k : Int) := ⟨place.toNat, by omega⟩
    have h2 := hE.right k (by omega) (dNone place) (by rw [told_pos h]; unfold atD; simp [dNone, hk])
    unfold RightAt rightF at h2
    rw [if_pos (show (dNone place).req.read = true from rfl)] at h2
    simp only [Bool.and_eq_true, decide_eq_true_eq] at h2
    have h3 := congrArg Ans.err h2.1.2
    exact readQ_err _ _ h3
/-- Entries made of commands, without epochs. -/
def entsN (l : List CmdV) : List EntV := l.map fun x => ⟨0, x⟩
theorem entsN_len (l : List CmdV) : (entsN l).length = l.length := by simp [entsN]
theorem entsN_take (l : List CmdV) {k : Nat} (h : k < l.length) : entsN (l.take (k + 1)) = entsN (l.take k) ++ [⟨0, l[k]⟩] := by
  unfold entsN
  rw [List.take_succ_eq_append_getElem h, List.map_append]
  rfl
theorem mem_entsN {l : List CmdV} {e : EntV} (h : e ∈ entsN l) : e.x ∈ l := by
  unfold entsN at h
  obtain ⟨x, hx, rfl⟩ := List.mem_map.1 h
  exact hx
end Go.Proofs.YteinoiicnmemhaaGreatDoor
/- AuditNone: the walk. -/
set_option linter.unusedVariables false
set_option linter.unusedSimpArgs false
namespace Go.Proofs.YteinoiicnmemhaaGreatDoor
open Go.RowKit Go Go.Sort
section
variable {w : World} {v1 : Value} {l : List CmdV} {place : Int}
set_option maxRecDepth 100000 in
set_option maxHeartbeats 8000000 in
theorem anone_go (hT : J.Tab w) (h1 : CmdsAt w w v1 l) :
    Calls Tryz.prog 5 #[v1, .int .i64 place] w fun e w' => e = .returned (.bool true) ∧ Only [] w w' := by
  obtain ⟨A, cap, rfl, hnc, hcm, hel⟩ := h1.cells
  unfold maxLen at hcm
  have HL1 := Lib.hid (fun (W : World) (hw : Only [] w W) => show Calls Tryz.prog 6 #[.int .i64 10, .slice A l.length cap] W fun e w' => RetB e (fun b => b = true → l.length ≤ 10 ∧ ∀ x ∈ l, x.c.events.length ≤ 12) ∧ Only [] W w' from light12_any (h1.keep0 hw) 10 (by omega))
  have HA := Lib.hid (fun (W : World) (hw : Only [] w W) => alive27_any W (J.Tab.only hT hw))
  have H1 := Lib.hid h1
  have HE1 := Lib.hid hel
  clear h1 hT hel
  go_enter Tryz.func5, Tryz.ntmps5
  go_wp2_with fail
  refine (HL1.out _ (Only.refl _ _)).mono ?_
  rintro e w1 ⟨⟨b1, rfl, hl1⟩, ho1⟩
  cases b1
  · go_wp2_with (go_at_call 7; refine (HA.out _ ho1).mono ?_; rintro e w3 ⟨rfl, ho3⟩)
    go_ret
    exact ⟨rfl, ho1.trans ho3⟩
  have HB1 := Lib.hid (hl1 rfl)
  clear hl1 HL1
  go_wp2_with fail
  refine (HA.out _ ho1).mono ?_
  rintro e w3 ⟨rfl, ho3⟩
  have HO3 := Lib.hid (ho1.trans ho3)
  clear HA ho1 ho3
  go_wp2_with fail
  go_loopw [5, 6] (fun ov iv wr => ∃ (k : Nat) (v : Value), k ≤ l.length ∧ ov = v ∧ iv = .int .i64 k ∧ Hid (Only [] w wr) ∧ Hid (wr.ownsRow w.heap.size 43 9 v k ((entsN (l.take k)).flatMap EntV.cells))) (fun _ iv _ => l.length - (intOf iv).toNat)
  case atStart => exact ⟨0, _, Nat.zero_le _, rfl, rfl, HO3, Lib.hid (World.ownsRow_nil _ _ _ _)⟩
  case round =>
    obtain ⟨k, v, hk, rfl, rfl, hO, hRow⟩ := hrel
    obtain ⟨Av, cv, rfl, _, _⟩ := own_form hRow.out
    by_cases hlt : k < l.length
    · obtain ⟨b, off, rfl, hbb, -, hcc⟩ := HE1.out k hlt
      obtain ⟨x, hx⟩ : ∃ x, x = l[k] := ⟨_, rfl⟩
      have hxm : x ∈ l := by rw [hx]; exact List.getElem_mem hlt
      rw [← hx] at hcc
      have HCc := Lib.hid (fun (W : World) (hO : Only [] w W) (i : Nat) (hi : i < 8) => (hO.cell (p := ⟨b, off + k * 8 + i, none⟩) hbb (by simp)).trans (hcc i hi))
      have het := entsN_take l hlt
      rw [← hx] at het
      have hl10 := HB1.out.1
      obtain ⟨Ax, capx, hxv, hx1, hx2, _⟩ := (H1.out.cmd x hxm).2.1.openE EventR.cells (fun _ => rfl)
      have hO1 := hO.out
      have c0 : (wr).cell? ⟨b, off + k * 8, none⟩ = some (.int .i64 x.c.kind) := HCc.out _ hO1 0 (by omega)
      have c1 : (wr).cell? ⟨b, off + k * 8 + 1, none⟩ = some (.int .i64 x.c.time) := HCc.out _ hO1 1 (by omega)
      have c2 : (wr).cell? ⟨b, off + k * 8 + 2, none⟩ = some (.string x.c.stream) := HCc.out _ hO1 2 (by omega)
      have c3 : (wr).cell? ⟨b, off + k * 8 + 3, none⟩ = some (.int .i64 x.c.expected) := HCc.out _ hO1 3 (by omega)
      have c4 : (wr).cell? ⟨b, off + k * 8 + 4, none⟩ = some (.slice Ax x.c.events.length capx) := (HCc.out _ hO1 4 (by omega)).trans (by rw [← hxv]; rfl)
      have c5 : (wr).cell? ⟨b, off + k * 8 + 5, none⟩ = some (.int .i64 x.c.mt.maxCount) := HCc.out _ hO1 5 (by omega)
      have c6 : (wr).cell? ⟨b, off + k * 8 + 6, none⟩ = some (.int .i64 x.c.mt.maxAge) := HCc.out _ hO1 6 (by omega)
      have c7 : (wr).cell? ⟨b, off + k * 8 + 7, none⟩ = some (.int .i64 x.c.mt.before) := HCc.out _ hO1 7 (by omega)
      have hcs : EntV.cells ⟨0, x⟩ = [.int .i64 0, .int .i64 x.c.kind, .int .i64 x.c.time, .string x.c.stream, .int .i64 x.c.expected, .slice Ax x.c.events.length capx, .int .i64 x.c.mt.maxCount, .int .i64 x.c.mt.maxAge, .int .i64 x.c.mt.before] := by rw [← hxv]; rfl
      have hzw := hO1.size
      obtain ⟨cs, hcsd⟩ : ∃ cs : List Value, cs = [.int .i64 0, .int .i64 x.c.kind, .int .i64 x.c.time, .string x.c.stream, .int .i64 x.c.expected, .slice Ax x.c.events.length capx, .int .i64 x.c.mt.maxCount, .int .i64 x.c.mt.maxAge, .int .i64 x.c.mt.before] := ⟨_, rfl⟩
      have hone : ∀ u ∈ cs, u.oneCell' = true := by rw [hcsd]; simp [Value.oneCell']
      have hr4 := hRow.out.alloc (.cells cs.toArray 43)
      obtain ⟨A3, cap3, w5, hrun, hown, hO5, hfr⟩ := run_app (P := Tryz.prog) 41 41 w.heap.size 43 (.agg #[.int .i64 0, .int .i64 0, .int .i64 0, .string ⟨#[]⟩, .int .i64 0, .slice none 0 0, .int .i64 0, .int .i64 0, .int .i64 0]) 9 96 Tryz.underlying41 infoEn rfl (by decide) hr4 (slc_new1 (w := wr) (e := 43) (size := 9) (cs := cs) (by rw [hcsd]; rfl)) hone (by omega) (by unfold maxLen; omega) (by simp; omega)
      have hrl := fun g hg => World.ownsRow.lt hr4 g hg
      have HRow5 := Lib.hid (show w5.ownsRow w.heap.size 43 9 (.slice A3 (k + 1) cap3) (k + 1) ((entsN (l.take (k + 1))).flatMap EntV.cells) from by
        rw [het, List.flatMap_append]
        have : List.flatMap EntV.cells [(⟨0, x⟩ : EntV)] = cs := by rw [hcsd, ← hcs]; simp
        rw [this]
        simpa using hown)
      have HO5 := Lib.hid (show Only [] w w5 from (hO1.alloc _).step hO5 (fun i hi => .inr (hrl i (by simpa using hi)).1))
      rw [hcsd] at hrun
      have HR := Lib.hid hrun
      clear hrun hown hO5 hfr hr4 hrl hone hcsd hcs het hx hcc hxv hO1 hzw hRow hO HCc
      go_wp2_with (at_builtin; refine Lib.wpList_append_run _ rfl (.tmp 22) (.tmp 28) 41 41 rfl _ _ rfl rfl _ _ HR.out ?_)
      exact ⟨⟨k + 1, _, hlt, rfl, by simp, HO5, HRow5⟩, by simp [intOf]; omega⟩
    · have hkl : l.take k = l := List.take_of_length_le (by omega)
      obtain rfl : k = l.length := by omega
      have hrow := hRow.out
      rw [hkl] at hrow
      have HSl := Lib.hid (Slc.of_own hrow).1
      have HO := hO
      clear hrow hRow hkl hO hlt hk
      rename World => wd
      go_upto_region 8 with (fail)
      have hB := Blk.new wd 61 #[.int .i64 0, .int .i64 0, .int .i64 0, .int .i64 0, .string ⟨#[]⟩, .int .i64 0, .slice none 0 0, .int .i64 0, .int .i64 0, .int .i64 0, .bool false, .bool false, .int .i64 0, .int .i64 0, .bool false, .int .i64 0, .int .i64 0, .int .i64 0, .int .i64 0, .int .i64 0, .bool false, .slice none 0 0, .int .i64 0, .bool false, .int .i64 0, .int .i64 0]
      have hO1 := (Only.refl [] wd).alloc (.cells #[.int .i64 0, .int .i64 0, .int .i64 0, .int .i64 0, .string ⟨#[]⟩, .int .i64 0, .slice none 0 0, .int .i64 0, .int .i64 0, .int .i64 0, .bool false, .bool false, .int .i64 0, .int .i64 0, .bool false, .int .i64 0, .int .i64 0, .int .i64 0, .int .i64 0, .int .i64 0, .bool false, .slice none 0 0, .int .i64 0, .bool false, .int .i64 0, .int .i64 0] 61)
      go_cut [7] from 30 to 30 (fun s7 wx => ∃ db, s7 = .pointer (some ⟨db, 0, none⟩) ∧ Hid (wd.heap.size ≤ db) ∧ Hid (Blk wx db 61 #[.int .i64 0, .int .i64 0, .int .i64 0, .int .i64 0, .string ⟨#[]⟩, .int .i64 0, .slice none 0 0, .int .i64 0, .int .i64 0, .int .i64 0, .bool false, .bool false, .int .i64 0, .int .i64 0, .bool false, .int .i64 0, .int .i64 0, .int .i64 0, .int .i64 0, .int .i64 0, .bool false, .slice none 0 0, .int .i64 0, .bool false, .int .i64 0, .int .i64 0]) ∧ Hid (Only [] wd wx))
      case first =>
        go_wp2_with (first
          | (refine wpList_store_new rfl 61 (.tmp 7) (.tmp 30) rfl _ _ 26 [.int .i64 0, .int .i64 0, .int .i64 0, .int .i64 0, .string ⟨#[]⟩, .int .i64 0, .slice none 0 0, .int .i64 0, .int .i64 0, .int .i64 0, .bool false, .bool false, .int .i64 0, .int .i64 0, .bool false, .int .i64 0, .int .i64 0, .int .i64 0, .int .i64 0, .int .i64 0, .bool false, .slice none 0 0, .int .i64 0, .bool false, .int .i64 0, .int .i64 0] rfl rfl rfl rfl (by kernel_rfl) (by simp [Value.oneCell']) ?_))
        go_meet
        exact ⟨_, rfl, Lib.hid (Nat.le_refl _), Lib.hid hB, Lib.hid hO1⟩
      rename World => w4
      obtain ⟨db, rfl, hdb, HB, HO4⟩ := hcut
      clear hB hO1
      have f16 := HB.out.free 16
      have f10 := HB.out.free 10
      have f11 := HB.out.free 11
      have f13 := HB.out.free 13
      have f17 := HB.out.free 17
      have g16 : w4.cell? ⟨db, 16, none⟩ = some (.int .i64 0) := HB.out.cell 16
      have g10 : w4.cell? ⟨db, 10, none⟩ = some (.bool false) := HB.out.cell 10
      have g11 : w4.cell? ⟨db, 11, none⟩ = some (.bool false) := HB.out.cell 11
      have g13 : w4.cell? ⟨db, 13, none⟩ = some (.int .i64 0) := HB.out.cell 13
      have g17 : w4.cell? ⟨db, 17, none⟩ = some (.int .i64 0) := HB.out.cell 17
      go_upto_region 12 with (fail)
      have hb0 := HB.out
      have hb1 : Blk _ db 61 #[.int .i64 0, .int .i64 0, .int .i64 0, .int .i64 0, .string ⟨#[]⟩, .int .i64 0, .slice none 0 0, .int .i64 0, .int .i64 0, .int .i64 0, .bool false, .bool false, .int .i64 0, .int .i64 0, .bool false, .int .i64 0, .int .i64 place, .int .i64 0, .int .i64 0, .int .i64 0, .bool false, .slice none 0 0, .int .i64 0, .bool false, .int .i64 0, .int .i64 0] := hb0.set 16 (.int .i64 place)
      have hb2 : Blk _ db 61 #[.int .i64 0, .int .i64 0, .int .i64 0, .int .i64 0, .string ⟨#[]⟩, .int .i64 0, .slice none 0 0, .int .i64 0, .int .i64 0, .int .i64 0, .bool true, .bool false, .int .i64 0, .int .i64 0, .bool false, .int .i64 0, .int .i64 place, .int .i64 0, .int .i64 0, .int .i64 0, .bool false, .slice none 0 0, .int .i64 0, .bool false, .int .i64 0, .int .i64 0] := hb1.set 10 (.bool true)
      have hb3 : Blk _ db 61 #[.int .i64 0, .int .i64 0, .int .i64 0, .int .i64 0, .string ⟨#[]⟩, .int .i64 0, .slice none 0 0, .int .i64 0, .int .i64 0, .int .i64 0, .bool true, .bool true, .int .i64 0, .int .i64 0, .bool false, .int .i64 0, .int .i64 place, .int .i64 0, .int .i64 0, .int .i64 0, .bool false, .slice none 0 0, .int .i64 0, .bool false, .int .i64 0, .int .i64 0] := hb2.set 11 (.bool true)
      have hb4 : Blk _ db 61 #[.int .i64 0, .int .i64 0, .int .i64 0, .int .i64 0, .string ⟨#[]⟩, .int .i64 0, .slice none 0 0, .int .i64 0, .int .i64 0, .int .i64 0, .bool true, .bool true, .int .i64 0, .int .i64 500, .bool false, .int .i64 0, .int .i64 place, .int .i64 0, .int .i64 0, .int .i64 0, .bool false, .slice none 0 0, .int .i64 0, .bool false, .int .i64 0, .int .i64 0] := hb3.set 13 (.int .i64 500)
      have hb5 : Blk _ db 61 #[.int .i64 0, .int .i64 0, .int .i64 0, .int .i64 0, .string ⟨#[]⟩, .int .i64 0, .slice none 0 0, .int .i64 0, .int .i64 0, .int .i64 0, .bool true, .bool true, .int .i64 0, .int .i64 500, .bool false, .int .i64 0, .int .i64 place, .int .i64 25, .int .i64 0, .int .i64 0, .bool false, .slice none 0 0, .int .i64 0, .bool false, .int .i64 0, .int .i64 0] := hb4.set 17 (.int .i64 25)
      obtain ⟨w5, hw5⟩ : ∃ w5, (((((w4.setCell ⟨db, 16, none⟩ (.int .i64 place)).setCell ⟨db, 10, none⟩ (.bool true)).setCell ⟨db, 11, none⟩ (.bool true)).setCell ⟨db, 13, none⟩ (.int .i64 500)).setCell ⟨db, 17, none⟩ (.int .i64 25)) = w5 := ⟨_, rfl⟩
      rw [hw5] at hb5
      have hO5 : Only [] wd w5 := by
        rw [← hw5]
        iterate 5 (refine Only.setCell ?_ (.inr hdb.out) _)
        exact HO4.out
      try rw [hw5]
      have HBd := Lib.hid (show ∀ i, i < 26 → w5.cell? ⟨db, 0 + i, none⟩ = [.int .i64 0, .int .i64 0, .int .i64 0, .int .i64 0, .string ⟨#[]⟩, .int .i64 0, .slice none 0 0, .int .i64 0, .int .i64 0, .int .i64 0, .bool true, .bool true, .int .i64 0, .int .i64 500, .bool false, .int .i64 0, .int .i64 place, .int .i64 25, .int .i64 0, .int .i64 0, .bool false, .slice none 0 0, .int .i64 0, .bool false, .int .i64 0, .int .i64 0][i]? from fun i hi => by have := hb5.cell i; simpa using this)
      have hO := HO.out.trans hO5
      have ka := (Only.refl [] w5).alloc (.cells #[.int .i64 0, .int .i64 0, .int .i64 0, .int .i64 0, .string ⟨#[]⟩, .int .i64 0, .slice none 0 0, .int .i64 0, .int .i64 0, .int .i64 0, .bool true, .bool true, .int .i64 0, .int .i64 500, .bool false, .int .i64 0, .int .i64 place, .int .i64 25, .int .i64 0, .int .i64 0, .bool false, .slice none 0 0, .int .i64 0, .bool false, .int .i64 0, .int .i64 0] 61)
      have hex := explain_any (w := w5.alloc (.cells #[.int .i64 0, .int .i64 0, .int .i64 0, .int .i64 0, .string ⟨#[]⟩, .int .i64 0, .slice none 0 0, .int .i64 0, .int .i64 0, .int .i64 0, .bool true, .bool true, .int .i64 0, .int .i64 500, .bool false, .int .i64 0, .int .i64 place, .int .i64 25, .int .i64 0, .int .i64 0, .bool false, .slice none 0 0, .int .i64 0, .bool false, .int .i64 0, .int .i64 0] 61)) (es := entsN l) (ds := [dNone place]) (v1 := .slice Av l.length cv) (v2 := .slice (some ⟨w5.heap.size, 0, none⟩) 1 1) (by rw [entsN_len]; exact HSl.out.only0 (hO5.trans ka)) (slc_new1 (w := w5) (e := 61) (size := 26) (cs := [.int .i64 0, .int .i64 0, .int .i64 0, .int .i64 0, .string ⟨#[]⟩, .int .i64 0, .slice none 0 0, .int .i64 0, .int .i64 0, .int .i64 0, .bool true, .bool true, .int .i64 0, .int .i64 500, .bool false, .int .i64 0, .int .i64 place, .int .i64 25, .int .i64 0, .int .i64 0, .bool false, .slice none 0 0, .int .i64 0, .bool false, .int .i64 0, .int .i64 0]) rfl) (by rw [entsN_len]; have := HB1.out.1; omega) (by simp) (fun e he => by
        have q := (H1.out.keep0 (hO.trans ka)).cmd e.x (mem_entsN he)
        exact ⟨q.1, q.2.1, fun g hg => (q.2.2 g hg).imp (fun z => Nat.lt_of_lt_of_le z (hO.trans ka).size) id⟩) (fun e he => by have := HB1.out.2 e.x (mem_entsN he); omega) (fun d hd => by
        simp at hd
        subst hd
        exact ⟨Slc.nil _ 4, by simp [dNone], by show (0 : Nat) ≤ maxLen; unfold maxLen; omega, Slc.nil _ 8, by simp [dNone]⟩)
      rw [explain_none] at hex
      have HAg := Lib.hid (fun (W : World) => aagree_nil W)
      have HSn := Lib.hid (fun (W : World) => asound_nil W)
      have HNew := Lib.hid (fun (W : World) => newAt_any W)
      have HO5 := Lib.hid (hO.trans ka)
      clear hw5 hb0 hb1 hb2 hb3 hb4 hb5 hO5 hO ka f16 f10 f11 f13 f17 g16 g10 g11 g13 g17 HB HO4 hdb HSl HO
      by_cases hp : place < 0
      · rw [decide_eq_true hp] at hex
        have HEx := Lib.hid hex
        clear hex
        by_cases hl0 : 0 < l.length
        case neg =>
          go_wp2_with (first
            | (go_at_call 16; refine (HAg.out _).mono ?_; rintro e w6 ⟨rfl, rfl⟩)
            | (go_at_call 17; refine (HSn.out _).mono ?_; rintro e w7 ⟨rfl, rfl⟩)
            | (refine wpList_load_row2w rfl 61 (.tmp 7) rfl db 0 rfl 26 [.int .i64 0, .int .i64 0, .int .i64 0, .int .i64 0, .string ⟨#[]⟩, .int .i64 0, .slice none 0 0, .int .i64 0, .int .i64 0, .int .i64 0, .bool true, .bool true, .int .i64 0, .int .i64 500, .bool false, .int .i64 0, .int .i64 place, .int .i64 25, .int .i64 0, .int .i64 0, .bool false, .slice none 0 0, .int .i64 0, .bool false, .int .i64 0, .int .i64 0] rfl HBd.out Tryz.underlying61 rfl (by kernel_rfl) ?_)
            | (go_at_call 15; refine HEx.out.mono ?_; rintro e w8 ⟨rfl, k8⟩))
          refine (HNew.out _).mono ?_
          rintro e w9 ⟨rfl, hn9, k9⟩
          have HJ0 := Lib.hid (judge0_any (hn9.st (fun _ => .slice none 0 0)))
          clear hn9
          go_wp2_with fail
          refine HJ0.out.mono ?_
          rintro e w10 ⟨rfl, k10⟩
          go_wp2_with fail
          go_ret
          exact ⟨ret_b (by first | rfl | (simp; omega) | simp [hp]), HO5.out.trans ((k8.trans k9).trans k10)⟩
        case pos =>
          go_wp2_with (first
            | (go_at_call 16; refine (HAg.out _).mono ?_; rintro e w6 ⟨rfl, rfl⟩)
            | (go_at_call 17; refine (HSn.out _).mono ?_; rintro e w7 ⟨rfl, rfl⟩)
            | (refine wpList_load_row2w rfl 61 (.tmp 7) rfl db 0 rfl 26 [.int .i64 0, .int .i64 0, .int .i64 0, .int .i64 0, .string ⟨#[]⟩, .int .i64 0, .slice none 0 0, .int .i64 0, .int .i64 0, .int .i64 0, .bool true, .bool true, .int .i64 0, .int .i64 500, .bool false, .int .i64 0, .int .i64 place, .int .i64 25, .int .i64 0, .int .i64 0, .bool false, .slice none 0 0, .int .i64 0, .bool false, .int .i64 0, .int .i64 0] rfl HBd.out Tryz.underlying61 rfl (by kernel_rfl) ?_)
            | (go_at_call 15; refine HEx.out.mono ?_; rintro e w8 ⟨rfl, k8⟩))
          go_ret
          exact ⟨ret_b (by first | rfl | (simp; omega) | simp [hp]), HO5.out.trans k8⟩
      · rw [decide_eq_false hp] at hex
        have HEx := Lib.hid hex
        clear hex
        by_cases hl0 : 0 < l.length
        case neg =>
          go_wp2_with (first
            | (go_at_call 16; refine (HAg.out _).mono ?_; rintro e w6 ⟨rfl, rfl⟩)
            | (go_at_call 17; refine (HSn.out _).mono ?_; rintro e w7 ⟨rfl, rfl⟩)
            | (refine wpList_load_row2w rfl 61 (.tmp 7) rfl db 0 rfl 26 [.int .i64 0, .int .i64 0, .int .i64 0, .int .i64 0, .string ⟨#[]⟩, .int .i64 0, .slice none 0 0, .int .i64 0, .int .i64 0, .int .i64 0, .bool true, .bool true, .int .i64 0, .int .i64 500, .bool false, .int .i64 0, .int .i64 place, .int .i64 25, .int .i64 0, .int .i64 0, .bool false, .slice none 0 0, .int .i64 0, .bool false, .int .i64 0, .int .i64 0] rfl HBd.out Tryz.underlying61 rfl (by kernel_rfl) ?_)
            | (go_at_call 15; refine HEx.out.mono ?_; rintro e w8 ⟨rfl, k8⟩))
          refine (HNew.out _).mono ?_
          rintro e w9 ⟨rfl, hn9, k9⟩
          have HJ0 := Lib.hid (judge0_any (hn9.st (fun _ => .slice none 0 0)))
          clear hn9
          go_wp2_with fail
          refine HJ0.out.mono ?_
          rintro e w10 ⟨rfl, k10⟩
          go_wp2_with fail
          go_ret
          exact ⟨ret_b (by first | rfl | (simp; omega) | simp [hp]), HO5.out.trans ((k8.trans k9).trans k10)⟩
        case pos =>
          go_wp2_with (first
            | (go_at_call 16; refine (HAg.out _).mono ?_; rintro e w6 ⟨rfl, rfl⟩)
            | (go_at_call 17; refine (HSn.out _).mono ?_; rintro e w7 ⟨rfl, rfl⟩)
            | (refine wpList_load_row2w rfl 61 (.tmp 7) rfl db 0 rfl 26 [.int .i64 0, .int .i64 0, .int .i64 0, .int .i64 0, .string ⟨#[]⟩, .int .i64 0, .slice none 0 0, .int .i64 0, .int .i64 0, .int .i64 0, .bool true, .bool true, .int .i64 0, .int .i64 500, .bool false, .int .i64 0, .int .i64 place, .int .i64 25, .int .i64 0, .int .i64 0, .bool false, .slice none 0 0, .int .i64 0, .bool false, .int .i64 0, .int .i64 0] rfl HBd.out Tryz.underlying61 rfl (by kernel_rfl) ?_)
            | (go_at_call 15; refine HEx.out.mono ?_; rintro e w8 ⟨rfl, k8⟩))
          go_ret
          exact ⟨ret_b (by first | rfl | (simp; omega) | simp [hp]), HO5.out.trans k8⟩
end
end Go.Proofs.YteinoiicnmemhaaGreatDoor
/- AuditNone: what the row asks for. -/
set_option linter.unusedVariables false
namespace Go.Proofs.YteinoiicnmemhaaGreatDoor
open Go Go.RowKit Go.Sort
theorem auditNoneW (v1 : Value) (l : List CmdV) (place : Int) (hp : (Lit.int .i64 place).wf = true) (W : World) (hT : J.Tab W)
    (x0 : Slc W 8 v1 l.length (l.flatMap CmdV.cells)) (y0 : ∀ o ∈ l, o.Ok W ∧ o.cells.length = 8) (z0 : ∀ g, v1.ownBlock = some g → g < W.heap.size ∨ l = []) :
    Calls Tryz.prog 5 #[v1, .int .i64 place] W fun e W' => e = .returned (.bool true) ∧ Only [] W W' :=
  anone_go hT (CmdsAt.of x0 y0 z0)
end Go.Proofs.YteinoiicnmemhaaGreatDoor
