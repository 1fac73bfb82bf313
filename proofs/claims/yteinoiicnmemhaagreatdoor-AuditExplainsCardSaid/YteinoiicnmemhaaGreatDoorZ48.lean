/- Proved here: contracts of functions and plain laws, part 48 of one proof. Conditions: each theorem names its own. -/
import Derived.Test.YteinoiicnmemhaaGreatDoorZ9
import Derived.Test.YteinoiicnmemhaaGreatDoorZ23
import Derived.Test.YteinoiicnmemhaaGreatDoorZ44
import Derived.Test.YteinoiicnmemhaaGreatDoorZ46
import Derived.Test.YteinoiicnmemhaaGreatDoorZ47
set_option linter.unusedSimpArgs false
set_option linter.unusedVariables false
namespace Go.Proofs.YteinoiicnmemhaaGreatDoor
section
open Go.RowKit Go Go.Sort
theorem infoDn : (Tryz.prog.info? 61).map (fun i => (i.zero, i.size, i.bytes)) = some (some (.agg #[.int .i64 0, .int .i64 0, .int .i64 0, .int .i64 0, .string ⟨#[]⟩, .int .i64 0, .slice none 0 0, .int .i64 0, .int .i64 0, .int .i64 0, .bool false, .bool false, .int .i64 0, .int .i64 0, .bool false, .int .i64 0, .int .i64 0, .int .i64 0, .int .i64 0, .int .i64 0, .bool false, .slice none 0 0, .int .i64 0, .bool false, .int .i64 0, .int .i64 0]), 26, 240) := by kernel_rfl
theorem infoDn2 : (Tryz.prog.info? 61).map (fun i => (i.zero, i.size)) = some (some (.agg #[.int .i64 0, .int .i64 0, .int .i64 0, .int .i64 0, .string ⟨#[]⟩, .int .i64 0, .slice none 0 0, .int .i64 0, .int .i64 0, .int .i64 0, .bool false, .bool false, .int .i64 0, .int .i64 0, .bool false, .int .i64 0, .int .i64 0, .int .i64 0, .int .i64 0, .int .i64 0, .bool false, .slice none 0 0, .int .i64 0, .bool false, .int .i64 0, .int .i64 0]), 26) := by kernel_rfl
theorem zeroDn (w : World) : (zeroValue 61).run Tryz.prog w = .ok (.agg #[.int .i64 0, .int .i64 0, .int .i64 0, .int .i64 0, .string ⟨#[]⟩, .int .i64 0, .slice none 0 0, .int .i64 0, .int .i64 0, .int .i64 0, .bool false, .bool false, .int .i64 0, .int .i64 0, .bool false, .int .i64 0, .int .i64 0, .int .i64 0, .int .i64 0, .int .i64 0, .bool false, .slice none 0 0, .int .i64 0, .bool false, .int .i64 0, .int .i64 0]) w := (zero_of_info infoDn2).1 w
def DoneV.val (d : DoneV) : Value := .agg d.cells.toArray
/-- What lies there while the answers are gone through. -/
structure Ex1 (w wr : World) (mb : Nat) (v : Value) (T : List DoneV) (kv : List (Int × Value)) : Prop where
  only : Only [] w wr
  row : wr.ownsRow w.heap.size 61 26 v T.length (T.flatMap DoneV.cells)
  map : MapIs (Value.int .i64) wr mb kv
  above : w.heap.size ≤ mb
  at_ : ∀ q, aget kv q = (atD T q).map DoneV.val
theorem Ex1.keep0 {w wr w' : World} {mb : Nat} {v : Value} {T : List DoneV} {kv : List (Int × Value)} (h : Ex1 w wr mb v T kv) (k : Only [] wr w') : Ex1 w w' mb v T kv := ⟨h.only.trans k, own_only h.row k (by simp), h.map.only k (by simp), h.above, h.at_⟩
/-- A told one more: the row has grown in w2, then the map takes it. -/
theorem Ex1.told {w wr w2 w3 : World} {mb : Nat} {v v2 : Value} {T : List DoneV} {kv : List (Int × Value)} {d : DoneV} (h : Ex1 w wr mb v T kv) (k1 : Only v.ownBlock.toList wr w2) (hr : w2.ownsRow w.heap.size 61 26 v2 (T ++ [d]).length ((T ++ [d]).flatMap DoneV.cells))
    (hm : MapIs (Value.int .i64) w3 mb (aput kv d.place d.val)) (k2 : Only [mb] w2 w3) : Ex1 w w3 mb v2 (T ++ [d]) (aput kv d.place d.val) := by
  have hmb := h.above
  refine ⟨?_, own_only hr k2 (fun g hg q => ?_), hm, hmb, fun q => ?_⟩
  · exact (h.only.step k1 (fun i hi => .inr (World.ownsRow.lt h.row i (by simpa using hi)).1)).step k2 (fun i hi => by simp at hi; subst hi; exact .inr hmb)
  · simp at q
    subst q
    obtain ⟨cur, hb⟩ := own_type hr hg
    have h2 : MapIs (Value.int .i64) w2 g kv := h.map.only k1 (fun q => by
      obtain ⟨cur, hb⟩ := own_type h.row (by simpa using q)
      exact h.map.ne_blk hb rfl)
    exact h2.ne_blk hb rfl
  · rw [aget_aput, atD_snoc, h.at_ q]
    split
    · rfl
    · rfl
open Classical in
theorem explainF_ord {es : List EntV} {ds : List DoneV} (h1 : ∀ d ∈ ds, d.place < es.length) (h2 : ∀ i (hi : i < es.length) d, atD (toldF ds) i = some d → RightAt es i hi d) : explainF es ds = orderedF (toldF ds) := by
  unfold explainF orderedF
  by_cases h : OrderedP (toldF ds)
  · rw [decide_eq_true h, decide_eq_true (⟨h1, h2, h⟩ : ExplainP es ds)]
  · rw [decide_eq_false h, decide_eq_false (fun q : ExplainP es ds => h q.ord)]
section
variable {w : World} {v1 v2 : Value} {es : List EntV} {ds : List DoneV}
set_option maxRecDepth 100000 in
set_option maxHeartbeats 16000000 in
theorem explain_any (hes : Slc w 9 v1 es.length (es.flatMap EntV.cells)) (hds : Slc w 26 v2 ds.length (ds.flatMap DoneV.cells)) (hle : es.length ≤ 1000) (hld : ds.length ≤ 200)
    (hc : ∀ e ∈ es, CmdOk e.x.c ∧ Slc w 4 e.x.ev e.x.c.events.length (e.x.c.events.flatMap EventR.cells) ∧ ∀ g, e.x.ev.ownBlock = some g → g < w.heap.size ∨ e.x.c.events = []) (hcf : ∀ e ∈ es, e.x.c.events.length ≤ 1000000) (hd : ∀ d ∈ ds, DoneOk w d) :
    Calls Tryz.prog 15 #[v1, v2] w fun e w' => e = .returned (.bool (explainF es ds)) ∧ Only [] w w' := by
  obtain ⟨Ae, cape, rfl, hne, hce, hee⟩ := hes.openE EntV.cells (fun _ => rfl)
  obtain ⟨A0, cap, rfl, hnc, hcm, hel⟩ := hds.openE DoneV.cells (fun _ => rfl)
  unfold maxLen at hcm hce
  have HDs := Lib.hid hel
  have HEs := Lib.hid hee
  have HDo := Lib.hid hd
  have HC := Lib.hid hc
  have HCf := Lib.hid hcf
  have HN := Lib.hid (fun (W : World) => has_newS W W (Only.refl _ _) [] (by simp))
  have hmm := @run_makeMap Tryz.prog
  obtain ⟨mb, hmb⟩ : ∃ mb, w.heap.size = mb := ⟨_, rfl⟩
  have HX0 := Lib.hid (show Ex1 w (w.alloc (.map #[] 0)) mb (.slice none 0 0) [] [] from ⟨(Only.refl _ _).alloc _, World.ownsRow_nil _ _ _ _, by rw [← hmb]; exact MapIs.new _ _, by omega, fun q => rfl⟩)
  clear hes hds hel hee hd hc hcf
  go_enter Tryz.func15, Tryz.ntmps15
  go_wp2_with fail
  try rw [hmb]
  clear hmb hmm
  go_loopw [6, 27] (fun ov iv wr => ∃ (k : Nat) (v : Value) (T : List DoneV) (kv : List (Int × Value)), k ≤ ds.length ∧ ov = v ∧ iv = .int .i64 k ∧ Hid (T = toldF (ds.take k)) ∧ Hid (∀ d ∈ ds.take k, d.place < es.length) ∧ Hid (Ex1 w wr mb v T kv)) (fun _ iv _ => ds.length - (intOf iv).toNat)
  case atStart => exact ⟨0, _, [], [], Nat.zero_le _, rfl, rfl, by unfold Hid; rfl, by unfold Hid; simp, HX0⟩
  case round =>
    obtain ⟨k, v, T, kv, hk, rfl, rfl, hT, hIn, hX⟩ := hrel
    obtain ⟨Av, cv, rfl, _, _⟩ := own_form hX.out.row
    by_cases hlt : k < ds.length
    · obtain ⟨b, off, rfl, hbb, hcc⟩ := HDs.out k hlt
      obtain ⟨d, hdx⟩ : ∃ d, d = ds[k] := ⟨_, rfl⟩
      have hdm : d ∈ ds := by rw [hdx]; exact List.getElem_mem hlt
      rw [← hdx] at hcc
      have HCc := Lib.hid (fun (W : World) (hO : Only [] w W) (i : Nat) (hi : i < 26) => (hO.cell (p := ⟨b, off + k * 26 + i, none⟩) hbb (by simp)).trans (hcc i hi))
      have hdo := HDo.out d hdm
      obtain ⟨Ad, capd, hvd, _, _, _⟩ := hdo.ev.openE EventR.cells (fun _ => rfl)
      obtain ⟨Ap, capp, hvp, _, _, _⟩ := hdo.pg.openE StoredR.cells (fun _ => rfl)
      have hcd : d.cells = [.int .i64 d.nd, .int .i64 d.id, .int .i64 d.req.x.c.kind, .int .i64 d.req.x.c.time, .string d.req.x.c.stream, .int .i64 d.req.x.c.expected, .slice Ad d.req.x.c.events.length capd, .int .i64 d.req.x.c.mt.maxCount, .int .i64 d.req.x.c.mt.maxAge, .int .i64 d.req.x.c.mt.before, .bool d.req.read, .bool d.req.all, .int .i64 d.req.fr, .int .i64 d.req.n, .bool d.req.back, .int .i64 d.rid, .int .i64 d.place, .int .i64 d.ans.err, .int .i64 d.ans.version, .int .i64 d.ans.position, .bool d.ans.again, .slice Ap d.pg.events.length capp, .int .i64 d.pg.next, .bool d.pg.isEnd, .int .i64 d.asked, .int .i64 d.answered] := by rw [← hvd, ← hvp]; rfl
      rw [hcd] at HCc
      have hdr : ds.take (k + 1) = ds.take k ++ [d] := by rw [List.take_succ_eq_append_getElem hlt, ← hdx]
      have HDR := Lib.hid hdr
      have HCD := Lib.hid hcd
      have HR := Lib.hid (HCc.out wr hX.out.only)
      have hB := Blk.new wr 61 #[.int .i64 d.nd, .int .i64 d.id, .int .i64 d.req.x.c.kind, .int .i64 d.req.x.c.time, .string d.req.x.c.stream, .int .i64 d.req.x.c.expected, .slice Ad d.req.x.c.events.length capd, .int .i64 d.req.x.c.mt.maxCount, .int .i64 d.req.x.c.mt.maxAge, .int .i64 d.req.x.c.mt.before, .bool d.req.read, .bool d.req.all, .int .i64 d.req.fr, .int .i64 d.req.n, .bool d.req.back, .int .i64 d.rid, .int .i64 d.place, .int .i64 d.ans.err, .int .i64 d.ans.version, .int .i64 d.ans.position, .bool d.ans.again, .slice Ap d.pg.events.length capp, .int .i64 d.pg.next, .bool d.pg.isEnd, .int .i64 d.asked, .int .i64 d.answered]
      have hX1 := hX.out.keep0 ((Only.refl [] wr).alloc (.cells #[.int .i64 d.nd, .int .i64 d.id, .int .i64 d.req.x.c.kind, .int .i64 d.req.x.c.time, .string d.req.x.c.stream, .int .i64 d.req.x.c.expected, .slice Ad d.req.x.c.events.length capd, .int .i64 d.req.x.c.mt.maxCount, .int .i64 d.req.x.c.mt.maxAge, .int .i64 d.req.x.c.mt.before, .bool d.req.read, .bool d.req.all, .int .i64 d.req.fr, .int .i64 d.req.n, .bool d.req.back, .int .i64 d.rid, .int .i64 d.place, .int .i64 d.ans.err, .int .i64 d.ans.version, .int .i64 d.ans.position, .bool d.ans.again, .slice Ap d.pg.events.length capp, .int .i64 d.pg.next, .bool d.pg.isEnd, .int .i64 d.asked, .int .i64 d.answered] 61))
      have hdn : ∀ g, (Value.slice Av T.length cv).ownBlock = some g → g ≠ wr.heap.size := fun g hg => by have := (World.ownsRow.lt hX.out.row g hg).2; omega
      clear hcd hvd hvp hdo hcc hdx HCc hdr hX
      go_upto_region 7 with (fail)
      go_cut [8] from 28 to 30 (fun s8 wx => ∃ db, s8 = .pointer (some ⟨db, 0, none⟩) ∧ Hid (∀ g, (Value.slice Av T.length cv).ownBlock = some g → g ≠ db) ∧ Hid (Blk wx db 61 #[.int .i64 d.nd, .int .i64 d.id, .int .i64 d.req.x.c.kind, .int .i64 d.req.x.c.time, .string d.req.x.c.stream, .int .i64 d.req.x.c.expected, .slice Ad d.req.x.c.events.length capd, .int .i64 d.req.x.c.mt.maxCount, .int .i64 d.req.x.c.mt.maxAge, .int .i64 d.req.x.c.mt.before, .bool d.req.read, .bool d.req.all, .int .i64 d.req.fr, .int .i64 d.req.n, .bool d.req.back, .int .i64 d.rid, .int .i64 d.place, .int .i64 d.ans.err, .int .i64 d.ans.version, .int .i64 d.ans.position, .bool d.ans.again, .slice Ap d.pg.events.length capp, .int .i64 d.pg.next, .bool d.pg.isEnd, .int .i64 d.asked, .int .i64 d.answered]) ∧ Hid (Ex1 w wx mb (.slice Av T.length cv) T kv))
      case first =>
        go_wp2_with (first
          | (refine wpList_load_row2 rfl 61 (.tmp 29) rfl b (off + k * 26) rfl 26 [.int .i64 d.nd, .int .i64 d.id, .int .i64 d.req.x.c.kind, .int .i64 d.req.x.c.time, .string d.req.x.c.stream, .int .i64 d.req.x.c.expected, .slice Ad d.req.x.c.events.length capd, .int .i64 d.req.x.c.mt.maxCount, .int .i64 d.req.x.c.mt.maxAge, .int .i64 d.req.x.c.mt.before, .bool d.req.read, .bool d.req.all, .int .i64 d.req.fr, .int .i64 d.req.n, .bool d.req.back, .int .i64 d.rid, .int .i64 d.place, .int .i64 d.ans.err, .int .i64 d.ans.version, .int .i64 d.ans.position, .bool d.ans.again, .slice Ap d.pg.events.length capp, .int .i64 d.pg.next, .bool d.pg.isEnd, .int .i64 d.asked, .int .i64 d.answered] rfl HR.out Tryz.underlying61 rfl (by kernel_rfl) ?_)
          | (refine wpList_store_new rfl 61 (.tmp 8) (.tmp 30) rfl _ _ 26 [.int .i64 d.nd, .int .i64 d.id, .int .i64 d.req.x.c.kind, .int .i64 d.req.x.c.time, .string d.req.x.c.stream, .int .i64 d.req.x.c.expected, .slice Ad d.req.x.c.events.length capd, .int .i64 d.req.x.c.mt.maxCount, .int .i64 d.req.x.c.mt.maxAge, .int .i64 d.req.x.c.mt.before, .bool d.req.read, .bool d.req.all, .int .i64 d.req.fr, .int .i64 d.req.n, .bool d.req.back, .int .i64 d.rid, .int .i64 d.place, .int .i64 d.ans.err, .int .i64 d.ans.version, .int .i64 d.ans.position, .bool d.ans.again, .slice Ap d.pg.events.length capp, .int .i64 d.pg.next, .bool d.pg.isEnd, .int .i64 d.asked, .int .i64 d.answered] rfl rfl rfl rfl (by kernel_rfl) (by simp [Value.oneCell']) ?_))
        go_meet
        exact ⟨_, rfl, Lib.hid hdn, Lib.hid hB, Lib.hid hX1⟩
      rename World => w2
      obtain ⟨db, rfl, HDn, HB, HX⟩ := hcut
      clear hdn hB hX1 HR
      have g16 : w2.cell? ⟨db, 16, none⟩ = some (.int .i64 d.place) := HB.out.cell 16
      by_cases hp0 : d.place < 0
      · have HT2 := Lib.hid (show T = toldF (ds.take (k + 1)) from by rw [HDR.out, toldF_snoc, if_neg (by omega)]; exact hT.out)
        have HIn2 := Lib.hid (show ∀ y ∈ ds.take (k + 1), y.place < es.length from fun y hy => by
          rw [HDR.out] at hy
          rcases List.mem_append.1 hy with q | q
          · exact hIn.out y q
          · simp at q; subst q; omega)
        clear hT hIn HDR
        go_wp2_with fail
        exact ⟨⟨k + 1, _, T, kv, hlt, rfl, by simp, HT2, HIn2, HX⟩, by simp [intOf]; omega⟩
      · by_cases hp1 : (es.length : Int) ≤ d.place
        · have HF := Lib.hid (explainF_false (es := es) (ds := ds) (fun hE => by have := hE.inside d hdm; omega))
          go_wp2_with fail
          go_ret
          exact ⟨ret_b (by rw [HF.out]), HX.out.only⟩
        · have hX := HX.out
          have hrow := hX.row
          obtain ⟨S, hS⟩ : ∃ S : List Nat, S = mb :: (Value.slice Av T.length cv).ownBlock.toList := ⟨_, rfl⟩
          have hdb : db ∉ S := fun q => by
            rw [hS] at q
            rcases List.mem_cons.1 q with q | q
            · exact hX.map.ne_blk HB.out q.symm
            · exact HDn.out db (by simpa using q) rfl
          have HBW := Lib.hid (fun (W : World) (hW : ∃ p : Within S w2, W = p.W) => show ∀ i, i < 26 → W.cell? ⟨db, 0 + i, none⟩ = [.int .i64 d.nd, .int .i64 d.id, .int .i64 d.req.x.c.kind, .int .i64 d.req.x.c.time, .string d.req.x.c.stream, .int .i64 d.req.x.c.expected, .slice Ad d.req.x.c.events.length capd, .int .i64 d.req.x.c.mt.maxCount, .int .i64 d.req.x.c.mt.maxAge, .int .i64 d.req.x.c.mt.before, .bool d.req.read, .bool d.req.all, .int .i64 d.req.fr, .int .i64 d.req.n, .bool d.req.back, .int .i64 d.rid, .int .i64 d.place, .int .i64 d.ans.err, .int .i64 d.ans.version, .int .i64 d.ans.position, .bool d.ans.again, .slice Ap d.pg.events.length capp, .int .i64 d.pg.next, .bool d.pg.isEnd, .int .i64 d.asked, .int .i64 d.answered][i]? from by
            obtain ⟨p, rfl⟩ := hW
            intro i hi
            have := (p.h.blk HB.out hdb).cell i
            simpa using this)
          have hr4 := (own_only hrow (Only.refl [] w2).drew (by simp)).alloc (.cells #[.int .i64 d.nd, .int .i64 d.id, .int .i64 d.req.x.c.kind, .int .i64 d.req.x.c.time, .string d.req.x.c.stream, .int .i64 d.req.x.c.expected, .slice Ad d.req.x.c.events.length capd, .int .i64 d.req.x.c.mt.maxCount, .int .i64 d.req.x.c.mt.maxAge, .int .i64 d.req.x.c.mt.before, .bool d.req.read, .bool d.req.all, .int .i64 d.req.fr, .int .i64 d.req.n, .bool d.req.back, .int .i64 d.rid, .int .i64 d.place, .int .i64 d.ans.err, .int .i64 d.ans.version, .int .i64 d.ans.position, .bool d.ans.again, .slice Ap d.pg.events.length capp, .int .i64 d.pg.next, .bool d.pg.isEnd, .int .i64 d.asked, .int .i64 d.answered] 61)
          have hTl : T.length ≤ 200 := by
            rw [hT.out]
            have := List.length_filter_le (fun d : DoneV => decide (0 ≤ d.place)) (ds.take k)
            unfold toldF
            simp at this ⊢
            omega
          have hz2 := hX.only.size
          obtain ⟨A3, cap3, w5, hrun, hown, hO5, hfr⟩ := run_app (P := Tryz.prog) 50 50 w.heap.size 61 (.agg #[.int .i64 0, .int .i64 0, .int .i64 0, .int .i64 0, .string ⟨#[]⟩, .int .i64 0, .slice none 0 0, .int .i64 0, .int .i64 0, .int .i64 0, .bool false, .bool false, .int .i64 0, .int .i64 0, .bool false, .int .i64 0, .int .i64 0, .int .i64 0, .int .i64 0, .int .i64 0, .bool false, .slice none 0 0, .int .i64 0, .bool false, .int .i64 0, .int .i64 0]) 26 240 Tryz.underlying50 infoDn rfl (by decide) hr4 (slc_new1 (w := w2.drew) (e := 61) (size := 26) (cs := [.int .i64 d.nd, .int .i64 d.id, .int .i64 d.req.x.c.kind, .int .i64 d.req.x.c.time, .string d.req.x.c.stream, .int .i64 d.req.x.c.expected, .slice Ad d.req.x.c.events.length capd, .int .i64 d.req.x.c.mt.maxCount, .int .i64 d.req.x.c.mt.maxAge, .int .i64 d.req.x.c.mt.before, .bool d.req.read, .bool d.req.all, .int .i64 d.req.fr, .int .i64 d.req.n, .bool d.req.back, .int .i64 d.rid, .int .i64 d.place, .int .i64 d.ans.err, .int .i64 d.ans.version, .int .i64 d.ans.position, .bool d.ans.again, .slice Ap d.pg.events.length capp, .int .i64 d.pg.next, .bool d.pg.isEnd, .int .i64 d.asked, .int .i64 d.answered]) rfl) (by simp [Value.oneCell']) (by omega) (by unfold maxLen; omega) (by simp; omega)
          have hmr : ∀ g, (Value.slice Av T.length cv).ownBlock = some g → g ≠ mb := fun g hg => by
            obtain ⟨cur, hb⟩ := own_type hrow hg
            exact (hX.map.ne_blk hb).symm
          have hO5' : Only (Value.slice Av T.length cv).ownBlock.toList w2 w5 := ((((Only.refl [] w2).drew).alloc _).of_nil).trans hO5
          have hm5 := hX.map.only hO5' (fun q => hmr mb (by simpa using q) rfl)
          have HM5 := Lib.hid hm5
          have HRun := Lib.hid hrun
          have hrow5 : w5.ownsRow w.heap.size 61 26 (.slice A3 (T.length + 1) cap3) (T ++ [d]).length ((T ++ [d]).flatMap DoneV.cells) := by
            rw [List.flatMap_append, show List.flatMap DoneV.cells [d] = [.int .i64 d.nd, .int .i64 d.id, .int .i64 d.req.x.c.kind, .int .i64 d.req.x.c.time, .string d.req.x.c.stream, .int .i64 d.req.x.c.expected, .slice Ad d.req.x.c.events.length capd, .int .i64 d.req.x.c.mt.maxCount, .int .i64 d.req.x.c.mt.maxAge, .int .i64 d.req.x.c.mt.before, .bool d.req.read, .bool d.req.all, .int .i64 d.req.fr, .int .i64 d.req.n, .bool d.req.back, .int .i64 d.rid, .int .i64 d.place, .int .i64 d.ans.err, .int .i64 d.ans.version, .int .i64 d.ans.position, .bool d.ans.again, .slice Ap d.pg.events.length capp, .int .i64 d.pg.next, .bool d.pg.isEnd, .int .i64 d.asked, .int .i64 d.answered] from by rw [← HCD.out]; simp, List.length_append]
            exact hown
          have HTold := Lib.hid (fun (w6 : World) (hm : MapIs (Value.int .i64) w6 mb (aput kv d.place d.val)) (k2 : Only [mb] w5 w6) => hX.told hO5' hrow5 hm k2)
          have HT2 := Lib.hid (show T ++ [d] = toldF (ds.take (k + 1)) from by rw [HDR.out, toldF_snoc, if_pos (by omega), ← hT.out])
          have HIn2 := Lib.hid (show ∀ y ∈ ds.take (k + 1), y.place < es.length from fun y hy => by
            rw [HDR.out] at hy
            rcases List.mem_append.1 hy with q | q
            · exact hIn.out y q
            · simp at q; subst q; omega)
          have HO5 := Lib.hid hO5'
          have HSm := Lib.hid (show mb ∈ S from by rw [hS]; simp)
          have HSr := Lib.hid (show ∀ g ∈ (Value.slice Av T.length cv).ownBlock.toList, g ∈ S from fun g hg => by rw [hS]; exact List.mem_cons_of_mem _ hg)
          have HTl := Lib.hid (show (T ++ [d]).length = T.length + 1 from by simp)
          have HDv := Lib.hid (show d.val = .agg #[.int .i64 d.nd, .int .i64 d.id, .int .i64 d.req.x.c.kind, .int .i64 d.req.x.c.time, .string d.req.x.c.stream, .int .i64 d.req.x.c.expected, .slice Ad d.req.x.c.events.length capd, .int .i64 d.req.x.c.mt.maxCount, .int .i64 d.req.x.c.mt.maxAge, .int .i64 d.req.x.c.mt.before, .bool d.req.read, .bool d.req.all, .int .i64 d.req.fr, .int .i64 d.req.n, .bool d.req.back, .int .i64 d.rid, .int .i64 d.place, .int .i64 d.ans.err, .int .i64 d.ans.version, .int .i64 d.ans.position, .bool d.ans.again, .slice Ap d.pg.events.length capp, .int .i64 d.pg.next, .bool d.pg.isEnd, .int .i64 d.asked, .int .i64 d.answered] from by unfold DoneV.val; rw [HCD.out])
          clear hS hX hrow hdb hr4 hrun hown hO5 hfr hO5' hm5 hrow5 hT hIn HDR hz2 hTl hmr HX HB
          go_wp2_with fail
          refine wp_region_in S [0, 1, 2, 3, 4] [5, 6, 7] [8] (by kernel_rfl) (by kernel_rfl) (by intro c d u a w h; cases d <;> exact h) ?_
          clear g16
          show wpQuiet _ _ _ _ [_, _, _, _, _] _
          go_big_quiet_step (fail)
          go_big_quiet_step (fail)
          go_big_quiet_want
          refine quiet_load_row 61 (.tmp 8) rfl db 0 rfl 26 [.int .i64 d.nd, .int .i64 d.id, .int .i64 d.req.x.c.kind, .int .i64 d.req.x.c.time, .string d.req.x.c.stream, .int .i64 d.req.x.c.expected, .slice Ad d.req.x.c.events.length capd, .int .i64 d.req.x.c.mt.maxCount, .int .i64 d.req.x.c.mt.maxAge, .int .i64 d.req.x.c.mt.before, .bool d.req.read, .bool d.req.all, .int .i64 d.req.fr, .int .i64 d.req.n, .bool d.req.back, .int .i64 d.rid, .int .i64 d.place, .int .i64 d.ans.err, .int .i64 d.ans.version, .int .i64 d.ans.position, .bool d.ans.again, .slice Ap d.pg.events.length capp, .int .i64 d.pg.next, .bool d.pg.isEnd, .int .i64 d.asked, .int .i64 d.answered] rfl HBW.out Tryz.underlying61 rfl (by kernel_rfl) ?_
          go_big_quiet_on
          try go_frame
          go_big_quiet_step (fail)
          go_big_quiet_want
          refine quiet_load_row 61 (.tmp 8) rfl db 0 rfl 26 [.int .i64 d.nd, .int .i64 d.id, .int .i64 d.req.x.c.kind, .int .i64 d.req.x.c.time, .string d.req.x.c.stream, .int .i64 d.req.x.c.expected, .slice Ad d.req.x.c.events.length capd, .int .i64 d.req.x.c.mt.maxCount, .int .i64 d.req.x.c.mt.maxAge, .int .i64 d.req.x.c.mt.before, .bool d.req.read, .bool d.req.all, .int .i64 d.req.fr, .int .i64 d.req.n, .bool d.req.back, .int .i64 d.rid, .int .i64 d.place, .int .i64 d.ans.err, .int .i64 d.ans.version, .int .i64 d.ans.position, .bool d.ans.again, .slice Ap d.pg.events.length capp, .int .i64 d.pg.next, .bool d.pg.isEnd, .int .i64 d.asked, .int .i64 d.answered] rfl HBW.out Tryz.underlying61 rfl (by kernel_rfl) ?_
          go_big_quiet_on
          try go_frame
          refine wpQuiet_nil ?_
          show wpList _ _ _ [_] _ _
          go_wp2_with fail
          refine check_of (S := S) (((Only.refl [] w2).drew.alloc _).of_nil) ?_
          show wpList _ _ _ [_] _ _
          go_wp2_with (at_builtin; refine Lib.wpList_append_run _ rfl (.tmp 37) (.tmp 39) 50 50 rfl _ _ rfl rfl _ _ HRun.out ?_)
          refine check_of (S := S) (HO5.out.mono HSr.out) ?_
          show wpList _ _ _ [_] _ _
          go_wp2_with (refine wpList_update_is rfl 107 rfl (keyEnc_int .i64) Tryz.underlying107 Tryz.underlying3 d.place (.agg #[.int .i64 d.nd, .int .i64 d.id, .int .i64 d.req.x.c.kind, .int .i64 d.req.x.c.time, .string d.req.x.c.stream, .int .i64 d.req.x.c.expected, .slice Ad d.req.x.c.events.length capd, .int .i64 d.req.x.c.mt.maxCount, .int .i64 d.req.x.c.mt.maxAge, .int .i64 d.req.x.c.mt.before, .bool d.req.read, .bool d.req.all, .int .i64 d.req.fr, .int .i64 d.req.n, .bool d.req.back, .int .i64 d.rid, .int .i64 d.place, .int .i64 d.ans.err, .int .i64 d.ans.version, .int .i64 d.ans.position, .bool d.ans.again, .slice Ap d.pg.events.length capp, .int .i64 d.pg.next, .bool d.pg.isEnd, .int .i64 d.asked, .int .i64 d.answered]) rfl rfl rfl HM5.out ?_; intro w6 hm6 hk6)
          rw [← HDv.out] at hm6
          have hX6 := HTold.out w6 hm6 hk6
          have HX6 := Lib.hid hX6
          refine check_of (S := S) ((HO5.out.mono HSr.out).trans (hk6.mono (fun g hg => by simp at hg; subst hg; exact HSm.out))) ?_
          clear hm6 hk6 hX6
          show wpList _ _ _ [_] _ _
          go_wp2_with fail
          exact ⟨⟨k + 1, _, T ++ [d], _, hlt, rfl, by simp, HT2, HIn2, HX6⟩, by simp [intOf]; omega⟩
    · have hkl : ds.take k = ds := List.take_of_length_le (by omega)
      have hT2 := hT.out
      have hIn2 := hIn.out
      rw [hkl] at hT2 hIn2
      have HT := Lib.hid hT2
      have HIn := Lib.hid hIn2
      have HX := hX
      clear hkl hT2 hIn2 hT hIn hX HX0 HDs
      rename World => wd
      go_wp2_with fail
      clear hlt hk
      refine (HN.out _).mono ?_
      rintro e w3 ⟨rfl, hs3, k3⟩
      obtain ⟨sb, hsb⟩ : ∃ sb, wd.heap.size + 1 = sb := ⟨_, rfl⟩
      obtain ⟨smb, hsm⟩ : ∃ smb, wd.heap.size = smb := ⟨_, rfl⟩
      have HS3 := Lib.hid (show HasS wd w3 [] [] sb smb MS.new 0 from by rw [← hsb, ← hsm]; exact hs3)
      rw [hsb]
      clear hsb hsm hs3 k3 HN
      go_wp2_with fail
      go_loopw [53] (fun iv wr => ∃ k : Nat, k ≤ es.length ∧ iv = .int .i64 k ∧ Hid (HasS wd wr [] [] sb smb (runE MS.new (es.take k)) k) ∧ Hid (∀ i (hi : i < es.length), i < k → ∀ d, atD T i = some d → RightAt es i hi d)) (fun iv _ => es.length - (intOf iv).toNat)
      case atStart => exact ⟨0, Nat.zero_le _, rfl, HS3, by unfold Hid; intro i hi h0; omega⟩
      case round =>
        rename_i k00
        obtain ⟨k, hk, rfl, hS, hR⟩ := hrel
        by_cases hlt : k < es.length
        · obtain ⟨b, off, rfl, hbb, hcc⟩ := HEs.out k hlt
          obtain ⟨x, hx⟩ : ∃ x, x = es[k] := ⟨_, rfl⟩
          have hxm : x ∈ es := by rw [hx]; exact List.getElem_mem hlt
          have hrt := runE_take MS.new es hlt
          rw [← hx] at hcc hrt
          have hO := HX.out.only.trans hS.out.only
          have HCc := Lib.hid (fun (W : World) (hO : Only [] w W) (i : Nat) (hi : i < 9) => (hO.cell (p := ⟨b, off + k * 9 + i, none⟩) hbb (by simp)).trans (hcc i hi))
          obtain ⟨q1, q2, q3⟩ := HC.out x hxm
          obtain ⟨Ax, capx, hxv, _, _, _⟩ := q2.openE EventR.cells (fun _ => rfl)
          have c0 : (wr).cell? ⟨b, off + k * 9, none⟩ = some (.int .i64 x.ep) := HCc.out _ hO 0 (by omega)
          have c1 : (wr).cell? ⟨b, off + k * 9 + 1, none⟩ = some (.int .i64 x.x.c.kind) := HCc.out _ hO 1 (by omega)
          have c2 : (wr).cell? ⟨b, off + k * 9 + 2, none⟩ = some (.int .i64 x.x.c.time) := HCc.out _ hO 2 (by omega)
          have c3 : (wr).cell? ⟨b, off + k * 9 + 3, none⟩ = some (.string x.x.c.stream) := HCc.out _ hO 3 (by omega)
          have c4 : (wr).cell? ⟨b, off + k * 9 + 4, none⟩ = some (.int .i64 x.x.c.expected) := HCc.out _ hO 4 (by omega)
          have c5 : (wr).cell? ⟨b, off + k * 9 + 5, none⟩ = some (.slice Ax x.x.c.events.length capx) := (HCc.out _ hO 5 (by omega)).trans (by rw [← hxv]; rfl)
          have c6 : (wr).cell? ⟨b, off + k * 9 + 6, none⟩ = some (.int .i64 x.x.c.mt.maxCount) := HCc.out _ hO 6 (by omega)
          have c7 : (wr).cell? ⟨b, off + k * 9 + 7, none⟩ = some (.int .i64 x.x.c.mt.maxAge) := HCc.out _ hO 7 (by omega)
          have c8 : (wr).cell? ⟨b, off + k * 9 + 8, none⟩ = some (.int .i64 x.x.c.mt.before) := HCc.out _ hO 8 (by omega)
          have hev : Slc w 4 (.slice Ax x.x.c.events.length capx) x.x.c.events.length (x.x.c.events.flatMap EventR.cells) := by rw [← hxv]; exact q2
          have hwd := HX.out.only.size
          have HDo2 := Lib.hid (fun (cs : Array Value) => show Calls Tryz.prog 9 #[.pointer (some ⟨sb, 0, none⟩), .agg #[.int .i64 x.x.c.kind, .int .i64 x.x.c.time, .string x.x.c.stream, .int .i64 x.x.c.expected, .slice Ax x.x.c.events.length capx, .int .i64 x.x.c.mt.maxCount, .int .i64 x.x.c.mt.maxAge, .int .i64 x.x.c.mt.before]] (wr.alloc (.cells cs 43)) fun e w' => e = .returned ((runE MS.new (es.take k)).do x.x.c).1.val ∧ HasS wd w' [] [wr.heap.size] sb smb ((runE MS.new (es.take k)).do x.x.c).2 (k + 1) ∧ Keeps wd ([] ++ [wr.heap.size]) (wr.alloc (.cells cs 43)) w' from
            has_do (c := x.x.c) (ev := .slice Ax x.x.c.events.length capx) (hS.out.addE ((Only.refl _ _).alloc _) (Nat.le_refl _) (by simp)) (by omega) q1 ⟨hev.only0 (hO.trans ((Only.refl _ _).alloc _)), fun g hg => by
              rw [← hxv] at hg
              rcases q3 g hg with z | z
              · exact .inl (.inl (by omega))
              · exact .inr (by rw [z]; rfl)⟩)
          have HEv := Lib.hid hev
          rw [← hrt] at HDo2
          obtain ⟨an, han⟩ : ∃ an, ((runE MS.new (es.take k)).do x.x.c).1 = an := ⟨_, rfl⟩
          rw [han] at HDo2
          have HAn := Lib.hid han
          have HX2 := Lib.hid hx
          unfold Ans.val at HDo2
          clear hcc q1 q2 q3 hxv hev hO hrt hx HCc han
          go_upto_region 19 with (go_at_call 9; refine (HDo2.out _).mono ?_; rintro e w5 ⟨rfl, hs5, k5⟩)
          have hbx := k5.blk (Blk.new wr 43 _) (.inr (by simp))
          obtain ⟨xb, hxb⟩ : ∃ xb, wr.heap.size = xb := ⟨_, rfl⟩
          obtain ⟨ab, hab⟩ : ∃ ab, w5.heap.size = ab := ⟨_, rfl⟩
          have k5a := (Only.refl [] w5).alloc (.cells #[.int .i64 an.err, .int .i64 an.version, .int .i64 an.position, .bool an.again] 34)
          obtain ⟨W3, hW3⟩ : ∃ W3, w5.alloc (.cells #[.int .i64 an.err, .int .i64 an.version, .int .i64 an.position, .bool an.again] 34) = W3 := ⟨_, rfl⟩
          have hba := Blk.new w5 34 #[.int .i64 an.err, .int .i64 an.version, .int .i64 an.position, .bool an.again]
          rw [hW3] at k5a hba
          have hbx3 := k5a.blk hbx (by simp)
          have hs6 := hs5.keep k5a
          rw [hxb] at hbx3 hs6
          rw [hab] at hba
          rw [hW3]
          try rw [hxb]
          try rw [hab]
          have HBx := Lib.hid hbx3
          have HBa := Lib.hid hba
          have HS6 := Lib.hid hs6
          have HX3 := Lib.hid (HX.out.keep0 hs6.only)
          clear hbx hbx3 hba hs5 k5 k5a hxb hab hW3 hs6 HDo2 c0 c1 c2 c3 c4 c5 c6 c7 c8
          go_cut [14, 15] from 54 to 67 (fun s14 s15 wx => ∃ db is, s14 = .pointer (some ⟨db, 0, none⟩) ∧ s15 = .bool is ∧ Hid ((atD T k = none ∧ is = false) ∨ ∃ d, atD T k = some d ∧ is = true ∧ Blk wx db 61 d.cells.toArray) ∧ Hid (Only [] W3 wx))
          case first =>
            have HM := Lib.hid HX3.out.map
            have hat := HX3.out.at_ (k : Int)
            cases hd : atD T (k : Int) with
            | none =>
              rw [hd] at hat
              have hv : (aget kv (k : Int)).getD (.agg #[.int .i64 0, .int .i64 0, .int .i64 0, .int .i64 0, .string ⟨#[]⟩, .int .i64 0, .slice none 0 0, .int .i64 0, .int .i64 0, .int .i64 0, .bool false, .bool false, .int .i64 0, .int .i64 0, .bool false, .int .i64 0, .int .i64 0, .int .i64 0, .int .i64 0, .int .i64 0, .bool false, .slice none 0 0, .int .i64 0, .bool false, .int .i64 0, .int .i64 0]) = .agg #[.int .i64 0, .int .i64 0, .int .i64 0, .int .i64 0, .string ⟨#[]⟩, .int .i64 0, .slice none 0 0, .int .i64 0, .int .i64 0, .int .i64 0, .bool false, .bool false, .int .i64 0, .int .i64 0, .bool false, .int .i64 0, .int .i64 0, .int .i64 0, .int .i64 0, .int .i64 0, .bool false, .slice none 0 0, .int .i64 0, .bool false, .int .i64 0, .int .i64 0] := by rw [hat]; rfl
              have hi : (aget kv (k : Int)).isSome = false := by rw [hat]; rfl
              have HV := Lib.hid hv
              have HI := Lib.hid hi
              have HD := Lib.hid hd
              clear hat hv hi hd
              go_wp2_with (first
                | (refine wpList_lookup_ok_is rfl 107 rfl (keyEnc_int .i64) Tryz.underlying107 Tryz.underlying3 (zeroDn _) (k : Int) rfl rfl HM.out (.agg #[.int .i64 0, .int .i64 0, .int .i64 0, .int .i64 0, .string ⟨#[]⟩, .int .i64 0, .slice none 0 0, .int .i64 0, .int .i64 0, .int .i64 0, .bool false, .bool false, .int .i64 0, .int .i64 0, .bool false, .int .i64 0, .int .i64 0, .int .i64 0, .int .i64 0, .int .i64 0, .bool false, .slice none 0 0, .int .i64 0, .bool false, .int .i64 0, .int .i64 0]) false HV.out HI.out ?_)
                | (refine wpList_store_new rfl 61 (.tmp 14) (.tmp 66) rfl _ _ 26 [.int .i64 0, .int .i64 0, .int .i64 0, .int .i64 0, .string ⟨#[]⟩, .int .i64 0, .slice none 0 0, .int .i64 0, .int .i64 0, .int .i64 0, .bool false, .bool false, .int .i64 0, .int .i64 0, .bool false, .int .i64 0, .int .i64 0, .int .i64 0, .int .i64 0, .int .i64 0, .bool false, .slice none 0 0, .int .i64 0, .bool false, .int .i64 0, .int .i64 0] rfl rfl rfl rfl (by kernel_rfl) (by simp [Value.oneCell']) ?_))
              go_meet
              exact ⟨_, false, rfl, rfl, Lib.hid (.inl ⟨HD.out, rfl⟩), Lib.hid ((Only.refl _ _).alloc _)⟩
            | some d =>
              rw [hd] at hat
              have hdm : d ∈ ds := by
                have := (atD_mem hd).1
                rw [HT.out] at this
                exact (mem_told.1 this).1
              have hdo := HDo.out d hdm
              obtain ⟨Ad, capd, hvd, _, _, _⟩ := hdo.ev.openE EventR.cells (fun _ => rfl)
              obtain ⟨Ap, capp, hvp, _, _, _⟩ := hdo.pg.openE StoredR.cells (fun _ => rfl)
              have hcd : d.cells = [.int .i64 d.nd, .int .i64 d.id, .int .i64 d.req.x.c.kind, .int .i64 d.req.x.c.time, .string d.req.x.c.stream, .int .i64 d.req.x.c.expected, .slice Ad d.req.x.c.events.length capd, .int .i64 d.req.x.c.mt.maxCount, .int .i64 d.req.x.c.mt.maxAge, .int .i64 d.req.x.c.mt.before, .bool d.req.read, .bool d.req.all, .int .i64 d.req.fr, .int .i64 d.req.n, .bool d.req.back, .int .i64 d.rid, .int .i64 d.place, .int .i64 d.ans.err, .int .i64 d.ans.version, .int .i64 d.ans.position, .bool d.ans.again, .slice Ap d.pg.events.length capp, .int .i64 d.pg.next, .bool d.pg.isEnd, .int .i64 d.asked, .int .i64 d.answered] := by rw [← hvd, ← hvp]; rfl
              have hv : (aget kv (k : Int)).getD (.agg #[.int .i64 0, .int .i64 0, .int .i64 0, .int .i64 0, .string ⟨#[]⟩, .int .i64 0, .slice none 0 0, .int .i64 0, .int .i64 0, .int .i64 0, .bool false, .bool false, .int .i64 0, .int .i64 0, .bool false, .int .i64 0, .int .i64 0, .int .i64 0, .int .i64 0, .int .i64 0, .bool false, .slice none 0 0, .int .i64 0, .bool false, .int .i64 0, .int .i64 0]) = .agg #[.int .i64 d.nd, .int .i64 d.id, .int .i64 d.req.x.c.kind, .int .i64 d.req.x.c.time, .string d.req.x.c.stream, .int .i64 d.req.x.c.expected, .slice Ad d.req.x.c.events.length capd, .int .i64 d.req.x.c.mt.maxCount, .int .i64 d.req.x.c.mt.maxAge, .int .i64 d.req.x.c.mt.before, .bool d.req.read, .bool d.req.all, .int .i64 d.req.fr, .int .i64 d.req.n, .bool d.req.back, .int .i64 d.rid, .int .i64 d.place, .int .i64 d.ans.err, .int .i64 d.ans.version, .int .i64 d.ans.position, .bool d.ans.again, .slice Ap d.pg.events.length capp, .int .i64 d.pg.next, .bool d.pg.isEnd, .int .i64 d.asked, .int .i64 d.answered] := by rw [hat]; show DoneV.val d = _; unfold DoneV.val; rw [hcd]
              have hi : (aget kv (k : Int)).isSome = true := by rw [hat]; rfl
              have HV := Lib.hid hv
              have HI := Lib.hid hi
              have HD := Lib.hid hd
              have HBd := Lib.hid (show Blk (W3.alloc (.cells #[.int .i64 d.nd, .int .i64 d.id, .int .i64 d.req.x.c.kind, .int .i64 d.req.x.c.time, .string d.req.x.c.stream, .int .i64 d.req.x.c.expected, .slice Ad d.req.x.c.events.length capd, .int .i64 d.req.x.c.mt.maxCount, .int .i64 d.req.x.c.mt.maxAge, .int .i64 d.req.x.c.mt.before, .bool d.req.read, .bool d.req.all, .int .i64 d.req.fr, .int .i64 d.req.n, .bool d.req.back, .int .i64 d.rid, .int .i64 d.place, .int .i64 d.ans.err, .int .i64 d.ans.version, .int .i64 d.ans.position, .bool d.ans.again, .slice Ap d.pg.events.length capp, .int .i64 d.pg.next, .bool d.pg.isEnd, .int .i64 d.asked, .int .i64 d.answered] 61)) W3.heap.size 61 d.cells.toArray from by rw [hcd]; exact Blk.new _ _ _)
              clear hat hv hi hd hdo hvd hvp hcd
              go_wp2_with (first
                | (refine wpList_lookup_ok_is rfl 107 rfl (keyEnc_int .i64) Tryz.underlying107 Tryz.underlying3 (zeroDn _) (k : Int) rfl rfl HM.out (.agg #[.int .i64 d.nd, .int .i64 d.id, .int .i64 d.req.x.c.kind, .int .i64 d.req.x.c.time, .string d.req.x.c.stream, .int .i64 d.req.x.c.expected, .slice Ad d.req.x.c.events.length capd, .int .i64 d.req.x.c.mt.maxCount, .int .i64 d.req.x.c.mt.maxAge, .int .i64 d.req.x.c.mt.before, .bool d.req.read, .bool d.req.all, .int .i64 d.req.fr, .int .i64 d.req.n, .bool d.req.back, .int .i64 d.rid, .int .i64 d.place, .int .i64 d.ans.err, .int .i64 d.ans.version, .int .i64 d.ans.position, .bool d.ans.again, .slice Ap d.pg.events.length capp, .int .i64 d.pg.next, .bool d.pg.isEnd, .int .i64 d.asked, .int .i64 d.answered]) true HV.out HI.out ?_)
                | (refine wpList_store_new rfl 61 (.tmp 14) (.tmp 66) rfl _ _ 26 [.int .i64 d.nd, .int .i64 d.id, .int .i64 d.req.x.c.kind, .int .i64 d.req.x.c.time, .string d.req.x.c.stream, .int .i64 d.req.x.c.expected, .slice Ad d.req.x.c.events.length capd, .int .i64 d.req.x.c.mt.maxCount, .int .i64 d.req.x.c.mt.maxAge, .int .i64 d.req.x.c.mt.before, .bool d.req.read, .bool d.req.all, .int .i64 d.req.fr, .int .i64 d.req.n, .bool d.req.back, .int .i64 d.rid, .int .i64 d.place, .int .i64 d.ans.err, .int .i64 d.ans.version, .int .i64 d.ans.position, .bool d.ans.again, .slice Ap d.pg.events.length capp, .int .i64 d.pg.next, .bool d.pg.isEnd, .int .i64 d.asked, .int .i64 d.answered] rfl rfl rfl rfl (by kernel_rfl) (by simp [Value.oneCell']) ?_))
              go_meet
              exact ⟨_, true, rfl, rfl, Lib.hid (.inr ⟨d, HD.out, rfl, HBd.out⟩), Lib.hid ((Only.refl _ _).alloc _)⟩
          rename World => w7
          obtain ⟨db, is, rfl, rfl, hat, k7⟩ := hcut
          have hs7 := HS6.out.keep k7.out
          have hO7 := HX3.out.only.trans k7.out
          have HS8 := Lib.hid (hs7.less (R' := []) (E' := []) (by simp) (by simp))
          rcases hat.out with ⟨hn, hi⟩ | ⟨d, hd, hi, hbd⟩
          · subst hi
            have HR2 := Lib.hid (show ∀ i (hi : i < es.length), i < k + 1 → ∀ d, atD T i = some d → RightAt es i hi d from fun i hi hlt' d hd' => by
              by_cases e : i = k
              · subst e
                rw [hn] at hd'
                cases hd'
              · exact hR.out i hi (by omega) d hd')
            clear hs7 hO7 hn hat hR HS6 HX3 HBx HBa
            go_wp2_with fail
            exact ⟨⟨k + 1, hlt, by simp, HS8, HR2⟩, by simp [intOf]; omega⟩
          · subst hi
            have hdm : d ∈ ds := by
              have := (atD_mem hd).1
              rw [HT.out] at this
              exact (mem_told.1 this).1
            have hdo := (HDo.out d hdm).keep0 hO7
            obtain ⟨Ad, capd, hvd, _, _, _⟩ := hdo.ev.openE EventR.cells (fun _ => rfl)
            obtain ⟨Ap, capp, hvp, _, _, _⟩ := hdo.pg.openE StoredR.cells (fun _ => rfl)
            have hcd : d.cells = [.int .i64 d.nd, .int .i64 d.id, .int .i64 d.req.x.c.kind, .int .i64 d.req.x.c.time, .string d.req.x.c.stream, .int .i64 d.req.x.c.expected, .slice Ad d.req.x.c.events.length capd, .int .i64 d.req.x.c.mt.maxCount, .int .i64 d.req.x.c.mt.maxAge, .int .i64 d.req.x.c.mt.before, .bool d.req.read, .bool d.req.all, .int .i64 d.req.fr, .int .i64 d.req.n, .bool d.req.back, .int .i64 d.rid, .int .i64 d.place, .int .i64 d.ans.err, .int .i64 d.ans.version, .int .i64 d.ans.position, .bool d.ans.again, .slice Ap d.pg.events.length capp, .int .i64 d.pg.next, .bool d.pg.isEnd, .int .i64 d.asked, .int .i64 d.answered] := by rw [← hvd, ← hvp]; rfl
            rw [hcd] at hbd
            have gx := fun i => (k7.out.blk HBx.out (by simp)).cell i
            have ga := fun i => (k7.out.blk HBa.out (by simp)).cell i
            have HBd := Lib.hid (show ∀ i, i < 26 → w7.cell? ⟨db, 0 + i, none⟩ = [.int .i64 d.nd, .int .i64 d.id, .int .i64 d.req.x.c.kind, .int .i64 d.req.x.c.time, .string d.req.x.c.stream, .int .i64 d.req.x.c.expected, .slice Ad d.req.x.c.events.length capd, .int .i64 d.req.x.c.mt.maxCount, .int .i64 d.req.x.c.mt.maxAge, .int .i64 d.req.x.c.mt.before, .bool d.req.read, .bool d.req.all, .int .i64 d.req.fr, .int .i64 d.req.n, .bool d.req.back, .int .i64 d.rid, .int .i64 d.place, .int .i64 d.ans.err, .int .i64 d.ans.version, .int .i64 d.ans.position, .bool d.ans.again, .slice Ap d.pg.events.length capp, .int .i64 d.pg.next, .bool d.pg.isEnd, .int .i64 d.asked, .int .i64 d.answered][i]? from fun i hi => by have := hbd.cell i; simpa using this)
            have hinv := run_inv (es.take (k + 1)) inv_new inv2_new MS.new_ok
            have hxc := HCf.out x (by rw [HX2.out]; exact List.getElem_mem hlt)
            have hrg : Calls Tryz.prog 41 #[.pointer (some ⟨sb, 0, none⟩), .agg #[.int .i64 x.x.c.kind, .int .i64 x.x.c.time, .string x.x.c.stream, .int .i64 x.x.c.expected, .slice Ax x.x.c.events.length capx, .int .i64 x.x.c.mt.maxCount, .int .i64 x.x.c.mt.maxAge, .int .i64 x.x.c.mt.before], .agg #[.int .i64 an.err, .int .i64 an.version, .int .i64 an.position, .bool an.again], .agg #[.int .i64 d.nd, .int .i64 d.id, .int .i64 d.req.x.c.kind, .int .i64 d.req.x.c.time, .string d.req.x.c.stream, .int .i64 d.req.x.c.expected, .slice Ad d.req.x.c.events.length capd, .int .i64 d.req.x.c.mt.maxCount, .int .i64 d.req.x.c.mt.maxAge, .int .i64 d.req.x.c.mt.before, .bool d.req.read, .bool d.req.all, .int .i64 d.req.fr, .int .i64 d.req.n, .bool d.req.back, .int .i64 d.rid, .int .i64 d.place, .int .i64 d.ans.err, .int .i64 d.ans.version, .int .i64 d.ans.position, .bool d.ans.again, .slice Ap d.pg.events.length capp, .int .i64 d.pg.next, .bool d.pg.isEnd, .int .i64 d.asked, .int .i64 d.answered]] w7 fun e w' => e = .returned (.bool (rightF (runE MS.new (es.take (k + 1))) x.x.c an d)) ∧ Only [] w7 w' := by
              rw [← hvd, ← hvp]
              cases hrd : d.req.read with
              | false =>
                have := right_no (sb := sb) (s := runE MS.new (es.take (k + 1))) (c := x.x.c) (an := an) hrd hdo (HEv.out.only0 hO7) hxc
                rw [hrd] at this
                exact this
              | true =>
                have := right_yes (an := an) (c := x.x.c) hrd hs7 (by omega) hinv.2.1 hdo (HEv.out.only0 hO7) hxc
                rw [hrd] at this
                exact this
            have hra : RightAt es k hlt d = (rightF (runE MS.new (es.take (k + 1))) x.x.c an d = true) := by
              unfold RightAt
              rw [← HX2.out, HAn.out]
            obtain ⟨b0, hb0⟩ : ∃ b0, rightF (runE MS.new (es.take (k + 1))) x.x.c an d = b0 := ⟨_, rfl⟩
            rw [hb0] at hrg hra
            have HRg := Lib.hid hrg
            have HRa := Lib.hid hra
            have HDd := Lib.hid hd
            clear hinv hrg hdo hvd hvp hcd hbd hs7 hO7 hxc hb0 hra hd hat HEv HX2 HAn HS6 HX3 HBx HBa
            cases b0
            · have HF := Lib.hid (explainF_false (es := es) (ds := ds) (fun hE => by
                have := hE.right k hlt d (by rw [← HT.out]; exact HDd.out)
                rw [HRa.out] at this
                cases this))
              have HOF := Lib.hid (HX.out.only.trans HS8.out.only)
              go_wp2_with (first
                | (refine wpList_load_row2w rfl 61 (.tmp 14) rfl db 0 rfl 26 [.int .i64 d.nd, .int .i64 d.id, .int .i64 d.req.x.c.kind, .int .i64 d.req.x.c.time, .string d.req.x.c.stream, .int .i64 d.req.x.c.expected, .slice Ad d.req.x.c.events.length capd, .int .i64 d.req.x.c.mt.maxCount, .int .i64 d.req.x.c.mt.maxAge, .int .i64 d.req.x.c.mt.before, .bool d.req.read, .bool d.req.all, .int .i64 d.req.fr, .int .i64 d.req.n, .bool d.req.back, .int .i64 d.rid, .int .i64 d.place, .int .i64 d.ans.err, .int .i64 d.ans.version, .int .i64 d.ans.position, .bool d.ans.again, .slice Ap d.pg.events.length capp, .int .i64 d.pg.next, .bool d.pg.isEnd, .int .i64 d.asked, .int .i64 d.answered] rfl HBd.out Tryz.underlying61 rfl (by kernel_rfl) ?_)
                | (go_at_call 41; refine HRg.out.mono ?_; rintro e w8 ⟨rfl, k8⟩))
              go_ret
              exact ⟨ret_b (by rw [HF.out]), HOF.out.trans k8⟩
            · have HR2 := Lib.hid (show ∀ i (hi : i < es.length), i < k + 1 → ∀ d, atD T i = some d → RightAt es i hi d from fun i hi hlt' d' hd' => by
                by_cases e : i = k
                · subst e
                  rw [HDd.out] at hd'
                  injection hd' with hd'
                  subst hd'
                  rw [HRa.out]
                · exact hR.out i hi (by omega) d' hd')
              clear hR
              go_wp2_with (first
                | (refine wpList_load_row2w rfl 61 (.tmp 14) rfl db 0 rfl 26 [.int .i64 d.nd, .int .i64 d.id, .int .i64 d.req.x.c.kind, .int .i64 d.req.x.c.time, .string d.req.x.c.stream, .int .i64 d.req.x.c.expected, .slice Ad d.req.x.c.events.length capd, .int .i64 d.req.x.c.mt.maxCount, .int .i64 d.req.x.c.mt.maxAge, .int .i64 d.req.x.c.mt.before, .bool d.req.read, .bool d.req.all, .int .i64 d.req.fr, .int .i64 d.req.n, .bool d.req.back, .int .i64 d.rid, .int .i64 d.place, .int .i64 d.ans.err, .int .i64 d.ans.version, .int .i64 d.ans.position, .bool d.ans.again, .slice Ap d.pg.events.length capp, .int .i64 d.pg.next, .bool d.pg.isEnd, .int .i64 d.asked, .int .i64 d.answered] rfl HBd.out Tryz.underlying61 rfl (by kernel_rfl) ?_)
                | (go_at_call 41; refine HRg.out.mono ?_; rintro e w8 ⟨rfl, k8⟩))
              exact ⟨⟨k + 1, hlt, by simp, Lib.hid (HS8.out.keep k8), HR2⟩, by simp [intOf]; omega⟩
        · have hkk : k = es.length := by omega
          have hO := HX.out.only.trans hS.out.only
          have hrow := (HX.out.keep0 hS.out.only).row
          have HOr := Lib.hid (aordered_any (ds := T) (Slc.of_own hrow).1 (by
            rw [HT.out]
            have := List.length_filter_le (fun d : DoneV => decide (0 ≤ d.place)) ds
            unfold toldF
            omega) (fun d hd => (HDo.out d (by rw [HT.out] at hd; exact (mem_told.1 hd).1)).keep0 hO))
          have HF := Lib.hid (explainF_ord (es := es) (ds := ds) HIn.out (fun i hi d hd => hR.out i hi (by omega) d (by rw [HT.out]; exact hd)))
          have HO := Lib.hid hO
          clear hO hrow hkk
          go_wp2_with fail
          refine HOr.out.mono ?_
          rintro e w8 ⟨rfl, k8⟩
          go_wp2_with fail
          go_ret
          exact ⟨ret_b (by rw [HF.out, HT.out]), HO.out.trans k8⟩
end
end
section
open Go.RowKit Go Go.Sort
def clampT (now : Int) : Int := min (max now 0) 1099511627776
/-- The command that a request comes to. -/
def ReqV.cmd (q : ReqV) (now : Int) : Cmd := if q.read then ⟨4, clampT now, ⟨#[]⟩, 0, [], MetaR.zero⟩ else { q.x.c with time := clampT now }
/-- What a request comes to, of a state. -/
def ReqV.ans (s : MS) (q : ReqV) (now : Int) : Ans := if q.read then { (s.do (q.cmd now)).1 with err := (readQ (s.do (q.cmd now)).2 q).2 } else (s.do (q.cmd now)).1
def ReqV.page (s : MS) (q : ReqV) (now : Int) : PageR := if q.read then (readQ (s.do (q.cmd now)).2 q).1 else PageR.zero
/-- What Result leaves. -/
def ResOut (a w : World) (H : List Nat) (rb : Nat) (an : Ans) (pg : PageR) (r' : RS) (e : Ending) (w' : World) : Prop :=
  ∃ A cp, e = .returned (.tuple #[.agg #[.int .i64 an.err, .int .i64 an.version, .int .i64 an.position, .bool an.again], .agg #[.slice A pg.events.length cp, .int .i64 pg.next, .bool pg.isEnd]]) ∧
    ∃ H', HasD a w' H' rb r' ∧ Stepped w w' H H' ∧ w'.ownsRow w.heap.size 92 8 (.slice A pg.events.length cp) pg.events.length (pg.events.flatMap StoredR.cells) ∧ ∀ g, (Value.slice A pg.events.length cp).ownBlock = some g → g ∉ H'
section
variable {a w : World} {H : List Nat} {rb N : Nat} {s : MS} {r : RS} {q : ReqV} {now : Int}
set_option maxRecDepth 100000 in
set_option maxHeartbeats 8000000 in
theorem result_no (h : HasD a w H rb r) (hL : Like s r N) (hi : s.Inv) (ho : s.Ok N) (hN : N ≤ 1000) (hr : q.read = false) (hc : CmdOk { q.x.c with time := clampT now }) (h12 : q.x.c.events.length ≤ 12)
    (he : Slc w 4 q.x.ev q.x.c.events.length (q.x.c.events.flatMap EventR.cells)) (hg : ∀ g, q.x.ev.ownBlock = some g → g ∉ H ∨ q.x.c.events = []) :
    Calls Tryz.prog 40 #[.pointer (some ⟨rb, 0, none⟩), .agg #[.int .i64 q.x.c.kind, .int .i64 q.x.c.time, .string q.x.c.stream, .int .i64 q.x.c.expected, q.x.ev, .int .i64 q.x.c.mt.maxCount, .int .i64 q.x.c.mt.maxAge, .int .i64 q.x.c.mt.before, .bool q.read, .bool q.all, .int .i64 q.fr, .int .i64 q.n, .bool q.back], .int .i64 now] w (ResOut a w H rb (q.ans s now) (q.page s now) (r.do (q.cmd now)).2) := by
  have ha : q.ans s now = (s.do (q.cmd now)).1 := by unfold ReqV.ans; rw [hr]; rfl
  have hp : q.page s now = PageR.zero := by unfold ReqV.page; rw [hr]; rfl
  have hcm : q.cmd now = { q.x.c with time := clampT now } := by unfold ReqV.cmd; rw [hr]; rfl
  have hal := hL.alike
  have hans := (alike_do hal hi hL.inv2 ho (q.cmd now)).1
  have hfine := hal.fine ho (by omega)
  have hall := ho.all
  have hrl : r.l.length ≤ 8 * N := by rw [hal.l]; exact hall
  have hdn : 0 ≤ r.done ∧ r.done ≤ N := by rw [hal.done]; exact ho.done
  have hsl := hL.slen
  rw [ha, hp, ← hans]
  obtain ⟨Ax, cx, hxv, _, _, _⟩ := he.openE EventR.cells (fun _ => rfl)
  rw [hxv] at he hg
  have hlt := h.lt
  have HDd := Lib.hid (fun (W : World) (hd : HasD a W H rb r) (kW : Only [] w W) => show Calls Tryz.prog 10 #[.pointer (some ⟨rb, 0, none⟩), .agg #[.int .i64 q.x.c.kind, .int .i64 (clampT now), .string q.x.c.stream, .int .i64 q.x.c.expected, .slice Ax q.x.c.events.length cx, .int .i64 q.x.c.mt.maxCount, .int .i64 q.x.c.mt.maxAge, .int .i64 q.x.c.mt.before]] W fun e w' => e = .returned (r.do (q.cmd now)).1.val ∧ DTo a W H rb (r.do (q.cmd now)).2 w' from by
    rw [hcm]
    exact ddo_any hd hfine (by omega) (by omega) { q.x.c with time := clampT now } (.slice Ax q.x.c.events.length cx) (he.only0 kW) hg hc (by show r.l.length + q.x.c.events.length ≤ 1000000; omega))
  obtain ⟨an, han⟩ : ∃ an, (r.do (q.cmd now)).1 = an := ⟨_, rfl⟩
  rw [han] at HDd ⊢
  obtain ⟨r2, hr2⟩ : ∃ r2, (r.do (q.cmd now)).2 = r2 := ⟨_, rfl⟩
  rw [hr2] at HDd ⊢
  rw [hxv, hr]
  have HH := Lib.hid h
  have HLt := Lib.hid hlt
  unfold Ans.val at HDd
  clear ha hp hcm hans hal hfine hall hrl hdn hsl han hr2 he hg hc hxv hL hi ho h hlt h12
  unfold clampT at HDd
  go_enter Tryz.func40, Tryz.ntmps40
  go_upto_region 11 with (go_at_call 10
                          refine (HDd.out _ (HH.out.keep0 (((((Only.refl [] w).alloc _).alloc _).alloc _).alloc _)) (((((Only.refl [] w).alloc _).alloc _).alloc _).alloc _)).mono ?_
                          rintro e w5 ⟨rfl, H5, hd5, ⟨⟨S5, k5, s5⟩, t5⟩⟩
                          have hS5 : ∀ g, w.heap.size ≤ g → g ∉ S5 := fun g hg q => by have := HLt.out g (s5 g q); omega
                          have b4 := k5.blk (nb0 _ _ _ _ _ _) (hS5 _ (Nat.le_refl _))
                          have b6 := k5.blk (nb1 _ _ _ _ _ _) (hS5 _ (by omega))
                          have b7 := k5.blk (nb2 _ _ _ _ _ _) (hS5 _ (by omega))
                          have g4 : ∀ o1 o2, ((w5.alloc o1).alloc o2).cell? ⟨w.heap.size, 8, none⟩ = some (.bool false) := fun o1 o2 => ((((Only.refl [] w5).alloc o1).alloc o2).blk b4 (by simp)).cell 8)
  clear g4 b4 HDd
  have j6 := ((Only.refl [] w5).alloc (.cells #[.int .i64 an.err, .int .i64 an.version, .int .i64 an.position, .bool an.again] 34)).alloc (.cells #[.slice none 0 0, .int .i64 0, .bool false] 57)
  have ba := ((Only.refl [] _).alloc (.cells #[.slice none 0 0, .int .i64 0, .bool false] 57)).blk (Blk.new w5 34 #[.int .i64 an.err, .int .i64 an.version, .int .i64 an.position, .bool an.again]) (by simp)
  have bp := Blk.new (w5.alloc (.cells #[.int .i64 an.err, .int .i64 an.version, .int .i64 an.position, .bool an.again] 34)) 57 #[.slice none 0 0, .int .i64 0, .bool false]
  rw [World.size_alloc] at bp
  have c6 := j6.blk b6 (by simp)
  have c7 := j6.blk b7 (by simp)
  have hz : w.heap.size + 1 + 1 + 1 + 1 ≤ w5.heap.size := by have := k5.size; simpa using this
  obtain ⟨W6, hW6⟩ : ∃ W6, (w5.alloc (.cells #[.int .i64 an.err, .int .i64 an.version, .int .i64 an.position, .bool an.again] 34)).alloc (.cells #[.slice none 0 0, .int .i64 0, .bool false] 57) = W6 := ⟨_, rfl⟩
  rw [hW6] at ba bp c6 c7 j6
  try rw [hW6]
  obtain ⟨ab, hab⟩ : ∃ ab, w5.heap.size = ab := ⟨_, rfl⟩
  rw [hab] at ba bp hz
  try rw [hab]
  have Wa := fun i v (hv : #[Value.int .i64 an.err, .int .i64 an.version, .int .i64 an.position, .bool an.again][i]? = some v) => Within.cell (S := [w.heap.size + 1]) (x := ⟨ab, i, none⟩) (v := v) ((ba.cell i).trans hv) (by simp; omega)
  have A0 := Wa 0 _ rfl
  have A1 := Wa 1 _ rfl
  have A2 := Wa 2 _ rfl
  have A3 := Wa 3 _ rfl
  have Wp := fun i v (hv : #[Value.slice none 0 0, .int .i64 0, .bool false][i]? = some v) => Within.cell (S := [w.heap.size + 1]) (x := ⟨ab + 1, i, none⟩) (v := v) ((bp.cell i).trans hv) (by simp; omega)
  have P0 := Wp 0 _ rfl
  have P1 := Wp 1 _ rfl
  have P2 := Wp 2 _ rfl
  have c6d := (Only.refl [] W6).drew.blk c6 (by simp)
  have c7d := (Only.refl [] W6).drew.blk c7 (by simp)
  have x6 := fun i => c6d.cell i
  have y6 := fun i => c6d.free i
  have x6w := fun i => c6.cell i
  have y6w := fun i => c6.free i
  clear Wa Wp
  refine wp_region_in [w.heap.size + 1] [0, 1] [2] [3] (by kernel_rfl) (by kernel_rfl) (by intro c d u a w h; cases d <;> exact h) ?_
  show wpQuiet _ _ _ _ [_, _] _
  repeat (go_big_quiet_step (fail))
  refine wpQuiet_nil ?_
  show wpList _ _ _ [_] _ _
  go_wp2_with fail
  have k67 : Only [w.heap.size + 1] W6 ((((W6.setCell ⟨w.heap.size + 1, 0, none⟩ (.int .i64 an.err)).setCell ⟨w.heap.size + 1, 1, none⟩ (.int .i64 an.version)).setCell ⟨w.heap.size + 1, 2, none⟩ (.int .i64 an.position)).setCell ⟨w.heap.size + 1, 3, none⟩ (.bool an.again)).drew := by
    refine Only.drew ?_
    iterate 4 (refine Only.setCell ?_ (.inl (by simp)) _)
    exact Only.refl _ _
  refine check_of (S := [w.heap.size + 1]) k67 ?_
  have d61 : Blk _ _ 34 #[.int .i64 an.err, .int .i64 0, .int .i64 0, .bool false] := c6.set 0 (.int .i64 an.err)
  have d62 : Blk _ _ 34 #[.int .i64 an.err, .int .i64 an.version, .int .i64 0, .bool false] := d61.set 1 (.int .i64 an.version)
  have d63 : Blk _ _ 34 #[.int .i64 an.err, .int .i64 an.version, .int .i64 an.position, .bool false] := d62.set 2 (.int .i64 an.position)
  have d64 : Blk _ _ 34 #[.int .i64 an.err, .int .i64 an.version, .int .i64 an.position, .bool an.again] := d63.set 3 (.bool an.again)
  have d6 := (Only.refl [] _).drew.blk d64 (by simp)
  obtain ⟨W7, hW7⟩ : ∃ W7, ((((W6.setCell ⟨w.heap.size + 1, 0, none⟩ (.int .i64 an.err)).setCell ⟨w.heap.size + 1, 1, none⟩ (.int .i64 an.version)).setCell ⟨w.heap.size + 1, 2, none⟩ (.int .i64 an.position)).setCell ⟨w.heap.size + 1, 3, none⟩ (.bool an.again)).drew = W7 := ⟨_, rfl⟩
  rw [hW7] at d6 k67 ⊢
  have d7 := k67.blk c7 (by simp)
  have x7 := fun i => d7.cell i
  have y7 := fun i => d7.free i
  clear d61 d62 d63 d64 x6 y6 x6w y6w hW7
  show wpList _ _ _ [_] _ _
  go_wp2_with fail
  have hX : ∀ b ∈ H5, b < w.heap.size ∨ w.heap.size + 1 + 1 + 1 + 1 ≤ b := fun b hb => by
    rcases t5 b hb with y | y
    · exact .inl (HLt.out b y)
    · simp at y
      exact .inr (by omega)
  have e71 : Blk _ _ 57 #[.slice none 0 0, .int .i64 0, .bool false] := d7.set 0 (.slice none 0 0)
  have e72 : Blk _ _ 57 #[.slice none 0 0, .int .i64 0, .bool false] := e71.set 1 (.int .i64 0)
  have e7 : Blk _ _ 57 #[.slice none 0 0, .int .i64 0, .bool false] := e72.set 2 (.bool false)
  have k78 : Only [w.heap.size + 1 + 1] W7 (((W7.setCell ⟨w.heap.size + 1 + 1, 0, none⟩ (.slice none 0 0)).setCell ⟨w.heap.size + 1 + 1, 1, none⟩ (.int .i64 0)).setCell ⟨w.heap.size + 1 + 1, 2, none⟩ (.bool false)) := by
    iterate 3 (refine Only.setCell ?_ (.inl (by simp)) _)
    exact Only.refl _ _
  have e6 := k78.blk d6 (by simp)
  have z6 := fun i => e6.cell i
  have z7 := fun i => e7.cell i
  have hO : Only [w.heap.size + 1, w.heap.size + 1 + 1] w5 (((W7.setCell ⟨w.heap.size + 1 + 1, 0, none⟩ (.slice none 0 0)).setCell ⟨w.heap.size + 1 + 1, 1, none⟩ (.int .i64 0)).setCell ⟨w.heap.size + 1 + 1, 2, none⟩ (.bool false)) := (j6.of_nil.trans (k67.mono (fun g hg => by simp at hg ⊢; exact .inl hg))).trans (k78.mono (fun g hg => by simp at hg ⊢; exact .inr hg))
  have hHa := HH.out.only.size
  have hfin := hd5.keep hO (fun b hb => by simp at hb; omega) (fun b hb q => by have := hX b hb; simp at q; omega)
  have hst : Stepped w (((W7.setCell ⟨w.heap.size + 1 + 1, 0, none⟩ (.slice none 0 0)).setCell ⟨w.heap.size + 1 + 1, 1, none⟩ (.int .i64 0)).setCell ⟨w.heap.size + 1 + 1, 2, none⟩ (.bool false)) H H5 :=
    ⟨⟨S5, ((((((Only.refl [] w).alloc _).alloc _).alloc _).alloc _).of_nil.trans k5).step hO (fun g hg => by simp at hg; exact .inr (by omega)), s5⟩, fun b hb => by
      rcases hX b hb with y | y
      · rcases t5 b hb with z | z
        · exact .inl z
        · simp at z; omega
      · exact .inr (by omega)⟩
  refine bodyPost_ret (v := .tuple #[.agg #[.int .i64 an.err, .int .i64 an.version, .int .i64 an.position, .bool an.again], .agg #[.slice none 0 0, .int .i64 0, .bool false]]) (by simp [results, Tryz.results40, go_sem, z6, z7]) rfl ⟨none, 0, rfl, H5, hfin, hst, World.ownsRow_nil _ _ _ _, by simp [Value.ownBlock]⟩
end
end
section
open Go.RowKit Go Go.Sort
theorem doc_reads {a W : World} {H : List Nat} {rb N : Nat} {s : MS} {r : RS} (hL : Like s r N) (hi : s.Inv) (ho : s.Ok N) (hN : N ≤ 1000) (q : ReqV) (hn : q.x.c.stream.size ≤ maxLen) (h : HasD a W H rb r) :
    (q.all = true → Calls Tryz.prog 76 #[.pointer (some ⟨rb, 0, none⟩), .int .i64 q.fr, .int .i64 q.n, .bool q.back] W (PageLit W (readQ s q).1.events (readQ s q).1.next (readQ s q).1.isEnd (readQ s q).2)) ∧
    (q.all = false → Calls Tryz.prog 77 #[.pointer (some ⟨rb, 0, none⟩), .string q.x.c.stream, .int .i64 q.fr, .int .i64 q.n, .bool q.back] W (PageLit W (readQ s q).1.events (readQ s q).1.next (readQ s q).1.isEnd (readQ s q).2)) := by
  have hal := hL.alike
  have hfine := hal.fine ho (by omega)
  have hn0 : (⟨#[]⟩ : ByteArray).toList = [] := by rw [ByteArray.toList_eq]
  constructor
  · intro ha
    refine page_lit ?_
    unfold readQ
    rw [if_pos ha, ← hal.allP hi hL.inv2 hn0]
    exact dall_any h hfine q.fr q.n q.back (by rw [hal.l]; exact pos_bd hi ho (by omega))
  · intro ha
    refine page_lit ?_
    unfold readQ
    rw [if_neg (by rw [ha]; simp), ← hal.read hi hL.inv2]
    exact dread_any h hfine q.x.c.stream hn q.fr q.n q.back (by rw [hal.l]; exact vers_bd hi ho (by omega))
section
variable {a w : World} {H : List Nat} {rb N : Nat} {s : MS} {r : RS} {q : ReqV} {now : Int}
set_option maxRecDepth 100000 in
set_option maxHeartbeats 8000000 in
theorem result_yes (h : HasD a w H rb r) (hL : Like s r N) (hi : s.Inv) (ho : s.Ok N) (hN : N ≤ 900) (hr : q.read = true) (hst0 : q.x.c.stream.size ≤ maxLen)
    (he : Slc w 4 q.x.ev q.x.c.events.length (q.x.c.events.flatMap EventR.cells)) :
    Calls Tryz.prog 40 #[.pointer (some ⟨rb, 0, none⟩), .agg #[.int .i64 q.x.c.kind, .int .i64 q.x.c.time, .string q.x.c.stream, .int .i64 q.x.c.expected, q.x.ev, .int .i64 q.x.c.mt.maxCount, .int .i64 q.x.c.mt.maxAge, .int .i64 q.x.c.mt.before, .bool q.read, .bool q.all, .int .i64 q.fr, .int .i64 q.n, .bool q.back], .int .i64 now] w (ResOut a w H rb (q.ans s now) (q.page s now) (r.do (q.cmd now)).2) := by
  have ha : q.ans s now = { (s.do (q.cmd now)).1 with err := (readQ (s.do (q.cmd now)).2 q).2 } := by unfold ReqV.ans; rw [hr]; rfl
  have hp : q.page s now = (readQ (s.do (q.cmd now)).2 q).1 := by unfold ReqV.page; rw [hr]; rfl
  have hcm : q.cmd now = ⟨4, clampT now, ⟨#[]⟩, 0, [], MetaR.zero⟩ := by unfold ReqV.cmd; rw [hr]; rfl
  have hal := hL.alike
  have hans := (alike_do hal hi hL.inv2 ho (q.cmd now)).1
  have hfine := hal.fine ho (by omega)
  have hall := ho.all
  have hrl : r.l.length ≤ 8 * N := by rw [hal.l]; exact hall
  have hdn : 0 ≤ r.done ∧ r.done ≤ N := by rw [hal.done]; exact ho.done
  have hsl := hL.slen
  have hL2 := hL.did hi ho (q.cmd now)
  have hi2 := inv_do hi (q.cmd now)
  have ho2 := MS.do_ok ho (q.cmd now)
  rw [ha, hp, ← hans]
  obtain ⟨Ax, cx, hxv, _, _, _⟩ := he.openE EventR.cells (fun _ => rfl)
  have hlt := h.lt
  have HDd := Lib.hid (fun (W : World) (hd : HasD a W H rb r) (kW : Only [] w W) => show Calls Tryz.prog 10 #[.pointer (some ⟨rb, 0, none⟩), .agg #[.int .i64 4, .int .i64 (clampT now), .string ⟨#[]⟩, .int .i64 0, .slice none 0 0, .int .i64 0, .int .i64 0, .int .i64 0]] W fun e w' => e = .returned (r.do (q.cmd now)).1.val ∧ DTo a W H rb (r.do (q.cmd now)).2 w' from by
    rw [hcm]
    exact ddo_any hd hfine (by omega) (by omega) ⟨4, clampT now, ⟨#[]⟩, 0, [], MetaR.zero⟩ (.slice none 0 0) (Slc.nil _ 4) (fun g hg => by cases hg) ⟨by show (0 : Nat) ≤ maxLen; unfold maxLen; omega, fun e he => by cases he⟩ (by show r.l.length + 0 ≤ 1000000; omega))
  obtain ⟨an, han⟩ : ∃ an, (r.do (q.cmd now)).1 = an := ⟨_, rfl⟩
  rw [han] at HDd ⊢
  obtain ⟨r2, hr2⟩ : ∃ r2, (r.do (q.cmd now)).2 = r2 := ⟨_, rfl⟩
  rw [hr2] at HDd hL2 ⊢
  obtain ⟨s2, hs2⟩ : ∃ s2, (s.do (q.cmd now)).2 = s2 := ⟨_, rfl⟩
  rw [hs2] at hL2 hi2 ho2 ⊢
  have HRd := Lib.hid (fun (W : World) (H' : List Nat) (h : HasD a W H' rb r2) => doc_reads hL2 hi2 ho2 (by omega) q hst0 h)
  obtain ⟨⟨⟨ps, pn, pe⟩, pr⟩, hrq⟩ : ∃ R, readQ s2 q = R := ⟨_, rfl⟩
  rw [hrq] at HRd ⊢
  rw [hxv, hr]
  have HH := Lib.hid h
  have HLt := Lib.hid hlt
  unfold Ans.val at HDd
  clear ha hp hcm hans hal hfine hall hrl hdn hsl han hr2 hs2 hrq he hxv hL hi ho h hlt hL2 hi2 ho2 hst0
  unfold clampT at HDd
  cases hal : q.all
  · have HP := Lib.hid (fun (W : World) {H' : List Nat} (h : HasD a W H' rb r2) => (HRd.out W H' h).2 hal)
    clear hal HRd
    go_enter Tryz.func40, Tryz.ntmps40
    go_upto_region 11 with (first
      | (go_at_call 10
         refine (HDd.out _ (HH.out.keep0 (((((Only.refl [] w).alloc _).alloc _).alloc _).alloc _)) (((((Only.refl [] w).alloc _).alloc _).alloc _).alloc _)).mono ?_
         rintro e w5 ⟨rfl, H5, hd5, ⟨⟨S5, k5, s5⟩, t5⟩⟩
         have hS5 : ∀ g, w.heap.size ≤ g → g ∉ S5 := fun g hg q => by have := HLt.out g (s5 g q); omega
         have b4 := k5.blk (nb0 _ _ _ _ _ _) (hS5 _ (Nat.le_refl _))
         have b6 := k5.blk (nb1 _ _ _ _ _ _) (hS5 _ (by omega))
         have b7 := k5.blk (nb2 _ _ _ _ _ _) (hS5 _ (by omega))
         have g4 := fun o1 o2 i => ((((Only.refl [] w5).alloc o1).alloc o2).blk b4 (by simp)).cell i)
      | (go_at_call 77
         refine (HP.out _ (hd5.keep0 (((Only.refl [] w5).alloc _).alloc _))).mono ?_
         rintro e w7 ⟨Ap, cp, rfl, hrow, k7⟩
         have ba0 := k7.blk (((Only.refl [] _).alloc _).blk (Blk.new w5 34 _) (by simp)) (by simp)
         have bp0 := k7.blk (Blk.new (w5.alloc _) 57 _) (by simp)
         simp only [World.size_alloc] at bp0 hrow
         have xa := fun i => ba0.cell i
         have ya := fun i => ba0.free i
         have xp := fun i => bp0.cell i
         have yp := fun i => bp0.free i))
    clear g4 b4 HDd xa ya xp yp
    have bp1 : Blk _ _ 57 #[.slice Ap ps.length cp, .int .i64 0, .bool false] := bp0.set 0 (.slice Ap ps.length cp)
    have bp2 : Blk _ _ 57 #[.slice Ap ps.length cp, .int .i64 pn, .bool false] := bp1.set 1 (.int .i64 pn)
    have bp3 : Blk _ _ 57 #[.slice Ap ps.length cp, .int .i64 pn, .bool pe] := bp2.set 2 (.bool pe)
    have kp : Only [w5.heap.size + 1] w7 (((w7.setCell ⟨w5.heap.size + 1, 0, none⟩ (.slice Ap ps.length cp)).setCell ⟨w5.heap.size + 1, 1, none⟩ (.int .i64 pn)).setCell ⟨w5.heap.size + 1, 2, none⟩ (.bool pe)) := by
      iterate 3 (refine Only.setCell ?_ (.inl (by simp)) _)
      exact Only.refl _ _
    have ba1 := kp.blk ba0 (by simp)
    have ba : Blk _ _ 34 #[.int .i64 pr, .int .i64 an.version, .int .i64 an.position, .bool an.again] := ba1.set 0 (.int .i64 pr)
    have ka := (Only.refl [w5.heap.size] (((w7.setCell ⟨w5.heap.size + 1, 0, none⟩ (.slice Ap ps.length cp)).setCell ⟨w5.heap.size + 1, 1, none⟩ (.int .i64 pn)).setCell ⟨w5.heap.size + 1, 2, none⟩ (.bool pe))).setCell (p := ⟨w5.heap.size, 0, none⟩) (.inl (by simp)) (.int .i64 pr)
    have bp := ka.blk bp3 (by simp)
    have kx : Only [w5.heap.size, w5.heap.size + 1] w7 _ := (kp.mono (fun g hg => by simp at hg ⊢; exact .inr hg)).trans (ka.mono (fun g hg => by simp at hg ⊢; exact .inl hg))
    have hz : w.heap.size + 1 + 1 + 1 + 1 ≤ w5.heap.size := by have := k5.size; simpa using this
    have j57 := (((Only.refl [] w5).alloc _).alloc _).trans k7
    have c6 := kx.blk (j57.blk b6 (by simp)) (by simp; omega)
    have c7 := kx.blk (j57.blk b7 (by simp)) (by simp; omega)
    have j6 := j57.step kx (fun g hg => .inr (by simp at hg; omega))
    have hrowx := own_only hrow kx (fun g hg q => by have := (World.ownsRow.lt hrow g hg).1; simp at q; omega)
    obtain ⟨WX, hWX⟩ : ∃ WX, ((((w7.setCell ⟨w5.heap.size + 1, 0, none⟩ (.slice Ap ps.length cp)).setCell ⟨w5.heap.size + 1, 1, none⟩ (.int .i64 pn)).setCell ⟨w5.heap.size + 1, 2, none⟩ (.bool pe)).setCell ⟨w5.heap.size, 0, none⟩ (.int .i64 pr)) = WX := ⟨_, rfl⟩
    rw [hWX] at ba bp c6 c7 j6 hrowx
    rw [hWX]
    clear bp1 bp2 bp3 kp ba1 ka kx j57 hrow hWX bp0 ba0
    obtain ⟨ab, hab⟩ : ∃ ab, w5.heap.size = ab := ⟨_, rfl⟩
    have HAb := Lib.hid hab
    have hz0 : w.heap.size ≤ w5.heap.size + 1 + 1 := by omega
    rw [hab] at ba bp hz hrowx hz0
    try rw [hab]
    have HRow := Lib.hid hrowx
    clear hab hrowx
    have Wa := fun i v (hv : #[Value.int .i64 pr, .int .i64 an.version, .int .i64 an.position, .bool an.again][i]? = some v) => Within.cell (S := [w.heap.size + 1]) (x := ⟨ab, i, none⟩) (v := v) ((ba.cell i).trans hv) (by simp; omega)
    have A0 := Wa 0 _ rfl
    have A1 := Wa 1 _ rfl
    have A2 := Wa 2 _ rfl
    have A3 := Wa 3 _ rfl
    have Wp := fun i v (hv : #[Value.slice Ap ps.length cp, .int .i64 pn, .bool pe][i]? = some v) => Within.cell (S := [w.heap.size + 1]) (x := ⟨ab + 1, i, none⟩) (v := v) ((bp.cell i).trans hv) (by simp; omega)
    have P0 := Wp 0 _ rfl
    have P1 := Wp 1 _ rfl
    have P2 := Wp 2 _ rfl
    have c6d := (Only.refl [] WX).drew.blk c6 (by simp)
    have c7d := (Only.refl [] WX).drew.blk c7 (by simp)
    have x6 := fun i => c6d.cell i
    have y6 := fun i => c6d.free i
    have x6w := fun i => c6.cell i
    have y6w := fun i => c6.free i
    clear Wa Wp
    refine wp_region_in [w.heap.size + 1] [0, 1] [2] [3] (by kernel_rfl) (by kernel_rfl) (by intro c d u a w h; cases d <;> exact h) ?_
    show wpQuiet _ _ _ _ [_, _] _
    repeat (go_big_quiet_step (fail))
    refine wpQuiet_nil ?_
    show wpList _ _ _ [_] _ _
    go_wp2_with fail
    have k67 : Only [w.heap.size + 1] WX ((((WX.setCell ⟨w.heap.size + 1, 0, none⟩ (.int .i64 pr)).setCell ⟨w.heap.size + 1, 1, none⟩ (.int .i64 an.version)).setCell ⟨w.heap.size + 1, 2, none⟩ (.int .i64 an.position)).setCell ⟨w.heap.size + 1, 3, none⟩ (.bool an.again)).drew := by
      refine Only.drew ?_
      iterate 4 (refine Only.setCell ?_ (.inl (by simp)) _)
      exact Only.refl _ _
    refine check_of (S := [w.heap.size + 1]) k67 ?_
    have d61 : Blk _ _ 34 #[.int .i64 pr, .int .i64 0, .int .i64 0, .bool false] := c6.set 0 (.int .i64 pr)
    have d62 : Blk _ _ 34 #[.int .i64 pr, .int .i64 an.version, .int .i64 0, .bool false] := d61.set 1 (.int .i64 an.version)
    have d63 : Blk _ _ 34 #[.int .i64 pr, .int .i64 an.version, .int .i64 an.position, .bool false] := d62.set 2 (.int .i64 an.position)
    have d64 : Blk _ _ 34 #[.int .i64 pr, .int .i64 an.version, .int .i64 an.position, .bool an.again] := d63.set 3 (.bool an.again)
    have d6 := (Only.refl [] _).drew.blk d64 (by simp)
    obtain ⟨W7, hW7⟩ : ∃ W7, ((((WX.setCell ⟨w.heap.size + 1, 0, none⟩ (.int .i64 pr)).setCell ⟨w.heap.size + 1, 1, none⟩ (.int .i64 an.version)).setCell ⟨w.heap.size + 1, 2, none⟩ (.int .i64 an.position)).setCell ⟨w.heap.size + 1, 3, none⟩ (.bool an.again)).drew = W7 := ⟨_, rfl⟩
    rw [hW7] at d6 k67 ⊢
    have d7 := k67.blk c7 (by simp)
    have x7 := fun i => d7.cell i
    have y7 := fun i => d7.free i
    clear d61 d62 d63 d64 x6 y6 x6w y6w hW7
    show wpList _ _ _ [_] _ _
    go_wp2_with fail
    have hX : ∀ b ∈ H5, b < w.heap.size ∨ w.heap.size + 1 + 1 + 1 + 1 ≤ b := fun b hb => by
      rcases t5 b hb with y | y
      · exact .inl (HLt.out b y)
      · simp at y
        exact .inr (by omega)
    have e71 : Blk _ _ 57 #[.slice Ap ps.length cp, .int .i64 0, .bool false] := d7.set 0 (.slice Ap ps.length cp)
    have e72 : Blk _ _ 57 #[.slice Ap ps.length cp, .int .i64 pn, .bool false] := e71.set 1 (.int .i64 pn)
    have e7 : Blk _ _ 57 #[.slice Ap ps.length cp, .int .i64 pn, .bool pe] := e72.set 2 (.bool pe)
    have k78 : Only [w.heap.size + 1 + 1] W7 (((W7.setCell ⟨w.heap.size + 1 + 1, 0, none⟩ (.slice Ap ps.length cp)).setCell ⟨w.heap.size + 1 + 1, 1, none⟩ (.int .i64 pn)).setCell ⟨w.heap.size + 1 + 1, 2, none⟩ (.bool pe)) := by
      iterate 3 (refine Only.setCell ?_ (.inl (by simp)) _)
      exact Only.refl _ _
    have e6 := k78.blk d6 (by simp)
    have z6 := fun i => e6.cell i
    have z7 := fun i => e7.cell i
    have hO : Only [w.heap.size + 1, w.heap.size + 1 + 1] w5 (((W7.setCell ⟨w.heap.size + 1 + 1, 0, none⟩ (.slice Ap ps.length cp)).setCell ⟨w.heap.size + 1 + 1, 1, none⟩ (.int .i64 pn)).setCell ⟨w.heap.size + 1 + 1, 2, none⟩ (.bool pe)) := (j6.of_nil.trans (k67.mono (fun g hg => by simp at hg ⊢; exact .inl hg))).trans (k78.mono (fun g hg => by simp at hg ⊢; exact .inr hg))
    have hHa := HH.out.only.size
    have hfin := hd5.keep hO (fun b hb => by simp at hb; omega) (fun b hb q => by have := hX b hb; simp at q; omega)
    have hst : Stepped w (((W7.setCell ⟨w.heap.size + 1 + 1, 0, none⟩ (.slice Ap ps.length cp)).setCell ⟨w.heap.size + 1 + 1, 1, none⟩ (.int .i64 pn)).setCell ⟨w.heap.size + 1 + 1, 2, none⟩ (.bool pe)) H H5 :=
      ⟨⟨S5, ((((((Only.refl [] w).alloc _).alloc _).alloc _).alloc _).of_nil.trans k5).step hO (fun g hg => by simp at hg; exact .inr (by omega)), s5⟩, fun b hb => by
        rcases hX b hb with y | y
        · rcases t5 b hb with z | z
          · exact .inl z
          · simp at z; omega
        · exact .inr (by omega)⟩
    refine bodyPost_ret (v := .tuple #[.agg #[.int .i64 pr, .int .i64 an.version, .int .i64 an.position, .bool an.again], .agg #[.slice Ap ps.length cp, .int .i64 pn, .bool pe]]) (by simp [results, Tryz.results40, go_sem, z6, z7]) rfl ⟨Ap, cp, rfl, H5, hfin, hst, own_only (own_base HRow.out hz0) (S := [w.heap.size + 1, w.heap.size + 1 + 1]) ((k67.mono (fun g hg => by simp at hg ⊢; exact .inl hg)).trans (k78.mono (fun g hg => by simp at hg ⊢; exact .inr hg))) (fun g hg q => by have := (World.ownsRow.lt HRow.out g hg).1; simp at q; omega), fun g hg q => by have := (World.ownsRow.lt HRow.out g hg).1; have := hd5.lt g q; have := HAb.out; omega⟩
  · have HP := Lib.hid (fun (W : World) {H' : List Nat} (h : HasD a W H' rb r2) => (HRd.out W H' h).1 hal)
    clear hal HRd
    go_enter Tryz.func40, Tryz.ntmps40
    go_upto_region 11 with (first
      | (go_at_call 10
         refine (HDd.out _ (HH.out.keep0 (((((Only.refl [] w).alloc _).alloc _).alloc _).alloc _)) (((((Only.refl [] w).alloc _).alloc _).alloc _).alloc _)).mono ?_
         rintro e w5 ⟨rfl, H5, hd5, ⟨⟨S5, k5, s5⟩, t5⟩⟩
         have hS5 : ∀ g, w.heap.size ≤ g → g ∉ S5 := fun g hg q => by have := HLt.out g (s5 g q); omega
         have b4 := k5.blk (nb0 _ _ _ _ _ _) (hS5 _ (Nat.le_refl _))
         have b6 := k5.blk (nb1 _ _ _ _ _ _) (hS5 _ (by omega))
         have b7 := k5.blk (nb2 _ _ _ _ _ _) (hS5 _ (by omega))
         have g4 := fun o1 o2 i => ((((Only.refl [] w5).alloc o1).alloc o2).blk b4 (by simp)).cell i)
      | (go_at_call 76
         refine (HP.out _ (hd5.keep0 (((Only.refl [] w5).alloc _).alloc _))).mono ?_
         rintro e w7 ⟨Ap, cp, rfl, hrow, k7⟩
         have ba0 := k7.blk (((Only.refl [] _).alloc _).blk (Blk.new w5 34 _) (by simp)) (by simp)
         have bp0 := k7.blk (Blk.new (w5.alloc _) 57 _) (by simp)
         simp only [World.size_alloc] at bp0 hrow
         have xa := fun i => ba0.cell i
         have ya := fun i => ba0.free i
         have xp := fun i => bp0.cell i
         have yp := fun i => bp0.free i))
    clear g4 b4 HDd xa ya xp yp
    have bp1 : Blk _ _ 57 #[.slice Ap ps.length cp, .int .i64 0, .bool false] := bp0.set 0 (.slice Ap ps.length cp)
    have bp2 : Blk _ _ 57 #[.slice Ap ps.length cp, .int .i64 pn, .bool false] := bp1.set 1 (.int .i64 pn)
    have bp3 : Blk _ _ 57 #[.slice Ap ps.length cp, .int .i64 pn, .bool pe] := bp2.set 2 (.bool pe)
    have kp : Only [w5.heap.size + 1] w7 (((w7.setCell ⟨w5.heap.size + 1, 0, none⟩ (.slice Ap ps.length cp)).setCell ⟨w5.heap.size + 1, 1, none⟩ (.int .i64 pn)).setCell ⟨w5.heap.size + 1, 2, none⟩ (.bool pe)) := by
      iterate 3 (refine Only.setCell ?_ (.inl (by simp)) _)
      exact Only.refl _ _
    have ba1 := kp.blk ba0 (by simp)
    have ba : Blk _ _ 34 #[.int .i64 pr, .int .i64 an.version, .int .i64 an.position, .bool an.again] := ba1.set 0 (.int .i64 pr)
    have ka := (Only.refl [w5.heap.size] (((w7.setCell ⟨w5.heap.size + 1, 0, none⟩ (.slice Ap ps.length cp)).setCell ⟨w5.heap.size + 1, 1, none⟩ (.int .i64 pn)).setCell ⟨w5.heap.size + 1, 2, none⟩ (.bool pe))).setCell (p := ⟨w5.heap.size, 0, none⟩) (.inl (by simp)) (.int .i64 pr)
    have bp := ka.blk bp3 (by simp)
    have kx : Only [w5.heap.size, w5.heap.size + 1] w7 _ := (kp.mono (fun g hg => by simp at hg ⊢; exact .inr hg)).trans (ka.mono (fun g hg => by simp at hg ⊢; exact .inl hg))
    have hz : w.heap.size + 1 + 1 + 1 + 1 ≤ w5.heap.size := by have := k5.size; simpa using this
    have j57 := (((Only.refl [] w5).alloc _).alloc _).trans k7
    have c6 := kx.blk (j57.blk b6 (by simp)) (by simp; omega)
    have c7 := kx.blk (j57.blk b7 (by simp)) (by simp; omega)
    have j6 := j57.step kx (fun g hg => .inr (by simp at hg; omega))
    have hrowx := own_only hrow kx (fun g hg q => by have := (World.ownsRow.lt hrow g hg).1; simp at q; omega)
    obtain ⟨WX, hWX⟩ : ∃ WX, ((((w7.setCell ⟨w5.heap.size + 1, 0, none⟩ (.slice Ap ps.length cp)).setCell ⟨w5.heap.size + 1, 1, none⟩ (.int .i64 pn)).setCell ⟨w5.heap.size + 1, 2, none⟩ (.bool pe)).setCell ⟨w5.heap.size, 0, none⟩ (.int .i64 pr)) = WX := ⟨_, rfl⟩
    rw [hWX] at ba bp c6 c7 j6 hrowx
    rw [hWX]
    clear bp1 bp2 bp3 kp ba1 ka kx j57 hrow hWX bp0 ba0
    obtain ⟨ab, hab⟩ : ∃ ab, w5.heap.size = ab := ⟨_, rfl⟩
    have HAb := Lib.hid hab
    have hz0 : w.heap.size ≤ w5.heap.size + 1 + 1 := by omega
    rw [hab] at ba bp hz hrowx hz0
    try rw [hab]
    have HRow := Lib.hid hrowx
    clear hab hrowx
    have Wa := fun i v (hv : #[Value.int .i64 pr, .int .i64 an.version, .int .i64 an.position, .bool an.again][i]? = some v) => Within.cell (S := [w.heap.size + 1]) (x := ⟨ab, i, none⟩) (v := v) ((ba.cell i).trans hv) (by simp; omega)
    have A0 := Wa 0 _ rfl
    have A1 := Wa 1 _ rfl
    have A2 := Wa 2 _ rfl
    have A3 := Wa 3 _ rfl
    have Wp := fun i v (hv : #[Value.slice Ap ps.length cp, .int .i64 pn, .bool pe][i]? = some v) => Within.cell (S := [w.heap.size + 1]) (x := ⟨ab + 1, i, none⟩) (v := v) ((bp.cell i).trans hv) (by simp; omega)
    have P0 := Wp 0 _ rfl
    have P1 := Wp 1 _ rfl
    have P2 := Wp 2 _ rfl
    have c6d := (Only.refl [] WX).drew.blk c6 (by simp)
    have c7d := (Only.refl [] WX).drew.blk c7 (by simp)
    have x6 := fun i => c6d.cell i
    have y6 := fun i => c6d.free i
    have x6w := fun i => c6.cell i
    have y6w := fun i => c6.free i
    clear Wa Wp
    refine wp_region_in [w.heap.size + 1] [0, 1] [2] [3] (by kernel_rfl) (by kernel_rfl) (by intro c d u a w h; cases d <;> exact h) ?_
    show wpQuiet _ _ _ _ [_, _] _
    repeat (go_big_quiet_step (fail))
    refine wpQuiet_nil ?_
    show wpList _ _ _ [_] _ _
    go_wp2_with fail
    have k67 : Only [w.heap.size + 1] WX ((((WX.setCell ⟨w.heap.size + 1, 0, none⟩ (.int .i64 pr)).setCell ⟨w.heap.size + 1, 1, none⟩ (.int .i64 an.version)).setCell ⟨w.heap.size + 1, 2, none⟩ (.int .i64 an.position)).setCell ⟨w.heap.size + 1, 3, none⟩ (.bool an.again)).drew := by
      refine Only.drew ?_
      iterate 4 (refine Only.setCell ?_ (.inl (by simp)) _)
      exact Only.refl _ _
    refine check_of (S := [w.heap.size + 1]) k67 ?_
    have d61 : Blk _ _ 34 #[.int .i64 pr, .int .i64 0, .int .i64 0, .bool false] := c6.set 0 (.int .i64 pr)
    have d62 : Blk _ _ 34 #[.int .i64 pr, .int .i64 an.version, .int .i64 0, .bool false] := d61.set 1 (.int .i64 an.version)
    have d63 : Blk _ _ 34 #[.int .i64 pr, .int .i64 an.version, .int .i64 an.position, .bool false] := d62.set 2 (.int .i64 an.position)
    have d64 : Blk _ _ 34 #[.int .i64 pr, .int .i64 an.version, .int .i64 an.position, .bool an.again] := d63.set 3 (.bool an.again)
    have d6 := (Only.refl [] _).drew.blk d64 (by simp)
    obtain ⟨W7, hW7⟩ : ∃ W7, ((((WX.setCell ⟨w.heap.size + 1, 0, none⟩ (.int .i64 pr)).setCell ⟨w.heap.size + 1, 1, none⟩ (.int .i64 an.version)).setCell ⟨w.heap.size + 1, 2, none⟩ (.int .i64 an.position)).setCell ⟨w.heap.size + 1, 3, none⟩ (.bool an.again)).drew = W7 := ⟨_, rfl⟩
    rw [hW7] at d6 k67 ⊢
    have d7 := k67.blk c7 (by simp)
    have x7 := fun i => d7.cell i
    have y7 := fun i => d7.free i
    clear d61 d62 d63 d64 x6 y6 x6w y6w hW7
    show wpList _ _ _ [_] _ _
    go_wp2_with fail
    have hX : ∀ b ∈ H5, b < w.heap.size ∨ w.heap.size + 1 + 1 + 1 + 1 ≤ b := fun b hb => by
      rcases t5 b hb with y | y
      · exact .inl (HLt.out b y)
      · simp at y
        exact .inr (by omega)
    have e71 : Blk _ _ 57 #[.slice Ap ps.length cp, .int .i64 0, .bool false] := d7.set 0 (.slice Ap ps.length cp)
    have e72 : Blk _ _ 57 #[.slice Ap ps.length cp, .int .i64 pn, .bool false] := e71.set 1 (.int .i64 pn)
    have e7 : Blk _ _ 57 #[.slice Ap ps.length cp, .int .i64 pn, .bool pe] := e72.set 2 (.bool pe)
    have k78 : Only [w.heap.size + 1 + 1] W7 (((W7.setCell ⟨w.heap.size + 1 + 1, 0, none⟩ (.slice Ap ps.length cp)).setCell ⟨w.heap.size + 1 + 1, 1, none⟩ (.int .i64 pn)).setCell ⟨w.heap.size + 1 + 1, 2, none⟩ (.bool pe)) := by
      iterate 3 (refine Only.setCell ?_ (.inl (by simp)) _)
      exact Only.refl _ _
    have e6 := k78.blk d6 (by simp)
    have z6 := fun i => e6.cell i
    have z7 := fun i => e7.cell i
    have hO : Only [w.heap.size + 1, w.heap.size + 1 + 1] w5 (((W7.setCell ⟨w.heap.size + 1 + 1, 0, none⟩ (.slice Ap ps.length cp)).setCell ⟨w.heap.size + 1 + 1, 1, none⟩ (.int .i64 pn)).setCell ⟨w.heap.size + 1 + 1, 2, none⟩ (.bool pe)) := (j6.of_nil.trans (k67.mono (fun g hg => by simp at hg ⊢; exact .inl hg))).trans (k78.mono (fun g hg => by simp at hg ⊢; exact .inr hg))
    have hHa := HH.out.only.size
    have hfin := hd5.keep hO (fun b hb => by simp at hb; omega) (fun b hb q => by have := hX b hb; simp at q; omega)
    have hst : Stepped w (((W7.setCell ⟨w.heap.size + 1 + 1, 0, none⟩ (.slice Ap ps.length cp)).setCell ⟨w.heap.size + 1 + 1, 1, none⟩ (.int .i64 pn)).setCell ⟨w.heap.size + 1 + 1, 2, none⟩ (.bool pe)) H H5 :=
      ⟨⟨S5, ((((((Only.refl [] w).alloc _).alloc _).alloc _).alloc _).of_nil.trans k5).step hO (fun g hg => by simp at hg; exact .inr (by omega)), s5⟩, fun b hb => by
        rcases hX b hb with y | y
        · rcases t5 b hb with z | z
          · exact .inl z
          · simp at z; omega
        · exact .inr (by omega)⟩
    refine bodyPost_ret (v := .tuple #[.agg #[.int .i64 pr, .int .i64 an.version, .int .i64 an.position, .bool an.again], .agg #[.slice Ap ps.length cp, .int .i64 pn, .bool pe]]) (by simp [results, Tryz.results40, go_sem, z6, z7]) rfl ⟨Ap, cp, rfl, H5, hfin, hst, own_only (own_base HRow.out hz0) (S := [w.heap.size + 1, w.heap.size + 1 + 1]) ((k67.mono (fun g hg => by simp at hg ⊢; exact .inl hg)).trans (k78.mono (fun g hg => by simp at hg ⊢; exact .inr hg))) (fun g hg q => by have := (World.ownsRow.lt HRow.out g hg).1; simp at q; omega), fun g hg q => by have := (World.ownsRow.lt HRow.out g hg).1; have := hd5.lt g q; have := HAb.out; omega⟩
end
end
section
open Go.RowKit Go Go.Sort
/-- Requests that lie below the world a. -/
structure ReqsAt (a w : World) (v : Value) (l : List ReqV) : Prop where
  slc : Slc w 13 v l.length (l.flatMap ReqV.cells)
  own : ∀ g, v.ownBlock = some g → g < a.heap.size ∨ l = []
  cmd : ∀ x ∈ l, CmdOk x.x.c ∧ Slc w 4 x.x.ev x.x.c.events.length (x.x.c.events.flatMap EventR.cells) ∧ ∀ g, x.x.ev.ownBlock = some g → g < a.heap.size ∨ x.x.c.events = []
section
variable {a w w' : World} {R : List Nat} {v : Value} {l : List ReqV}
theorem ReqsAt.keep (h : ReqsAt a w v l) (k : Keeps a R w w') : ReqsAt a w' v l :=
  ⟨k.slcE rfl h.slc h.own, h.own, fun x hx => ⟨(h.cmd x hx).1, k.slcE rfl (h.cmd x hx).2.1 (h.cmd x hx).2.2, (h.cmd x hx).2.2⟩⟩
theorem ReqsAt.keep0 (h : ReqsAt a w v l) (k : Only [] w w') : ReqsAt a w' v l := h.keep (R := []) (.of0 k)
theorem ReqsAt.cells (h : ReqsAt a w v l) : ∃ A cap, v = .slice A l.length cap ∧ l.length ≤ cap ∧ cap ≤ maxLen ∧ ∀ j (hj : j < l.length), ∃ b off, A = some ⟨b, off, none⟩ ∧ b < w.heap.size ∧ b < a.heap.size ∧ ∀ r, r < 13 → w.cell? ⟨b, off + j * 13 + r, none⟩ = (l[j].cells)[r]? := by
  obtain ⟨A, cap, rfl, h1, h2, h3⟩ := h.slc.openE ReqV.cells (fun _ => rfl)
  refine ⟨A, cap, rfl, h1, h2, fun j hj => ?_⟩
  obtain ⟨b, off, rfl, q1, q2⟩ := h3 j hj
  refine ⟨b, off, rfl, q1, ?_, q2⟩
  rcases h.own b rfl with q | q
  · exact q
  · rw [q] at hj
    simp at hj
end
section
variable {a w : World} {v : Value} {l : List ReqV}
set_option maxRecDepth 100000 in
set_option maxHeartbeats 2000000 in
theorem rlight_any (h : ReqsAt a w v l) (few : Nat) (hf : few ≤ 1000) :
    Calls Tryz.prog 13 #[.int .i64 few, v] w fun e w' => RetB e (fun b => b = true → l.length ≤ few ∧ ∀ x ∈ l, x.x.c.events.length ≤ 12) ∧ Only [] w w' := by
  obtain ⟨A, cap, rfl, hnc, hcm, hel⟩ := h.cells
  unfold maxLen at hcm
  go_enter Tryz.func13, Tryz.ntmps13
  go_wp2
  go_loopw [5] (fun i wr => ∃ k : Nat, k ≤ few ∧ i = .int .i64 k ∧ Only [] w wr ∧ Hid (∀ x ∈ l.take k, x.x.c.events.length ≤ 12)) (fun i _ => few - (intOf i).toNat)
  case atStart => exact ⟨0, by omega, rfl, Only.refl _ _, by simp [Hid]⟩
  case round =>
    obtain ⟨k, hk, rfl, hO, hsm12⟩ := hrel
    by_cases hlt : k < l.length
    · by_cases h20 : k < few
      · have hcell : ∀ b (h1 : b < w.heap.size) (h2 : b < a.heap.size) (i : Nat), wr.cell? ⟨b, i, none⟩ = w.cell? ⟨b, i, none⟩ := fun b h1 h2 i => hO.cell h1 (by simp)
        obtain ⟨b, off, rfl, hbb, hba, hcc⟩ := hel k hlt
        obtain ⟨x, hx⟩ : ∃ x, x = l[k] := ⟨_, rfl⟩
        have hxm : x ∈ l := by rw [hx]; exact List.getElem_mem hlt
        rw [← hx] at hcc
        have hxo := (h.cmd x hxm).1
        obtain ⟨Ax, capx, hxv, hx1, hx2, _⟩ := (h.cmd x hxm).2.1.openE EventR.cells (fun _ => rfl)
        have c0 : wr.cell? ⟨b, off + k * 13, none⟩ = some (.int .i64 x.x.c.kind) := (hcell b hbb hba _).trans (hcc 0 (by omega))
        have c1 : wr.cell? ⟨b, off + k * 13 + 1, none⟩ = some (.int .i64 x.x.c.time) := (hcell b hbb hba _).trans (hcc 1 (by omega))
        have c2 : wr.cell? ⟨b, off + k * 13 + 2, none⟩ = some (.string x.x.c.stream) := (hcell b hbb hba _).trans (hcc 2 (by omega))
        have c3 : wr.cell? ⟨b, off + k * 13 + 3, none⟩ = some (.int .i64 x.x.c.expected) := (hcell b hbb hba _).trans (hcc 3 (by omega))
        have c4 : wr.cell? ⟨b, off + k * 13 + 4, none⟩ = some (.slice Ax x.x.c.events.length capx) := (hcell b hbb hba _).trans ((hcc 4 (by omega)).trans (by rw [← hxv]; rfl))
        have c5 : wr.cell? ⟨b, off + k * 13 + 5, none⟩ = some (.int .i64 x.x.c.mt.maxCount) := (hcell b hbb hba _).trans (hcc 5 (by omega))
        have c6 : wr.cell? ⟨b, off + k * 13 + 6, none⟩ = some (.int .i64 x.x.c.mt.maxAge) := (hcell b hbb hba _).trans (hcc 6 (by omega))
        have c7 : wr.cell? ⟨b, off + k * 13 + 7, none⟩ = some (.int .i64 x.x.c.mt.before) := (hcell b hbb hba _).trans (hcc 7 (by omega))
        have HTk : Hid (l.take (k + 1) = l.take k ++ [x]) := by unfold Hid; rw [List.take_succ_eq_append_getElem hlt, ← hx]
        have hsm := small12_any (w := wr) (c := x.x.c) hxo ((h.cmd x hxm).2.1.only0 hO)
        rw [hxv] at hsm
        unfold Cmd.val at hsm
        have HS := Lib.hid hsm
        clear hcc hel hx hxv hsm hcell
        go_wp2_with (go_at_call 18; refine HS.out.mono ?_; rintro e w1 ⟨⟨bb, rfl, hb12⟩, ho1⟩; have HB12 := Lib.hid hb12; clear hb12; cases bb)
        · go_ret
          exact ⟨⟨false, rfl, fun q => by cases q⟩, hO.trans ho1⟩
        · exact ⟨⟨k + 1, by omega, by simp, hO.trans ho1, fun y hy => by rw [HTk.out] at hy; rcases List.mem_append.1 hy with q | q; exact hsm12.out y q; simp at q; rw [q]; first | exact HB12.out rfl | exact HB12.out trivial | exact HB12.out⟩, by simp [intOf]; omega⟩
      · clear hel
        have h2 : ¬ (l.length ≤ few) := by omega
        go_wp2
        go_ret
        exact ⟨⟨_, rfl, fun q => by simp at q <;> omega⟩, hO⟩
    · clear hel
      have h2 : l.length ≤ few := by omega
      go_wp2
      go_ret
      exact ⟨⟨_, rfl, fun q => ⟨h2, fun y hy => hsm12.out y (by rw [List.take_of_length_le (by omega)]; exact hy)⟩⟩, hO⟩
end
end
section
open Go.RowKit Go Go.Sort
theorem inv_intro_l {P : Program} {C : World → Prop} {Q : Exit → Act → World → Prop} {l : List Oper} {H T : List Nat} {a0 : Act} {w0 : World} (I : Act → Array Bool → Act → World → Prop) (h0 : I a0 (listedOf l.toArray.size H) a0 w0)
    (hstep : ∀ i ∈ T, ∀ listed a w, i ∈ Region.ready .any l.toArray listed → I a0 listed a w → ∀ K : Act → World → Prop, Hid (∀ a' w', I a0 (listed.setIfInBounds i true) a' w' → K a' w') → wpList P l.toArray (CheckQ C Q K) (opsAt l [i]) a w)
    (hend : ∀ listed a w, I a0 listed a w → (∀ t ∈ T, listed.getD t false = true) → Q .normal a w) : InvGo P l C Q H T a0 w0 :=
  inv_intro I h0 (fun i hi listed a w hr hI => hstep i hi listed a w hr hI _ (fun _ _ h => h)) hend
def anV (an : Ans) : Value := .agg #[.int .i64 an.err, .int .i64 an.version, .int .i64 an.position, .bool an.again]
def pgV (pg : PageR) (A : Option Addr) (cp : Nat) : Value := .agg #[.slice A pg.events.length cp, .int .i64 pg.next, .bool pg.isEnd]
structure LyW (a W0 : World) (H : List Nat) (rb : Nat) (r r' : RS) (an : Ans) (pg : PageR) (A : Option Addr) (cp : Nat) (f7 f8 f9 f10 f11 f12 f13 f14 : Bool) (W : World) (v49 v41 v50 v51 v11 v12 : Value) (H' : List Nat) : Prop where
  doc : HasD a W H' rb (if f7 then r' else r)
  stp : Stepped W0 W H H'
  row : f7 = true → W.ownsRow W0.heap.size 92 8 (.slice A pg.events.length cp) pg.events.length (pg.events.flatMap StoredR.cells) ∧ ∀ g, (Value.slice A pg.events.length cp).ownBlock = some g → g ∉ H'
  h7 : f7 = true → v49 = .tuple #[anV an, pgV pg A cp]
  h8 : f8 = true → v41 = .tuple #[anV an, pgV pg A cp]
  h9 : f9 = true → v50 = anV an
  h10 : f10 = true → v51 = pgV pg A cp
  h11 : f11 = true → ∃ b, v11 = .pointer (some ⟨b, 0, none⟩) ∧ W0.heap.size ≤ b ∧ b ∉ H' ∧ Blk W b 34 (if f13 then #[.int .i64 an.err, .int .i64 an.version, .int .i64 an.position, .bool an.again] else #[.int .i64 0, .int .i64 0, .int .i64 0, .bool false])
  h12 : f12 = true → ∃ b, v12 = .pointer (some ⟨b, 0, none⟩) ∧ W0.heap.size ≤ b ∧ b ∉ H' ∧ Blk W b 57 (if f14 then #[.slice A pg.events.length cp, .int .i64 pg.next, .bool pg.isEnd] else #[.slice none 0 0, .int .i64 0, .bool false])
  d8 : f8 = true → f7 = true
  d9 : f9 = true → f8 = true
  d10 : f10 = true → f8 = true
  d13 : f13 = true → f9 = true ∧ f11 = true
  d14 : f14 = true → f10 = true ∧ f12 = true
section
variable {a W0 W W' : World} {H H' : List Nat} {rb : Nat} {r r' : RS} {an : Ans} {pg : PageR} {A : Option Addr} {cp : Nat} {f7 f8 f9 f10 f11 f12 f13 f14 : Bool} {v49 v41 v50 v51 v11 v12 : Value}
theorem LyW.kept {E : List Nat} (h : LyW a W0 H rb r r' an pg A cp f7 f8 f9 f10 f11 f12 f13 f14 W v49 v41 v50 v51 v11 v12 H') (hH : ∀ g ∈ H, a.heap.size ≤ g ∧ g ∉ E) : Keeps a E W0 W := by
  obtain ⟨S, k, hS⟩ := h.stp.only
  exact ⟨S, k, fun g hg => hH g (hS g hg)⟩
theorem f_false {f g : Bool} (h : g = true → f = true) (hf : f = false) : g = false := by
  cases g
  · rfl
  · rw [h rfl] at hf; cases hf
/-- The call. -/
theorem LyW.step7 {A' : Option Addr} {cp' : Nat} (h : LyW a W0 H rb r r' an pg A cp false f8 f9 f10 f11 f12 f13 f14 W v49 v41 v50 v51 v11 v12 H') {H2 : List Nat} (hd : HasD a W' H2 rb r') (hst : Stepped W W' H' H2)
    (hrow : W'.ownsRow W.heap.size 92 8 (.slice A' pg.events.length cp') pg.events.length (pg.events.flatMap StoredR.cells)) (hg : ∀ g, (Value.slice A' pg.events.length cp').ownBlock = some g → g ∉ H2) :
    LyW a W0 H rb r r' an pg A' cp' true f8 f9 f10 f11 f12 f13 f14 W' (.tuple #[anV an, pgV pg A' cp']) v41 v50 v51 v11 v12 H2 := by
  have e8 : f8 = false := f_false h.d8 rfl
  have e9 : f9 = false := f_false h.d9 e8
  have e10 : f10 = false := f_false h.d10 e8
  have e13 : f13 = false := f_false (fun q => (h.d13 q).1) e9
  have e14 : f14 = false := f_false (fun q => (h.d14 q).1) e10
  subst e8 e9 e10 e13 e14
  obtain ⟨⟨S, k, hS⟩, hb⟩ := hst
  have hz : W0.heap.size ≤ W.heap.size := by obtain ⟨S0, k0, _⟩ := h.stp.only; exact k0.size
  refine ⟨hd, ?_, fun _ => ⟨own_base hrow hz, hg⟩, fun _ => rfl, by simp, by simp, by simp, fun q => ?_, fun q => ?_, by simp, by simp, by simp, by simp, by simp⟩
  · exact h.stp.trans ⟨⟨S, k, hS⟩, hb⟩
  · obtain ⟨b, q1, q2, q3, q4⟩ := h.h11 q
    refine ⟨b, q1, q2, fun z => ?_, k.blk q4 (fun z => q3 (hS b z))⟩
    rcases hb b z with y | y
    · exact q3 y
    · have := q4.lt; omega
  · obtain ⟨b, q1, q2, q3, q4⟩ := h.h12 q
    refine ⟨b, q1, q2, fun z => ?_, k.blk q4 (fun z => q3 (hS b z))⟩
    rcases hb b z with y | y
    · exact q3 y
    · have := q4.lt; omega
theorem LyW.step8 (h : LyW a W0 H rb r r' an pg A cp true false f9 f10 f11 f12 f13 f14 W v49 v41 v50 v51 v11 v12 H') : LyW a W0 H rb r r' an pg A cp true true f9 f10 f11 f12 f13 f14 W v49 (.tuple #[anV an, pgV pg A cp]) v50 v51 v11 v12 H' :=
  ⟨h.doc, h.stp, h.row, h.h7, fun _ => rfl, h.h9, h.h10, h.h11, h.h12, fun _ => rfl, fun _ => rfl, fun _ => rfl, h.d13, h.d14⟩
theorem LyW.step9 (h : LyW a W0 H rb r r' an pg A cp true true false f10 f11 f12 f13 f14 W v49 v41 v50 v51 v11 v12 H') : LyW a W0 H rb r r' an pg A cp true true true f10 f11 f12 f13 f14 W v49 v41 (anV an) v51 v11 v12 H' :=
  ⟨h.doc, h.stp, h.row, h.h7, h.h8, fun _ => rfl, h.h10, h.h11, h.h12, h.d8, fun _ => rfl, h.d10, fun q => ⟨rfl, (h.d13 q).2⟩, h.d14⟩
theorem LyW.step10 (h : LyW a W0 H rb r r' an pg A cp true true f9 false f11 f12 f13 f14 W v49 v41 v50 v51 v11 v12 H') : LyW a W0 H rb r r' an pg A cp true true f9 true f11 f12 f13 f14 W v49 v41 v50 (pgV pg A cp) v11 v12 H' :=
  ⟨h.doc, h.stp, h.row, h.h7, h.h8, h.h9, fun _ => rfl, h.h11, h.h12, h.d8, h.d9, fun _ => rfl, h.d13, fun q => ⟨rfl, (h.d14 q).2⟩⟩
theorem LyW.grow (h : LyW a W0 H rb r r' an pg A cp f7 f8 f9 f10 f11 f12 f13 f14 W v49 v41 v50 v51 v11 v12 H') (k : Only [] W W') : LyW a W0 H rb r r' an pg A cp f7 f8 f9 f10 f11 f12 f13 f14 W' v49 v41 v50 v51 v11 v12 H' :=
  ⟨h.doc.keep0 k, h.stp.then0 k, fun q => ⟨own_only (h.row q).1 k (by simp), (h.row q).2⟩, h.h7, h.h8, h.h9, h.h10, fun q => by
    obtain ⟨b, q1, q2, q3, q4⟩ := h.h11 q
    exact ⟨b, q1, q2, q3, k.blk q4 (by simp)⟩, fun q => by
    obtain ⟨b, q1, q2, q3, q4⟩ := h.h12 q
    exact ⟨b, q1, q2, q3, k.blk q4 (by simp)⟩, h.d8, h.d9, h.d10, h.d13, h.d14⟩
theorem LyW.step11 (h : LyW a W0 H rb r r' an pg A cp f7 f8 f9 f10 false f12 f13 f14 W v49 v41 v50 v51 v11 v12 H') :
    LyW a W0 H rb r r' an pg A cp f7 f8 f9 f10 true f12 f13 f14 (W.alloc (.cells #[.int .i64 0, .int .i64 0, .int .i64 0, .bool false] 34)) v49 v41 v50 v51 (.pointer (some ⟨W.heap.size, 0, none⟩)) v12 H' := by
  have e13 : f13 = false := f_false (fun q => (h.d13 q).2) rfl
  subst e13
  have h2 := h.grow ((Only.refl [] W).alloc (.cells #[.int .i64 0, .int .i64 0, .int .i64 0, .bool false] 34))
  have hz := h.stp.size
  exact ⟨h2.doc, h2.stp, h2.row, h2.h7, h2.h8, h2.h9, h2.h10, fun _ => ⟨_, rfl, hz, fun q => by have := h.doc.lt _ q; omega, Blk.new _ _ _⟩, h2.h12, h2.d8, h2.d9, h2.d10, by simp, h2.d14⟩
theorem LyW.step12 (h : LyW a W0 H rb r r' an pg A cp f7 f8 f9 f10 f11 false f13 f14 W v49 v41 v50 v51 v11 v12 H') :
    LyW a W0 H rb r r' an pg A cp f7 f8 f9 f10 f11 true f13 f14 (W.alloc (.cells #[.slice none 0 0, .int .i64 0, .bool false] 57)) v49 v41 v50 v51 v11 (.pointer (some ⟨W.heap.size, 0, none⟩)) H' := by
  have e14 : f14 = false := f_false (fun q => (h.d14 q).2) rfl
  subst e14
  have h2 := h.grow ((Only.refl [] W).alloc (.cells #[.slice none 0 0, .int .i64 0, .bool false] 57))
  have hz := h.stp.size
  exact ⟨h2.doc, h2.stp, h2.row, h2.h7, h2.h8, h2.h9, h2.h10, h2.h11, fun _ => ⟨_, rfl, hz, fun q => by have := h.doc.lt _ q; omega, Blk.new _ _ _⟩, h2.d8, h2.d9, h2.d10, h2.d13, by simp⟩
theorem LyW.turn {b : Nat} (h : LyW a W0 H rb r r' an pg A cp f7 f8 f9 f10 f11 f12 f13 f14 W v49 v41 v50 v51 v11 v12 H') (ho : Only [b] W W') (hb : b ∉ H') (hz : W0.heap.size ≤ b) (ha : a.heap.size ≤ b) (hS : ∀ cur, ¬ Blk W b 92 cur) :
    HasD a W' H' rb (if f7 then r' else r) ∧ Stepped W0 W' H H' ∧ (f7 = true → W'.ownsRow W0.heap.size 92 8 (.slice A pg.events.length cp) pg.events.length (pg.events.flatMap StoredR.cells) ∧ ∀ g, (Value.slice A pg.events.length cp).ownBlock = some g → g ∉ H') := by
  refine ⟨h.doc.keep ho (fun x hx => by simp at hx; omega) (fun x hx q => by simp at q; subst q; exact hb hx), ?_, fun q => ⟨own_only (h.row q).1 ho (fun g hg z => ?_), (h.row q).2⟩⟩
  · obtain ⟨⟨S, k, hS⟩, hb2⟩ := h.stp
    exact ⟨⟨S, k.step ho (fun i hi => .inr (by simp at hi; omega)), hS⟩, hb2⟩
  · simp at z
    subst z
    obtain ⟨cur, hc⟩ := own_type (h.row q).1 hg
    exact hS cur hc
theorem blk_tyL {w : World} {g : Nat} {t u : TypeId} {cs ds : Array Value} (h : Blk w g t cs) (k : Blk w g u ds) : t = u := by
  have := h.symm.trans k
  injection this with this
  injection this
theorem blk_ne {W : World} {b c : Nat} {t u : TypeId} {x y : Array Value} (hb : Blk W b t x) (hc : Blk W c u y) (h : t ≠ u) : b ≠ c := fun q => by
  subst q
  exact h (blk_tyL hb hc)
theorem LyW.step13 {b : Nat} (h : LyW a W0 H rb r r' an pg A cp true true true f10 true f12 false f14 W v49 v41 v50 v51 (.pointer (some ⟨b, 0, none⟩)) v12 H') (ha : a.heap.size ≤ W0.heap.size) (ho : Only [b] W W') (hb : Blk W' b 34 #[.int .i64 an.err, .int .i64 an.version, .int .i64 an.position, .bool an.again]) :
    LyW a W0 H rb r r' an pg A cp true true true f10 true f12 true f14 W' v49 v41 v50 v51 (.pointer (some ⟨b, 0, none⟩)) v12 H' := by
  obtain ⟨b1, e1, q2, q3, q4⟩ := h.h11 rfl
  injection e1 with e1
  injection e1 with e1
  injection e1 with e1
  subst e1
  obtain ⟨t1, t2, t3⟩ := h.turn ho q3 q2 (by omega) (fun cur hc => by have e := blk_tyL q4 hc; exact absurd e (by decide))
  refine ⟨t1, t2, t3, h.h7, h.h8, h.h9, h.h10, fun _ => ⟨b, rfl, q2, q3, hb⟩, fun q => ?_, h.d8, h.d9, h.d10, fun _ => ⟨rfl, rfl⟩, h.d14⟩
  obtain ⟨b2, r1, r2, r3, r4⟩ := h.h12 q
  exact ⟨b2, r1, r2, r3, ho.blk r4 (fun z => by simp at z; exact blk_ne q4 r4 (by decide) z.symm)⟩
theorem LyW.step14 {b : Nat} (h : LyW a W0 H rb r r' an pg A cp true true f9 true f11 true f13 false W v49 v41 v50 v51 v11 (.pointer (some ⟨b, 0, none⟩)) H') (ha : a.heap.size ≤ W0.heap.size) (ho : Only [b] W W') (hb : Blk W' b 57 #[.slice A pg.events.length cp, .int .i64 pg.next, .bool pg.isEnd]) :
    LyW a W0 H rb r r' an pg A cp true true f9 true f11 true f13 true W' v49 v41 v50 v51 v11 (.pointer (some ⟨b, 0, none⟩)) H' := by
  obtain ⟨b1, e1, q2, q3, q4⟩ := h.h12 rfl
  injection e1 with e1
  injection e1 with e1
  injection e1 with e1
  subst e1
  obtain ⟨t1, t2, t3⟩ := h.turn ho q3 q2 (by omega) (fun cur hc => by have e := blk_tyL q4 hc; exact absurd e (by decide))
  refine ⟨t1, t2, t3, h.h7, h.h8, h.h9, h.h10, fun q => ?_, fun _ => ⟨b, rfl, q2, q3, hb⟩, h.d8, h.d9, h.d10, h.d13, fun _ => ⟨rfl, rfl⟩⟩
  obtain ⟨b2, r1, r2, r3, r4⟩ := h.h11 q
  exact ⟨b2, r1, r2, r3, ho.blk r4 (fun z => by simp at z; exact blk_ne q4 r4 (by decide) z.symm)⟩
/-- The flags of the eight operations. -/
def LyI (a W0 : World) (H : List Nat) (rb : Nat) (r r' : RS) (an : Ans) (pg : PageR) (A0 : Act) (listed : Array Bool) (ac : Act) (W : World) : Prop :=
  ∃ v49 v41 v50 v51 v11 v12 A cp H', ac = ((((((A0.put (some 49) v49).put (some 41) v41).put (some 50) v50).put (some 51) v51).put (some 11) v11).put (some 12) v12) ∧
    LyW a W0 H rb r r' an pg A cp (listed.getD 7 false) (listed.getD 8 false) (listed.getD 9 false) (listed.getD 10 false) (listed.getD 11 false) (listed.getD 12 false) (listed.getD 13 false) (listed.getD 14 false) W v49 v41 v50 v51 v11 v12 H'
end
end
end Go.Proofs.YteinoiicnmemhaaGreatDoor
