/- Proved here: contracts of functions and plain laws, part 51 of one proof. Conditions: each theorem names its own. -/
import Derived.Test.YteinoiicnmemhaaGreatDoorZ1
import Derived.Test.YteinoiicnmemhaaGreatDoorZ42
import Derived.Test.YteinoiicnmemhaaGreatDoorZ43
import Derived.Test.YteinoiicnmemhaaGreatDoorZ46
import Derived.Test.YteinoiicnmemhaaGreatDoorZ48
import Derived.Test.YteinoiicnmemhaaGreatDoorZ49
import Derived.Test.YteinoiicnmemhaaGreatDoorZ50
set_option linter.unusedSimpArgs false
set_option linter.unusedVariables false
namespace Go.Proofs.YteinoiicnmemhaaGreatDoor
section
open Go.ChangeShapes Go.WideShapes Go.ChangeAt Go.RowKit Go.WideElems Go.ChangeMaps Go.Deep Go.Sort Go
structure ReqV.Ok (W : World) (q : ReqV) : Prop where
  x : q.x.Ok W
theorem cellsReq : Tryz.prog.cellsOf 55 = 13 := by kernel_rfl
theorem cellsB : Tryz.prog.cellsOf 4 = 1 := by kernel_rfl
section
variable {H : Type} {enc : TypeId × Value → H} {W : World}
theorem open_req (n : Nat) (cs : List Value) (x : DataW H × List MemPlace) (h : DataW.trod enc Tryz.prog W 0 (fun _ => true) true n 55 cs = some x) (hlt : ∀ y ∈ x.2, y.block < W.heap.size) :
    ∃ q : ReqV, cs = q.cells ∧ q.Ok W := by
  obtain ⟨xs, m, _, hx, hl, hlen, hf⟩ := DataW.trod_struct Tryz.underlying55 h
  rw [cellsReq] at hl
  have g0 : DataW.trod enc Tryz.prog W 0 (fun _ => true) true m 40 ((cs.drop 0).take (Tryz.prog.cellsOf 40)) = xs[0]? := hf 0 _ rfl
  have g1 : DataW.trod enc Tryz.prog W 0 (fun _ => true) true m 4 ((cs.drop 8).take (Tryz.prog.cellsOf 4)) = xs[1]? := hf 1 _ rfl
  have g2 : DataW.trod enc Tryz.prog W 0 (fun _ => true) true m 4 ((cs.drop 9).take (Tryz.prog.cellsOf 4)) = xs[2]? := hf 2 _ rfl
  have g3 : DataW.trod enc Tryz.prog W 0 (fun _ => true) true m 3 ((cs.drop 10).take (Tryz.prog.cellsOf 3)) = xs[3]? := hf 3 _ rfl
  have g4 : DataW.trod enc Tryz.prog W 0 (fun _ => true) true m 3 ((cs.drop 11).take (Tryz.prog.cellsOf 3)) = xs[4]? := hf 4 _ rfl
  have g5 : DataW.trod enc Tryz.prog W 0 (fun _ => true) true m 4 ((cs.drop 12).take (Tryz.prog.cellsOf 4)) = xs[5]? := hf 5 _ rfl
  rw [cellsCmd] at g0
  rw [cellsB] at g1 g2 g5
  rw [cellsI] at g3 g4
  clear hf
  match xs, hlen with
  | [y0, y1, y2, y3, y4, y5], _ =>
    simp only [List.getElem?_cons_zero, List.getElem?_cons_succ] at g0 g1 g2 g3 g4 g5
    obtain ⟨o, c0, w0⟩ := open_cmd _ _ _ g0 (fun y hy => hlt y (by rw [hx]; simp; left; exact hy))
    obtain ⟨b1, c1, _⟩ := DataW.trod_bool Tryz.underlying4 g1
    obtain ⟨b2, c2, _⟩ := DataW.trod_bool Tryz.underlying4 g2
    obtain ⟨k3, c3, _, w3⟩ := DataW.trod_int Tryz.underlying3 g3
    obtain ⟨k4, c4, _, w4⟩ := DataW.trod_int Tryz.underlying3 g4
    obtain ⟨b5, c5, _⟩ := DataW.trod_bool Tryz.underlying4 g5
    refine ⟨⟨o, b1, b2, k3, k4, b5⟩, ?_, ⟨w0⟩⟩
    apply List.ext_getElem?
    intro i
    unfold ReqV.cells
    have a1 := one_at c1
    have a2 := one_at c2
    have a3 := one_at c3
    have a4 := one_at c4
    have a5 := one_at c5
    have b : ∀ j, j < 8 → cs[j]? = o.cells[j]? := fun j hj => by
      rw [← c0, List.getElem?_take, if_pos hj, List.getElem?_drop, Nat.zero_add]
    match i with
    | 0 => exact b 0 (by omega)
    | 1 => exact b 1 (by omega)
    | 2 => exact b 2 (by omega)
    | 3 => exact b 3 (by omega)
    | 4 => exact b 4 (by omega)
    | 5 => exact b 5 (by omega)
    | 6 => exact b 6 (by omega)
    | 7 => exact b 7 (by omega)
    | 8 => exact a1
    | 9 => exact a2
    | 10 => exact a3
    | 11 => exact a4
    | 12 => exact a5
    | i + 13 => simp; omega
set_option maxRecDepth 100000 in
theorem open_reqs {base : Nat} {v : Value} {d : DataW H} {ps : List MemPlace} (hval : Value.okWide Tryz.prog W .any base 47 v) (hd : DataW.Trod enc Tryz.prog W 0 (fun _ => true) true 47 v d ps) (hlt : ∀ x ∈ ps, x.block < W.heap.size) :
    ∃ os : List ReqV, Slc W 13 v os.length (os.flatMap ReqV.cells) ∧ (∀ o ∈ os, o.Ok W ∧ o.cells.length = 13) ∧ ∀ g, v.ownBlock = some g → g < W.heap.size ∨ os = [] :=
  open_rows Tryz.underlying47 cellsReq (by omega) ReqV.cells (ReqV.Ok W) open_req hval hd hlt
end
theorem ReqsAt.of {W : World} {v : Value} {l : List ReqV} (h1 : Slc W 13 v l.length (l.flatMap ReqV.cells)) (h2 : ∀ o ∈ l, o.Ok W ∧ o.cells.length = 13) (h3 : ∀ g, v.ownBlock = some g → g < W.heap.size ∨ l = []) : ReqsAt W W v l :=
  ⟨h1, h3, fun x hx => ⟨(h2 x hx).1.x.ok, (h2 x hx).1.x.slc, (h2 x hx).1.x.own⟩⟩
end
section
open Go.RowKit Go Go.Sort
theorem flat_setD {d' : DoneV} {c : Nat} {u : Value} (hc : c < 26) : ∀ (xs : List DoneV) (k : Nat) (hk : k < xs.length), d'.cells = (xs[k].cells).set c u → (xs.flatMap DoneV.cells).set (k * 26 + c) u = (xs.set k d').flatMap DoneV.cells
  | [], k, hk, _ => absurd hk (Nat.not_lt_zero _)
  | x :: xs, 0, hk, h => by
    have hl : x.cells.length = 26 := rfl
    rw [List.flatMap_cons, List.set_append_left _ _ (by omega), List.set_cons_zero, List.flatMap_cons, Nat.zero_mul, Nat.zero_add, h]
    rfl
  | x :: xs, k + 1, hk, h => by
    have hl : x.cells.length = 26 := rfl
    rw [List.flatMap_cons, List.set_append_right _ _ (by omega), List.set_cons_succ, List.flatMap_cons, ← flat_setD hc xs k (by simpa using hk) (by simpa using h), hl, show (k + 1) * 26 + c - 26 = k * 26 + c by omega]
theorem row_put {w : World} {base g cap n : Nat} {xs : List DoneV} {k c : Nat} {u : Value} (d' : DoneV) (h : w.ownsRow base 61 26 (.slice (some ⟨g, 0, none⟩) n cap) n (xs.flatMap DoneV.cells)) (hk : k < xs.length) (hc : c < 26)
    (hd : d'.cells = (xs[k].cells).set c u) : (w.setCell ⟨g, k * 26 + c, none⟩ u).ownsRow base 61 26 (.slice (some ⟨g, 0, none⟩) n cap) n ((xs.set k d').flatMap DoneV.cells) := by
  rw [← flat_setD hc xs k hk hd]
  obtain ⟨h1, h2⟩ := h
  rcases h2 with ⟨q, _⟩ | ⟨g', cap', cur, q, hb, hg, hn, hm, hs, ht⟩
  · cases q
  · cases q
    refine ⟨by rw [List.length_set]; exact h1, .inr ⟨g, cap, cur.setIfInBounds (k * 26 + c) u, rfl, hb, Blk.set hg _ _, hn, hm, by simp [hs], ?_⟩⟩
    rw [Array.toList_setIfInBounds, List.take_set, ht]
theorem row_form {w : World} {base n : Nat} {v : Value} {xs : List Value} (h : w.ownsRow base 61 26 v n xs) (hn : 0 < n) : ∃ g cap, v = .slice (some ⟨g, 0, none⟩) n cap ∧ base ≤ g ∧ g < w.heap.size := by
  obtain ⟨h1, h2⟩ := h
  rcases h2 with ⟨q, q2⟩ | ⟨g, cap, cur, rfl, hb, hg, hn, hm, hs, ht⟩
  · omega
  · exact ⟨g, cap, rfl, hb, Blk.lt hg⟩
theorem row_cell {w : World} {base g cap n : Nat} {xs : List DoneV} (h : w.ownsRow base 61 26 (.slice (some ⟨g, 0, none⟩) n cap) n (xs.flatMap DoneV.cells)) (hn : n = xs.length) {k : Nat} (hk : k < xs.length) (c : Nat) (hc : c < 26) :
    w.cell? ⟨g, k * 26 + c, none⟩ = (xs[k].cells)[c]? := by
  subst hn
  obtain ⟨A', c', e', _, _, hel⟩ := (Slc.of_own h).1.openE DoneV.cells (fun _ => rfl)
  cases e'
  obtain ⟨b, off, e2, _, hh⟩ := hel k hk
  cases e2
  have := hh c hc
  rwa [Nat.zero_add] at this
end
section
open Go.RowKit Go Go.Sort
section
variable {es : List EntV} {ds : List DoneV} {k : Nat} {d' : DoneV}
theorem LayOk.ansE (h : LayOk es ds) (hk : k < ds.length) : ds[k].ans.err ≠ 25 := by
  have h1 := right_ans (h.right k hk)
  rw [h1]
  split
  · exact readQ_err _ _
  · exact do_err _ _
theorem LayOk.sp (h : LayOk es ds) (hk : k < ds.length) (hq : d'.req = ds[k].req) (hp : d'.place = ds[k].place) (ha : d'.ans ≠ ds[k].ans) : ¬ ExplainP es (ds.set k d') :=
  h.spoilt hk (hp.trans (h.place k hk)) (spoilt_ans (h.right k hk) hq ha)
theorem LayOk.sp5 (h : LayOk es ds) (hk : k < ds.length) (h1 : ds.length ≤ 1000) (hq : d'.req = ds[k].req) (hp : d'.place = ds[k].place) (hr : ds[k].req.read = true) (ha : d'.pg.next = -5) : ¬ ExplainP es (ds.set k d') :=
  h.spoilt hk (hp.trans (h.place k hk)) (spoilt_next (by
    obtain ⟨a, b, c⟩ := run_inv (es.take (k + 1)) inv_new inv2_new MS.new_ok
    exact readQ_next a b c (by simp; omega) _) hr hq ha)
theorem LayOk.sp7 (h : LayOk es ds) (hk : k < ds.length) {t : Int} (hc : (es[k]'(by have := h.len; omega)).x.c = ds[k].req.cmd t) (hs : ds[k].req.x.c.stream.toList ≠ [111, 116, 104, 101, 114]) (hp : d'.place = ds[k].place) (hr : d'.req.read = false)
    (ha : d'.req.x.c.stream.toList = [111, 116, 104, 101, 114]) : ¬ ExplainP es (ds.set k d') :=
  h.spoilt hk (hp.trans (h.place k hk)) (spoilt_req (by
    rw [hc, ha]
    unfold ReqV.cmd
    split
    · intro q
      have e : (⟨#[]⟩ : ByteArray).toList = [] := by rw [ByteArray.toList_eq]
      have q2 : (⟨#[]⟩ : ByteArray).toList = [111, 116, 104, 101, 114] := q
      rw [e] at q2
      cases q2
    · exact hs) hr)
theorem pos_ne (p : Int) : IntKind.i64.wrap (p + 1000) ≠ p := by
  rw [IntKind.wrap_i64]
  omega
end
end
section
open Go.RowKit Go Go.Sort
section
variable {w : World} {v1 v2 : Value} {l : List ReqV} {ts : List Int} {how at_ to_ : Int}
theorem ReqsAt.up {a b w : World} {v : Value} {l : List ReqV} (h : ReqsAt a w v l) (hl : a.heap.size ≤ b.heap.size) : ReqsAt b w v l :=
  ⟨h.slc, fun g hg => (h.own g hg).imp (fun q => Nat.lt_of_lt_of_le q hl) id, fun x hx => ⟨(h.cmd x hx).1, (h.cmd x hx).2.1, fun g hg => ((h.cmd x hx).2.2 g hg).imp (fun q => Nat.lt_of_lt_of_le q hl) id⟩⟩
/-- Explain, of the entries of lay and of any answers of its. -/
theorem ex_any {wr W : World} {k : Nat} {sv dv : Value} {es : List EntV} {ds : List DoneV} {H : List Nat} {rb : Nat} {r : RS} (hL : LayAt w wr k sv dv es ds H rb r) (hk : k ≤ 20) (j : Only [] wr W) {xs : List DoneV} {xv : Value}
    (hx : Slc W 26 xv xs.length (xs.flatMap DoneV.cells)) (hlx : xs.length ≤ 200) (hok : ∀ d ∈ xs, DoneOk W d) :
    Calls Tryz.prog 15 #[sv, xv] W fun e w' => e = .returned (.bool (explainF es xs)) ∧ Only [] W w' := by
  have hO := hL.doc.only.trans j
  have hf := hL.few
  refine explain_any (Slc.of_own (own_only hL.rowE j (by simp))).1 hx (by omega) hlx (fun e he => ?_) (fun e he => ?_) hok
  · have q := hL.ent e he
    exact ⟨q.1, q.2.2.1.only0 hO, fun g hg => (q.2.2.2 g hg).imp (fun z => Nat.lt_of_lt_of_le z hO.size) id⟩
  · have := (hL.ent e he).2.1
    omega
theorem LayAt.dones {wr W : World} {k : Nat} {sv dv : Value} {es : List EntV} {ds : List DoneV} {H : List Nat} {rb : Nat} {r : RS} (hL : LayAt w wr k sv dv es ds H rb r) (j : Only [] wr W) : ∀ d ∈ ds, DoneOk W d := fun d hd => by
  have q := hL.don d hd
  have hO := hL.doc.only.trans j
  exact ⟨q.1.only0 hO, q.2.1, q.2.2.1, (Slc.of_own (own_only (hL.pgs d hd).1 j (by simp))).1, q.2.2.2⟩
theorem and7 (n : Int) : bits .and .i64 n 7 = n % 8 := by
  have h : (BitVec.ofInt 64 7).toNat = 2 ^ 3 - 1 := by decide
  have key : (BitVec.ofInt 64 n &&& BitVec.ofInt 64 7).toNat = (n % ((2 ^ 64 : Nat) : Int)).toNat % 2 ^ 3 := by
    rw [BitVec.toNat_and, BitVec.toNat_ofInt, h, Nat.and_two_pow_sub_one_eq_mod]
  show IntKind.i64.wrap ((BitVec.ofInt 64 n &&& BitVec.ofInt 64 7).toNat : Nat) = n % 8
  rw [key, IntKind.wrap_i64]
  omega
theorem done_one {W : World} {d : DoneV} (h : DoneOk W d) : ∀ u ∈ d.cells, u.oneCell' = true := by
  obtain ⟨Ax, capx, hvd, _, _, _⟩ := h.ev.openE EventR.cells (fun _ => rfl)
  obtain ⟨Ap, capp, hvp, _, _, _⟩ := h.pg.openE StoredR.cells (fun _ => rfl)
  have hcd : d.cells = [.int .i64 d.nd, .int .i64 d.id, .int .i64 d.req.x.c.kind, .int .i64 d.req.x.c.time, .string d.req.x.c.stream, .int .i64 d.req.x.c.expected, .slice Ax d.req.x.c.events.length capx, .int .i64 d.req.x.c.mt.maxCount, .int .i64 d.req.x.c.mt.maxAge, .int .i64 d.req.x.c.mt.before, .bool d.req.read, .bool d.req.all, .int .i64 d.req.fr, .int .i64 d.req.n, .bool d.req.back, .int .i64 d.rid, .int .i64 d.place, .int .i64 d.ans.err, .int .i64 d.ans.version, .int .i64 d.ans.position, .bool d.ans.again, .slice Ap d.pg.events.length capp, .int .i64 d.pg.next, .bool d.pg.isEnd, .int .i64 d.asked, .int .i64 d.answered] := by rw [← hvd, ← hvp]; rfl
  rw [hcd]
  simp [Value.oneCell']
/-- Explain, of the answers of lay with one changed. -/
theorem ex_set {wr W : World} {k : Nat} {sv dv : Value} {es : List EntV} {ds : List DoneV} {H : List Nat} {rb : Nat} {r : RS} (hL : LayAt w wr k sv dv es ds H rb r) (hk : k ≤ 20) (j : Only [] wr W) {kk base : Nat} (hkl : kk < ds.length) (hd20 : ds.length ≤ 20) {v : Value} (d' : DoneV)
    (hrow : W.ownsRow base 61 26 v ds.length ((ds.set kk d').flatMap DoneV.cells)) (hok : DoneOk W d') :
    Calls Tryz.prog 15 #[sv, v] W fun e w' => e = .returned (.bool (explainF es (ds.set kk d'))) ∧ Only [] W w' :=
  ex_any hL hk j (xs := ds.set kk d') (by rw [List.length_set]; exact (Slc.of_own hrow).1) (by rw [List.length_set]; omega) (fun d hd => (List.mem_or_eq_of_mem_set hd).elim (hL.dones j d) (fun e => e ▸ hok))
set_option maxRecDepth 100000 in
set_option maxHeartbeats 16000000 in
theorem explains_go (hT : J.Tab w) (h1 : ReqsAt w w v1 l) (ht : Slc w 1 v2 ts.length (ints ts)) (hwf : ∀ z ∈ ts, (Lit.int .i64 z).wf = true) :
    Calls Tryz.prog 4 #[v1, v2, .int .i64 how, .int .i64 at_, .int .i64 to_] w fun e w' => e = .returned (.bool true) ∧ Only [] w w' := by
  obtain ⟨A, cap, rfl, hnc, hcm, -⟩ := h1.cells
  obtain ⟨At, capt, rfl, hnt, hct, -⟩ := ht.openI
  unfold maxLen at hcm hct
  have HL1 := Lib.hid (fun (W : World) (hw : Only [] w W) => show Calls Tryz.prog 13 #[.int .i64 20, .slice A l.length cap] W fun e w' => RetB e (fun b => b = true → l.length ≤ 20 ∧ ∀ x ∈ l, x.x.c.events.length ≤ 12) ∧ Only [] W w' from rlight_any (h1.keep0 hw) 20 (by omega))
  have HA := Lib.hid (fun (W : World) (hw : Only [] w W) => alive27_any W (J.Tab.only hT hw))
  have H1 := Lib.hid h1
  have Ht := Lib.hid ht
  have Hwf := Lib.hid hwf
  clear h1 ht hwf hT
  go_enter Tryz.func4, Tryz.ntmps4
  go_wp2_with fail
  refine (HL1.out _ (Only.refl _ _)).mono ?_
  rintro e w1 ⟨⟨b1, rfl, hl1⟩, ho1⟩
  cases b1
  · go_wp2_with (go_at_call 7; refine (HA.out _ ho1).mono ?_; rintro e w3 ⟨rfl, ho3⟩)
    go_ret
    exact ⟨rfl, ho1.trans ho3⟩
  have HB1 := Lib.hid (hl1 rfl)
  clear hl1 HL1
  by_cases hlt : (ts.length : Int) < l.length
  · go_wp2_with (go_at_call 7; refine (HA.out _ ho1).mono ?_; rintro e w3 ⟨rfl, ho3⟩)
    go_ret
    exact ⟨rfl, ho1.trans ho3⟩
  go_wp2_with fail
  refine (HA.out _ ho1).mono ?_
  rintro e w3 ⟨rfl, ho3⟩
  have hO3 := ho1.trans ho3
  have HLay := Lib.hid (lay_any ((H1.out.keep0 hO3).up hO3.size) (Ht.out.only0 hO3) Hwf.out (by omega) HB1.out.1 HB1.out.2)
  have HO3 := Lib.hid hO3
  clear HA ho1 ho3 hO3
  go_wp2_with fail
  refine HLay.out.mono ?_
  rintro e w4 ⟨sv, dv, es, ds, H, rb, r, rfl, hL⟩
  obtain ⟨Ae, ce, rfl, _, _⟩ := own_form hL.rowE
  obtain ⟨Ad, cd, rfl, _, hcd⟩ := own_form hL.rowD
  have hk20 := HB1.out.1
  have hlen := hL.lay.len
  have hfw := hL.few
  have hd20 : ds.length ≤ 20 := by omega
  have HEx := Lib.hid (ex_any hL hk20 (Only.refl _ _) (Slc.of_own hL.rowD).1 (by omega) (hL.dones (Only.refl _ _)))
  rw [explainF_true (hL.lay.perm (List.Perm.refl _))] at HEx
  have HL := Lib.hid hL
  have HO4 := Lib.hid (HO3.out.trans hL.doc.only)
  clear HLay hL hlen hfw
  go_wp2_with fail
  refine HEx.out.mono ?_
  rintro e w5 ⟨rfl, k5⟩
  clear HEx
  obtain ⟨ti, hi, hz0, hz1, hz2⟩ := info_parts infoDn
  have K5 := Lib.hid k5
  clear k5
  go_wp2_with (at_make; refine wpList_make_own _ rfl _ _ 50 rfl w5.heap.size 61 ti _ 26 Tryz.underlying50 hi hz0 hz1 _ _ _ ds.length rfl rfl rfl (by rw [hz2]; omega) (by unfold maxLen; omega) (Nat.le_refl _) ?_)
  intro w6 hown6 hgrow
  have HR6 := Lib.hid hown6
  have HO6 := Lib.hid ((Only.refl [] w5).grown hgrow (fun k hk => by simp at hk))
  obtain ⟨gb, hgb⟩ : ∃ gb, w5.heap.size = gb := ⟨_, rfl⟩
  have e1 := IntWalk.i64_in ((ds.length : Int) - 1) ⟨by omega, by omega⟩
  clear hown6 hgrow hi hz0 hz1 hz2
  have HDs := Lib.hid (fun (j : Nat) (hj : j < ds.length) => show ∃ b off, Ad = some ⟨b, off, none⟩ ∧ b < w5.heap.size ∧ ∀ r, r < 26 → w5.cell? ⟨b, off + j * 26 + r, none⟩ = (ds[j].cells)[r]? from by
    obtain ⟨A', c', e', _, _, hel⟩ := ((Slc.of_own HL.out.rowD).1.only0 K5.out).openE DoneV.cells (fun _ => rfl)
    injection e' with e'
    subst e'
    exact hel j hj)
  have HDok := Lib.hid (fun (W : World) (kW : Only [] w5 W) => HL.out.dones (K5.out.trans kW))
  clear hgb
  go_wp2_with fail
  go_loopw [13, 14] (fun bv iv wr => ∃ (j : Nat) (v : Value), j ≤ ds.length ∧ bv = v ∧ iv = .int .i64 ((j : Int) - 1) ∧ Hid (wr.ownsRow w5.heap.size 61 26 v (ds.length - j) ((ds.drop j).reverse.flatMap DoneV.cells)) ∧ Hid (Only [] w5 wr)) (fun _ iv _ => (intOf iv + 1).toNat)
  case atStart => exact ⟨ds.length, _, Nat.le_refl _, rfl, rfl, by unfold Hid; rw [Nat.sub_self, List.drop_of_length_le (Nat.le_refl _)]; exact HR6.out, HO6⟩
  case round =>
    obtain ⟨j, v, hj, rfl, rfl, hRow, hO⟩ := hrel
    obtain ⟨Av, cv, rfl, _, _⟩ := own_form hRow.out
    by_cases h0 : j = 0
    · subst h0
      have hrw := hRow.out
      rw [List.drop_zero, Nat.sub_zero] at hrw
      rw [Nat.sub_zero]
      have HEx2 := Lib.hid (ex_any HL.out hk20 (K5.out.trans hO.out) (xs := ds.reverse) (by rw [List.length_reverse]; exact (Slc.of_own hrw).1) (by rw [List.length_reverse]; omega) (fun d hd => HDok.out wr hO.out d (List.mem_reverse.1 hd)))
      rw [explainF_true (HL.out.lay.perm (List.reverse_perm ds))] at HEx2
      clear hrw hRow HR6 HO6 HDs
      go_wp2_with fail
      refine HEx2.out.mono ?_
      rintro e w8 ⟨rfl, k8⟩
      have HK8 := Lib.hid (K5.out.trans (hO.out.trans k8))
      clear HEx2 k8 hO
      by_cases hd0 : 0 < ds.length
      · have tk : ∀ a : Int, IntKind.i64.wrap (a.tmod ds.length + ds.length) = a.tmod ds.length + ds.length ∧ ∃ kk : Nat, (a.tmod ds.length + ds.length).tmod ds.length = (kk : Int) ∧ kk < ds.length := fun a => by
          have h1 := Int.tmod_lt_of_pos a (show (0 : Int) < ds.length by omega)
          have h2 := Int.lt_tmod_of_pos a (show (0 : Int) < ds.length by omega)
          have h3 := Int.tmod_nonneg (ds.length : Int) (show (0 : Int) ≤ a.tmod ds.length + ds.length by omega)
          have h4 := Int.tmod_lt_of_pos (a.tmod ds.length + ds.length) (show (0 : Int) < ds.length by omega)
          exact ⟨IntWalk.i64_in _ ⟨by omega, by omega⟩, ((a.tmod ds.length + ds.length).tmod ds.length).toNat, by omega, by omega⟩
        obtain ⟨wk, kk, hkk, hkl⟩ := tk at_
        obtain ⟨wj, jj, hjj, hjl⟩ := tk to_
        go_upto_region 17 with (fail)
        clear tk wk wj hkk hjj
        obtain ⟨Ay, cy, w9, hrun, hown, hO9, hfr⟩ := run_app (P := Tryz.prog) 50 50 w8.heap.size 61 (.agg #[.int .i64 0, .int .i64 0, .int .i64 0, .int .i64 0, .string ⟨#[]⟩, .int .i64 0, .slice none 0 0, .int .i64 0, .int .i64 0, .int .i64 0, .bool false, .bool false, .int .i64 0, .int .i64 0, .bool false, .int .i64 0, .int .i64 0, .int .i64 0, .int .i64 0, .int .i64 0, .bool false, .slice none 0 0, .int .i64 0, .bool false, .int .i64 0, .int .i64 0]) 26 240 Tryz.underlying50 infoDn rfl (by decide) (World.ownsRow_nil w8 w8.heap.size 61 26) ((Slc.of_own HL.out.rowD).1.only0 HK8.out) (by
          intro u hu
          obtain ⟨d, hd, hu⟩ := List.mem_flatMap.1 hu
          exact done_one (HL.out.dones (Only.refl _ _) d hd) u hu) (by omega) (by unfold maxLen; omega) (Nat.le_refl _)
        rw [List.nil_append, Nat.zero_add] at hown
        rw [Nat.zero_add] at hrun
        have HX9 := Lib.hid hown
        have HO9 := Lib.hid (show Only [] w8 w9 from hO9)
        have HRun := Lib.hid hrun
        clear hrun hown hO9 hfr
        go_upto_region 18 with (at_builtin; refine Lib.wpList_append_run _ rfl (.const (.slice none 0 0)) (.tmp 87) 50 50 rfl _ _ rfl rfl _ _ HRun.out ?_)
        obtain ⟨gx, cx, e, hgx, hgw⟩ := row_form HX9.out hd0
        cases e
        have h7 := and7 how
        obtain ⟨m, hm⟩ : ∃ m, bits .and .i64 how 7 = m := ⟨_, rfl⟩
        have hm8 : 0 ≤ m ∧ m < 8 := by omega
        clear h7
        obtain ⟨cur9, hb9⟩ := own_type HX9.out (g := gx) rfl
        have HFz := Lib.hid (fun i => show w9.frozen? ⟨gx, i, none⟩ = false from hb9.free i)
        clear hb9
        obtain ⟨P, hP⟩ : ∃ P, ds[kk].ans.position = P := ⟨_, rfl⟩
        obtain ⟨Rd, hRd⟩ : ∃ R, ds[kk].req.read = R := ⟨_, rfl⟩
        by_cases m0 : m = 0
        · subst m0
          obtain ⟨q, hq⟩ : ∃ q, IntKind.i64.wrap (P + 1000) = q := ⟨_, rfl⟩
          have hq2 : wrap64 (P + 1000) = q := by rw [← hq]; simp only [wrap64, IntKind.wrap_i64]
          have hqn : q ≠ P := by rw [← hq]; exact pos_ne P
          have c19 : w9.cell? ⟨gx, kk * 26 + 19, none⟩ = some (.int .i64 P) := (row_cell HX9.out rfl hkl 19 (by decide)).trans (by rw [← hP]; rfl)
          obtain ⟨d', hd'⟩ : ∃ d' : DoneV, d' = { ds[kk] with ans := { ds[kk].ans with position := q } } := ⟨_, rfl⟩
          have hp := row_put d' HX9.out hkl (c := 19) (by decide) (u := .int .i64 q) (by rw [hd']; first | rfl | (rw [← hP]; rfl))
          have hW : Only [] w4 (w9.setCell ⟨gx, kk * 26 + 19, none⟩ (.int .i64 q)) := HK8.out.trans (HO9.out.setCell (.inr hgx) _)
          have dk := HL.out.dones hW ds[kk] (List.getElem_mem hkl)
          have HE := ex_set HL.out hk20 hW hkl hd20 d' hp (by rw [hd']; exact ⟨dk.ev, dk.few, dk.stream, dk.pg, dk.pfew⟩)
          have HW := Lib.hid hW
          rw [explainF_false (HL.out.lay.sp hkl (d' := d') (by rw [hd']) (by rw [hd']) (by rw [hd']; intro z; exact hqn ((congrArg Ans.position z).trans hP)))] at HE
          replace HE := Lib.hid HE
          have fz : w9.frozen? ⟨gx, kk * 26 + 19, none⟩ = false := HFz.out _
          clear hp hW dk hd' hP hRd
          go_wp2_with (rw [hm])
          refine HE.out.mono ?_
          rintro e w10 ⟨rfl, k10⟩
          go_wp2_with fail
          go_ret
          exact ⟨rfl, HO4.out.trans (HW.out.trans k10)⟩
        by_cases m1 : m = 1
        · subst m1
          have c17 : w9.cell? ⟨gx, kk * 26 + 17, none⟩ = some (.int .i64 ds[kk].ans.err) := row_cell HX9.out rfl hkl 17 (by decide)
          obtain ⟨d', hd'⟩ : ∃ d' : DoneV, d' = { ds[kk] with ans := { ds[kk].ans with err := 25 } } := ⟨_, rfl⟩
          have hp := row_put d' HX9.out hkl (c := 17) (by decide) (u := .int .i64 25) (by rw [hd']; first | rfl | (rw [← hP]; rfl))
          have hW : Only [] w4 (w9.setCell ⟨gx, kk * 26 + 17, none⟩ (.int .i64 25)) := HK8.out.trans (HO9.out.setCell (.inr hgx) _)
          have dk := HL.out.dones hW ds[kk] (List.getElem_mem hkl)
          have HE := ex_set HL.out hk20 hW hkl hd20 d' hp (by rw [hd']; exact ⟨dk.ev, dk.few, dk.stream, dk.pg, dk.pfew⟩)
          have HW := Lib.hid hW
          rw [explainF_false (HL.out.lay.sp hkl (d' := d') (by rw [hd']) (by rw [hd']) (by rw [hd']; intro z; exact HL.out.lay.ansE hkl (congrArg Ans.err z).symm))] at HE
          replace HE := Lib.hid HE
          have fz : w9.frozen? ⟨gx, kk * 26 + 17, none⟩ = false := HFz.out _
          clear hp hW dk hd' hP hRd
          go_wp2_with (rw [hm])
          refine HE.out.mono ?_
          rintro e w10 ⟨rfl, k10⟩
          go_wp2_with fail
          go_ret
          exact ⟨rfl, HO4.out.trans (HW.out.trans k10)⟩
        by_cases m2 : m = 2
        · subst m2
          have c16 : w9.cell? ⟨gx, kk * 26 + 16, none⟩ = some (.int .i64 ds[kk].place) := row_cell HX9.out rfl hkl 16 (by decide)
          obtain ⟨d', hd'⟩ : ∃ d' : DoneV, d' = { ds[kk] with place := es.length } := ⟨_, rfl⟩
          have hp := row_put d' HX9.out hkl (c := 16) (by decide) (u := .int .i64 es.length) (by rw [hd']; first | rfl | (rw [← hP]; rfl))
          have hW : Only [] w4 (w9.setCell ⟨gx, kk * 26 + 16, none⟩ (.int .i64 es.length)) := HK8.out.trans (HO9.out.setCell (.inr hgx) _)
          have dk := HL.out.dones hW ds[kk] (List.getElem_mem hkl)
          have HE := ex_set HL.out hk20 hW hkl hd20 d' hp (by rw [hd']; exact ⟨dk.ev, dk.few, dk.stream, dk.pg, dk.pfew⟩)
          have HW := Lib.hid hW
          rw [explainF_false (HL.out.lay.outside hkl (d := d') (by rw [hd']))] at HE
          replace HE := Lib.hid HE
          have fz : w9.frozen? ⟨gx, kk * 26 + 16, none⟩ = false := HFz.out _
          clear hp hW dk hd' hP hRd
          go_wp2_with (rw [hm])
          refine HE.out.mono ?_
          rintro e w10 ⟨rfl, k10⟩
          go_wp2_with fail
          go_ret
          exact ⟨rfl, HO4.out.trans (HW.out.trans k10)⟩
        by_cases m3 : m = 3
        · subst m3
          obtain ⟨A', c', e', _, _, hel⟩ := ((Slc.of_own HL.out.rowD).1.only0 (HK8.out.trans HO9.out)).openE DoneV.cells (fun _ => rfl)
          injection e' with e'
          subst e'
          obtain ⟨b, off, rfl, hbb, hcc⟩ := hel jj hjl
          obtain ⟨d, hd⟩ : ∃ d, d = ds[jj] := ⟨_, rfl⟩
          have hdm : d ∈ ds := by rw [hd]; exact List.getElem_mem hjl
          have hnot := HL.out.lay.twice hjl
          rw [← hd] at hcc hnot
          have hdo := HL.out.dones (HK8.out.trans HO9.out) d hdm
          obtain ⟨Ax, capx, hvd, _, _, _⟩ := hdo.ev.openE EventR.cells (fun _ => rfl)
          obtain ⟨Ap, capp, hvp, _, _, _⟩ := hdo.pg.openE StoredR.cells (fun _ => rfl)
          have hcd : d.cells = [.int .i64 d.nd, .int .i64 d.id, .int .i64 d.req.x.c.kind, .int .i64 d.req.x.c.time, .string d.req.x.c.stream, .int .i64 d.req.x.c.expected, .slice Ax d.req.x.c.events.length capx, .int .i64 d.req.x.c.mt.maxCount, .int .i64 d.req.x.c.mt.maxAge, .int .i64 d.req.x.c.mt.before, .bool d.req.read, .bool d.req.all, .int .i64 d.req.fr, .int .i64 d.req.n, .bool d.req.back, .int .i64 d.rid, .int .i64 d.place, .int .i64 d.ans.err, .int .i64 d.ans.version, .int .i64 d.ans.position, .bool d.ans.again, .slice Ap d.pg.events.length capp, .int .i64 d.pg.next, .bool d.pg.isEnd, .int .i64 d.asked, .int .i64 d.answered] := by rw [← hvd, ← hvp]; rfl
          have HR := Lib.hid (show ∀ r, r < 26 → w9.cell? ⟨b, off + jj * 26 + r, none⟩ = [.int .i64 d.nd, .int .i64 d.id, .int .i64 d.req.x.c.kind, .int .i64 d.req.x.c.time, .string d.req.x.c.stream, .int .i64 d.req.x.c.expected, .slice Ax d.req.x.c.events.length capx, .int .i64 d.req.x.c.mt.maxCount, .int .i64 d.req.x.c.mt.maxAge, .int .i64 d.req.x.c.mt.before, .bool d.req.read, .bool d.req.all, .int .i64 d.req.fr, .int .i64 d.req.n, .bool d.req.back, .int .i64 d.rid, .int .i64 d.place, .int .i64 d.ans.err, .int .i64 d.ans.version, .int .i64 d.ans.position, .bool d.ans.again, .slice Ap d.pg.events.length capp, .int .i64 d.pg.next, .bool d.pg.isEnd, .int .i64 d.asked, .int .i64 d.answered][r]? from fun r hr => by rw [hcc r hr, hcd])
          have hr4 := HX9.out.alloc (.cells #[.int .i64 d.nd, .int .i64 d.id, .int .i64 d.req.x.c.kind, .int .i64 d.req.x.c.time, .string d.req.x.c.stream, .int .i64 d.req.x.c.expected, .slice Ax d.req.x.c.events.length capx, .int .i64 d.req.x.c.mt.maxCount, .int .i64 d.req.x.c.mt.maxAge, .int .i64 d.req.x.c.mt.before, .bool d.req.read, .bool d.req.all, .int .i64 d.req.fr, .int .i64 d.req.n, .bool d.req.back, .int .i64 d.rid, .int .i64 d.place, .int .i64 d.ans.err, .int .i64 d.ans.version, .int .i64 d.ans.position, .bool d.ans.again, .slice Ap d.pg.events.length capp, .int .i64 d.pg.next, .bool d.pg.isEnd, .int .i64 d.asked, .int .i64 d.answered] 61)
          have hrl := fun g hg => World.ownsRow.lt hr4 g hg
          obtain ⟨A3, cap3, w10, hrun, hown, hO10, hfr⟩ := run_app (P := Tryz.prog) 50 50 w8.heap.size 61 (.agg #[.int .i64 0, .int .i64 0, .int .i64 0, .int .i64 0, .string ⟨#[]⟩, .int .i64 0, .slice none 0 0, .int .i64 0, .int .i64 0, .int .i64 0, .bool false, .bool false, .int .i64 0, .int .i64 0, .bool false, .int .i64 0, .int .i64 0, .int .i64 0, .int .i64 0, .int .i64 0, .bool false, .slice none 0 0, .int .i64 0, .bool false, .int .i64 0, .int .i64 0]) 26 240 Tryz.underlying50 infoDn rfl (by decide) hr4 (slc_new1 (w := w9) (e := 61) (size := 26) (cs := [.int .i64 d.nd, .int .i64 d.id, .int .i64 d.req.x.c.kind, .int .i64 d.req.x.c.time, .string d.req.x.c.stream, .int .i64 d.req.x.c.expected, .slice Ax d.req.x.c.events.length capx, .int .i64 d.req.x.c.mt.maxCount, .int .i64 d.req.x.c.mt.maxAge, .int .i64 d.req.x.c.mt.before, .bool d.req.read, .bool d.req.all, .int .i64 d.req.fr, .int .i64 d.req.n, .bool d.req.back, .int .i64 d.rid, .int .i64 d.place, .int .i64 d.ans.err, .int .i64 d.ans.version, .int .i64 d.ans.position, .bool d.ans.again, .slice Ap d.pg.events.length capp, .int .i64 d.pg.next, .bool d.pg.isEnd, .int .i64 d.asked, .int .i64 d.answered]) rfl) (by simp [Value.oneCell']) (by omega) (by unfold maxLen; omega) (by have := HO9.out.size; simp; omega)
          have hxs : ds.flatMap DoneV.cells ++ [.int .i64 d.nd, .int .i64 d.id, .int .i64 d.req.x.c.kind, .int .i64 d.req.x.c.time, .string d.req.x.c.stream, .int .i64 d.req.x.c.expected, .slice Ax d.req.x.c.events.length capx, .int .i64 d.req.x.c.mt.maxCount, .int .i64 d.req.x.c.mt.maxAge, .int .i64 d.req.x.c.mt.before, .bool d.req.read, .bool d.req.all, .int .i64 d.req.fr, .int .i64 d.req.n, .bool d.req.back, .int .i64 d.rid, .int .i64 d.place, .int .i64 d.ans.err, .int .i64 d.ans.version, .int .i64 d.ans.position, .bool d.ans.again, .slice Ap d.pg.events.length capp, .int .i64 d.pg.next, .bool d.pg.isEnd, .int .i64 d.asked, .int .i64 d.answered] = (ds ++ [d]).flatMap DoneV.cells := by
            rw [List.flatMap_append, ← hcd]
            simp
          rw [hxs] at hown
          have hW : Only [] w4 w10 := HK8.out.trans ((HO9.out.alloc _).step hO10 (fun x hx => .inr (hrl x (by simpa using hx)).1))
          have HE := ex_any HL.out hk20 hW (xs := ds ++ [d]) (by rw [List.length_append, List.length_singleton]; exact (Slc.of_own hown).1) (by rw [List.length_append, List.length_singleton]; omega) (fun y hy => by
            rcases List.mem_append.1 hy with q | q
            · exact HL.out.dones hW y q
            · rw [List.mem_singleton] at q
              rw [q]
              exact HL.out.dones hW d hdm)
          rw [explainF_false hnot] at HE
          replace HE := Lib.hid HE
          have HW := Lib.hid hW
          have HRun := Lib.hid hrun
          have hj1 : (jj : Int) < ds.length := by omega
          have hj0 : (jj : Int) ≥ 0 := by omega
          clear hrun hown hO10 hfr hr4 hrl hcd hvd hvp hdo hd hcc hxs hnot hW hel hdm hP hRd
          go_wp2_with (first
            | (rw [hm]; done)
            | (refine wpList_load_row2 rfl 61 (.tmp 152) rfl b (off + jj * 26) rfl 26 [.int .i64 d.nd, .int .i64 d.id, .int .i64 d.req.x.c.kind, .int .i64 d.req.x.c.time, .string d.req.x.c.stream, .int .i64 d.req.x.c.expected, .slice Ax d.req.x.c.events.length capx, .int .i64 d.req.x.c.mt.maxCount, .int .i64 d.req.x.c.mt.maxAge, .int .i64 d.req.x.c.mt.before, .bool d.req.read, .bool d.req.all, .int .i64 d.req.fr, .int .i64 d.req.n, .bool d.req.back, .int .i64 d.rid, .int .i64 d.place, .int .i64 d.ans.err, .int .i64 d.ans.version, .int .i64 d.ans.position, .bool d.ans.again, .slice Ap d.pg.events.length capp, .int .i64 d.pg.next, .bool d.pg.isEnd, .int .i64 d.asked, .int .i64 d.answered] rfl HR.out Tryz.underlying61 rfl (by kernel_rfl) ?_)
            | (at_builtin; refine Lib.wpList_append_run _ rfl (.tmp 149) (.tmp 154) 50 50 rfl _ _ rfl rfl _ _ HRun.out ?_)
            | rw [hm])
          refine HE.out.mono ?_
          rintro e w11 ⟨rfl, k11⟩
          go_wp2_with fail
          go_ret
          exact ⟨rfl, HO4.out.trans (HW.out.trans k11)⟩
        by_cases m4 : m = 4
        · subst m4
          by_cases hjk : jj ≤ kk
          · have hdj : decide ((jj : Int) ≤ (kk : Int)) = true := decide_eq_true (by omega)
            have HW := Lib.hid (HK8.out.trans HO9.out)
            clear hP hRd
            go_wp2_with (rw [hm])
            go_ret
            exact ⟨rfl, HO4.out.trans HW.out⟩
          · have hdj : decide ((jj : Int) ≤ (kk : Int)) = false := decide_eq_false (by omega)
            obtain ⟨x, hx⟩ : ∃ x : DoneV, x = { ds[jj] with answered := 0 } := ⟨_, rfl⟩
            obtain ⟨y1, hy1⟩ : ∃ y : DoneV, y = { ds[kk] with asked := 100 } := ⟨_, rfl⟩
            obtain ⟨y, hy⟩ : ∃ y : DoneV, y = { ds[kk] with asked := 100, answered := 101 } := ⟨_, rfl⟩
            have l1 : kk < (ds.set jj x).length := by rw [List.length_set]; exact hkl
            have l2 : kk < ((ds.set jj x).set kk y1).length := by rw [List.length_set]; exact l1
            have e1 : (ds.set jj x)[kk] = ds[kk] := List.getElem_set_ne (by omega) _
            have e2 : ((ds.set jj x).set kk y1)[kk] = y1 := List.getElem_set_self _
            have hp1 := row_put x HX9.out hjl (c := 25) (by decide) (u := .int .i64 0) (by rw [hx]; rfl)
            have hp2 := row_put y1 hp1 l1 (c := 24) (by decide) (u := .int .i64 100) (by rw [e1, hy1]; rfl)
            have hp3 := row_put y hp2 l2 (c := 25) (by decide) (u := .int .i64 101) (by rw [e2, hy, hy1]; rfl)
            rw [List.set_set] at hp3
            have c25 : w9.cell? ⟨gx, jj * 26 + 25, none⟩ = some (.int .i64 ds[jj].answered) := row_cell HX9.out rfl hjl 25 (by decide)
            have c24 : World.cell? _ ⟨gx, kk * 26 + 24, none⟩ = some (.int .i64 ds[kk].asked) := (row_cell hp1 (by rw [List.length_set]) l1 24 (by decide)).trans (by rw [e1]; rfl)
            have c26 : World.cell? _ ⟨gx, kk * 26 + 25, none⟩ = some (.int .i64 y1.answered) := (row_cell hp2 (by rw [List.length_set, List.length_set]) l2 25 (by decide)).trans (by rw [e2]; rfl)
            have f1 := HFz.out (jj * 26 + 25)
            obtain ⟨cu1, hb1⟩ := own_type hp1 (g := gx) rfl
            have f2 := hb1.free (kk * 26 + 24)
            obtain ⟨cu2, hb2⟩ := own_type hp2 (g := gx) rfl
            have f3 := hb2.free (kk * 26 + 25)
            have hW : Only [] w4 (((w9.setCell ⟨gx, jj * 26 + 25, none⟩ (.int .i64 0)).setCell ⟨gx, kk * 26 + 24, none⟩ (.int .i64 100)).setCell ⟨gx, kk * 26 + 25, none⟩ (.int .i64 101)) := HK8.out.trans (((HO9.out.setCell (.inr hgx) _).setCell (.inr hgx) _).setCell (.inr hgx) _)
            have HE := ex_any HL.out hk20 hW (xs := (ds.set jj x).set kk y) (by rw [List.length_set, List.length_set]; exact (Slc.of_own hp3).1) (by rw [List.length_set, List.length_set]; omega) (fun d hd => by
              have hdn := fun d hd => HL.out.dones hW d hd
              rcases List.mem_or_eq_of_mem_set hd with q | q
              · rcases List.mem_or_eq_of_mem_set q with q | q
                · exact hdn d q
                · rw [q, hx]
                  have dk := hdn ds[jj] (List.getElem_mem hjl)
                  exact ⟨dk.ev, dk.few, dk.stream, dk.pg, dk.pfew⟩
              · rw [q, hy]
                have dk := hdn ds[kk] (List.getElem_mem hkl)
                exact ⟨dk.ev, dk.few, dk.stream, dk.pg, dk.pfew⟩)
            rw [explainF_false (HL.out.lay.behind (by omega) hjl (x := x) (y := y) (by rw [hx]; exact HL.out.lay.place jj hjl) (by rw [hy]; exact HL.out.lay.place kk hkl) (by rw [hx, hy]; show (0 : Int) < 100; decide))] at HE
            replace HE := Lib.hid HE
            have HW := Lib.hid hW
            clear hp1 hp2 hp3 hb1 hb2 hW hx hy1 hy e1 e2 l1 l2 hP hRd
            go_wp2_with (rw [hm])
            refine HE.out.mono ?_
            rintro e w10 ⟨rfl, k10⟩
            go_wp2_with fail
            go_ret
            exact ⟨rfl, HO4.out.trans (HW.out.trans k10)⟩
        by_cases m5 : m = 5
        · subst m5
          have c22 : w9.cell? ⟨gx, kk * 26 + 22, none⟩ = some (.int .i64 ds[kk].pg.next) := row_cell HX9.out rfl hkl 22 (by decide)
          have f22 := HFz.out (kk * 26 + 22)
          obtain ⟨d', hd'⟩ : ∃ d' : DoneV, d' = { ds[kk] with pg := { ds[kk].pg with next := -5 } } := ⟨_, rfl⟩
          have hp := row_put d' HX9.out hkl (c := 22) (by decide) (u := .int .i64 (-5)) (by rw [hd']; rfl)
          have c10 : World.cell? _ ⟨gx, kk * 26 + 10, none⟩ = some (.bool Rd) := (row_cell hp (by rw [List.length_set]) (by rw [List.length_set]; exact hkl) 10 (by decide)).trans (by rw [List.getElem_set_self, hd', ← hRd]; rfl)
          have hW : Only [] w4 (w9.setCell ⟨gx, kk * 26 + 22, none⟩ (.int .i64 (-5))) := HK8.out.trans (HO9.out.setCell (.inr hgx) _)
          have HW := Lib.hid hW
          cases Rd
          · clear hp hW hd' hP hRd
            go_wp2_with (rw [hm])
            go_ret
            exact ⟨rfl, HO4.out.trans HW.out⟩
          · have dk := HL.out.dones hW ds[kk] (List.getElem_mem hkl)
            have HE := ex_set HL.out hk20 hW hkl hd20 d' hp (by rw [hd']; exact ⟨dk.ev, dk.few, dk.stream, dk.pg, dk.pfew⟩)
            rw [explainF_false (HL.out.lay.sp5 hkl (by omega) (d' := d') (by rw [hd']) (by rw [hd']) hRd (by rw [hd']))] at HE
            replace HE := Lib.hid HE
            clear hp hW dk hd' hP hRd
            go_wp2_with (rw [hm])
            refine HE.out.mono ?_
            rintro e w10 ⟨rfl, k10⟩
            go_wp2_with fail
            go_ret
            exact ⟨rfl, HO4.out.trans (HW.out.trans k10)⟩
        by_cases m6 : m = 6
        · subst m6
          have c16 : w9.cell? ⟨gx, kk * 26 + 16, none⟩ = some (.int .i64 ds[kk].place) := row_cell HX9.out rfl hkl 16 (by decide)
          obtain ⟨d', hd'⟩ : ∃ d' : DoneV, d' = { ds[kk] with place := -1 } := ⟨_, rfl⟩
          have hp := row_put d' HX9.out hkl (c := 16) (by decide) (u := .int .i64 (-1)) (by rw [hd']; first | rfl | (rw [← hP]; rfl))
          have hW : Only [] w4 (w9.setCell ⟨gx, kk * 26 + 16, none⟩ (.int .i64 (-1))) := HK8.out.trans (HO9.out.setCell (.inr hgx) _)
          have dk := HL.out.dones hW ds[kk] (List.getElem_mem hkl)
          have HE := ex_set HL.out hk20 hW hkl hd20 d' hp (by rw [hd']; exact ⟨dk.ev, dk.few, dk.stream, dk.pg, dk.pfew⟩)
          have HW := Lib.hid hW
          rw [explainF_true (HL.out.lay.nowhere hkl (d := d') (by rw [hd']; show (-1 : Int) < 0; decide))] at HE
          replace HE := Lib.hid HE
          have fz : w9.frozen? ⟨gx, kk * 26 + 16, none⟩ = false := HFz.out _
          clear hp hW dk hd' hP hRd
          go_wp2_with (rw [hm])
          refine HE.out.mono ?_
          rintro e w10 ⟨rfl, k10⟩
          go_wp2_with fail
          go_ret
          exact ⟨rfl, HO4.out.trans (HW.out.trans k10)⟩
        have m7 : m = 7 := by omega
        subst m7
        obtain ⟨S, hS⟩ : ∃ S, ds[kk].req.x.c.stream = S := ⟨_, rfl⟩
        obtain ⟨d1, hd1⟩ : ∃ d : DoneV, d = { ds[kk] with req := { ds[kk].req with x := { ds[kk].req.x with c := { ds[kk].req.x.c with kind := 1 } } } } := ⟨_, rfl⟩
        obtain ⟨d2, hd2⟩ : ∃ d : DoneV, d = { ds[kk] with req := { ds[kk].req with x := { ds[kk].req.x with c := { ds[kk].req.x.c with kind := 1, stream := ⟨#[111, 116, 104, 101, 114]⟩ } } } } := ⟨_, rfl⟩
        obtain ⟨d3, hd3⟩ : ∃ d : DoneV, d = { ds[kk] with req := { ds[kk].req with x := { ds[kk].req.x with c := { ds[kk].req.x.c with kind := 1, stream := ⟨#[111, 116, 104, 101, 114]⟩ } }, read := false } } := ⟨_, rfl⟩
        have l1 : kk < (ds.set kk d1).length := by rw [List.length_set]; exact hkl
        have l2 : kk < ((ds.set kk d1).set kk d2).length := by rw [List.length_set]; exact l1
        have e1 : (ds.set kk d1)[kk] = d1 := List.getElem_set_self _
        have e2 : ((ds.set kk d1).set kk d2)[kk] = d2 := List.getElem_set_self _
        have hp1 := row_put d1 HX9.out hkl (c := 2) (by decide) (u := .int .i64 1) (by rw [hd1]; rfl)
        have hp2 := row_put d2 hp1 l1 (c := 4) (by decide) (u := .string ⟨#[111, 116, 104, 101, 114]⟩) (by rw [e1, hd1, hd2]; rfl)
        have hp3 := row_put d3 hp2 l2 (c := 10) (by decide) (u := .bool false) (by rw [e2, hd2, hd3]; rfl)
        rw [List.set_set, List.set_set] at hp3
        have c2 : w9.cell? ⟨gx, kk * 26 + 2, none⟩ = some (.int .i64 ds[kk].req.x.c.kind) := row_cell HX9.out rfl hkl 2 (by decide)
        have c4 : World.cell? _ ⟨gx, kk * 26 + 4, none⟩ = some (.string S) := (row_cell hp1 (by rw [List.length_set]) l1 4 (by decide)).trans (by rw [e1, hd1, ← hS]; rfl)
        have c10 : World.cell? _ ⟨gx, kk * 26 + 10, none⟩ = some (.bool Rd) := (row_cell hp2 (by rw [List.length_set, List.length_set]) l2 10 (by decide)).trans (by rw [e2, hd2, ← hRd]; rfl)
        have f1 := HFz.out (kk * 26 + 2)
        obtain ⟨cu1, hb1⟩ := own_type hp1 (g := gx) rfl
        have f2 := hb1.free (kk * 26 + 4)
        obtain ⟨cu2, hb2⟩ := own_type hp2 (g := gx) rfl
        have f3 := hb2.free (kk * 26 + 10)
        have hW : Only [] w4 (((w9.setCell ⟨gx, kk * 26 + 2, none⟩ (.int .i64 1)).setCell ⟨gx, kk * 26 + 4, none⟩ (.string ⟨#[111, 116, 104, 101, 114]⟩)).setCell ⟨gx, kk * 26 + 10, none⟩ (.bool false)) := HK8.out.trans (((HO9.out.setCell (.inr hgx) _).setCell (.inr hgx) _).setCell (.inr hgx) _)
        have HW := Lib.hid hW
        obtain ⟨A', c', e', _, _, hel⟩ := ((Slc.of_own HL.out.rowD).1.only0 hW).openE DoneV.cells (fun _ => rfl)
        injection e' with e'
        subst e'
        obtain ⟨b, off, rfl, hbb, hcc⟩ := hel kk hkl
        have cd4 : World.cell? _ ⟨b, off + kk * 26 + 4, none⟩ = some (.string S) := (hcc 4 (by decide)).trans (by rw [← hS]; rfl)
        have hk1 : (kk : Int) < ds.length := by omega
        have hk0 : (kk : Int) ≥ 0 := by omega
        by_cases hs : S.toList = [111, 116, 104, 101, 114]
        · have hs1 : (S.toList == [111, 116, 104, 101, 114]) = true := by rw [hs]; rfl
          have hs2 : (S.toList == ByteArray.toList ⟨#[111, 116, 104, 101, 114]⟩) = true := by rw [hs, ByteArray.toList_eq]; rfl
          clear hp1 hp2 hp3 hb1 hb2 hW hd1 hd2 hd3 e1 e2 l1 l2 hP hRd hS hel hcc hs
          go_wp2_with (rw [hm])
          go_ret
          exact ⟨rfl, HO4.out.trans HW.out⟩
        · have hs1 : (S.toList == [111, 116, 104, 101, 114]) = false := by rw [beq_eq_false_iff_ne]; exact hs
          have hs2 : (S.toList == ByteArray.toList ⟨#[111, 116, 104, 101, 114]⟩) = false := by
            have e : ByteArray.toList ⟨#[111, 116, 104, 101, 114]⟩ = [111, 116, 104, 101, 114] := by rw [ByteArray.toList_eq]
            rw [e]
            exact hs1
          have dk := HL.out.dones hW ds[kk] (List.getElem_mem hkl)
          have HE := ex_set HL.out hk20 hW hkl hd20 d3 hp3 (by rw [hd3]; exact ⟨dk.ev, dk.few, (show (5 : Nat) ≤ maxLen by unfold maxLen; decide), dk.pg, dk.pfew⟩)
          have hlen := HL.out.lay.len
          obtain ⟨tt, hct⟩ := HL.out.cmd kk hkl (by omega)
          rw [explainF_false (HL.out.lay.sp7 hkl (d' := d3) hct (by rw [hS]; exact hs) (by rw [hd3]) (by rw [hd3]) (by rw [hd3, ByteArray.toList_eq]))] at HE
          replace HE := Lib.hid HE
          clear hp1 hp2 hp3 hb1 hb2 hW hd1 hd2 hd3 e1 e2 l1 l2 hP hRd hS hel hcc hs dk hlen hct
          go_wp2_with (rw [hm])
          refine HE.out.mono ?_
          rintro e w10 ⟨rfl, k10⟩
          go_wp2_with fail
          go_ret
          exact ⟨rfl, HO4.out.trans (HW.out.trans k10)⟩
      · go_wp2_with fail
        go_ret
        exact ⟨rfl, HO4.out.trans HK8.out⟩
    · obtain ⟨i, hij⟩ : ∃ i : Nat, j = i + 1 := ⟨j - 1, by omega⟩
      subst hij
      have hiv : ((i + 1 : Nat) : Int) - 1 = (i : Int) := by omega
      rw [hiv]
      have hlt : i < ds.length := by omega
      obtain ⟨b, off, rfl, hbb, hcc⟩ := HDs.out i hlt
      obtain ⟨d, hd⟩ : ∃ d, d = ds[i] := ⟨_, rfl⟩
      have hdm : d ∈ ds := by rw [hd]; exact List.getElem_mem hlt
      rw [← hd] at hcc
      have hdo := HDok.out wr hO.out d hdm
      obtain ⟨Ax, capx, hvd, _, _, _⟩ := hdo.ev.openE EventR.cells (fun _ => rfl)
      obtain ⟨Ap, capp, hvp, _, _, _⟩ := hdo.pg.openE StoredR.cells (fun _ => rfl)
      have hcd : d.cells = [.int .i64 d.nd, .int .i64 d.id, .int .i64 d.req.x.c.kind, .int .i64 d.req.x.c.time, .string d.req.x.c.stream, .int .i64 d.req.x.c.expected, .slice Ax d.req.x.c.events.length capx, .int .i64 d.req.x.c.mt.maxCount, .int .i64 d.req.x.c.mt.maxAge, .int .i64 d.req.x.c.mt.before, .bool d.req.read, .bool d.req.all, .int .i64 d.req.fr, .int .i64 d.req.n, .bool d.req.back, .int .i64 d.rid, .int .i64 d.place, .int .i64 d.ans.err, .int .i64 d.ans.version, .int .i64 d.ans.position, .bool d.ans.again, .slice Ap d.pg.events.length capp, .int .i64 d.pg.next, .bool d.pg.isEnd, .int .i64 d.asked, .int .i64 d.answered] := by rw [← hvd, ← hvp]; rfl
      have HR := Lib.hid (show ∀ r, r < 26 → wr.cell? ⟨b, off + i * 26 + r, none⟩ = [.int .i64 d.nd, .int .i64 d.id, .int .i64 d.req.x.c.kind, .int .i64 d.req.x.c.time, .string d.req.x.c.stream, .int .i64 d.req.x.c.expected, .slice Ax d.req.x.c.events.length capx, .int .i64 d.req.x.c.mt.maxCount, .int .i64 d.req.x.c.mt.maxAge, .int .i64 d.req.x.c.mt.before, .bool d.req.read, .bool d.req.all, .int .i64 d.req.fr, .int .i64 d.req.n, .bool d.req.back, .int .i64 d.rid, .int .i64 d.place, .int .i64 d.ans.err, .int .i64 d.ans.version, .int .i64 d.ans.position, .bool d.ans.again, .slice Ap d.pg.events.length capp, .int .i64 d.pg.next, .bool d.pg.isEnd, .int .i64 d.asked, .int .i64 d.answered][r]? from fun r hr => by rw [hO.out.cell hbb (by simp), hcc r hr, hcd])
      have hdr : (ds.drop i).reverse = (ds.drop (i + 1)).reverse ++ [d] := by rw [List.drop_eq_getElem_cons hlt, List.reverse_cons, ← hd]
      have hn : ds.length - (i + 1) + 1 = ds.length - i := by omega
      obtain ⟨n, hnn⟩ : ∃ n, ds.length - (i + 1) = n := ⟨_, rfl⟩
      have hrw := hRow.out
      rw [hnn] at hn hrw ⊢
      have hzw := hO.out.size
      have hr4 := hrw.alloc (.cells #[.int .i64 d.nd, .int .i64 d.id, .int .i64 d.req.x.c.kind, .int .i64 d.req.x.c.time, .string d.req.x.c.stream, .int .i64 d.req.x.c.expected, .slice Ax d.req.x.c.events.length capx, .int .i64 d.req.x.c.mt.maxCount, .int .i64 d.req.x.c.mt.maxAge, .int .i64 d.req.x.c.mt.before, .bool d.req.read, .bool d.req.all, .int .i64 d.req.fr, .int .i64 d.req.n, .bool d.req.back, .int .i64 d.rid, .int .i64 d.place, .int .i64 d.ans.err, .int .i64 d.ans.version, .int .i64 d.ans.position, .bool d.ans.again, .slice Ap d.pg.events.length capp, .int .i64 d.pg.next, .bool d.pg.isEnd, .int .i64 d.asked, .int .i64 d.answered] 61)
      have hrl := fun g hg => World.ownsRow.lt hr4 g hg
      obtain ⟨A3, cap3, w7, hrun, hown, hO7, hfr⟩ := run_app (P := Tryz.prog) 50 50 w5.heap.size 61 (.agg #[.int .i64 0, .int .i64 0, .int .i64 0, .int .i64 0, .string ⟨#[]⟩, .int .i64 0, .slice none 0 0, .int .i64 0, .int .i64 0, .int .i64 0, .bool false, .bool false, .int .i64 0, .int .i64 0, .bool false, .int .i64 0, .int .i64 0, .int .i64 0, .int .i64 0, .int .i64 0, .bool false, .slice none 0 0, .int .i64 0, .bool false, .int .i64 0, .int .i64 0]) 26 240 Tryz.underlying50 infoDn rfl (by decide) hr4 (slc_new1 (w := wr) (e := 61) (size := 26) (cs := [.int .i64 d.nd, .int .i64 d.id, .int .i64 d.req.x.c.kind, .int .i64 d.req.x.c.time, .string d.req.x.c.stream, .int .i64 d.req.x.c.expected, .slice Ax d.req.x.c.events.length capx, .int .i64 d.req.x.c.mt.maxCount, .int .i64 d.req.x.c.mt.maxAge, .int .i64 d.req.x.c.mt.before, .bool d.req.read, .bool d.req.all, .int .i64 d.req.fr, .int .i64 d.req.n, .bool d.req.back, .int .i64 d.rid, .int .i64 d.place, .int .i64 d.ans.err, .int .i64 d.ans.version, .int .i64 d.ans.position, .bool d.ans.again, .slice Ap d.pg.events.length capp, .int .i64 d.pg.next, .bool d.pg.isEnd, .int .i64 d.asked, .int .i64 d.answered]) rfl) (by simp [Value.oneCell']) (by omega) (by unfold maxLen; omega) (by simp; omega)
      have HRow7 := Lib.hid (show w7.ownsRow w5.heap.size 61 26 (.slice A3 (n + 1) cap3) (ds.length - i) ((ds.drop i).reverse.flatMap DoneV.cells) from by
        rw [hdr, List.flatMap_append, ← hn, show List.flatMap DoneV.cells [d] = [.int .i64 d.nd, .int .i64 d.id, .int .i64 d.req.x.c.kind, .int .i64 d.req.x.c.time, .string d.req.x.c.stream, .int .i64 d.req.x.c.expected, .slice Ax d.req.x.c.events.length capx, .int .i64 d.req.x.c.mt.maxCount, .int .i64 d.req.x.c.mt.maxAge, .int .i64 d.req.x.c.mt.before, .bool d.req.read, .bool d.req.all, .int .i64 d.req.fr, .int .i64 d.req.n, .bool d.req.back, .int .i64 d.rid, .int .i64 d.place, .int .i64 d.ans.err, .int .i64 d.ans.version, .int .i64 d.ans.position, .bool d.ans.again, .slice Ap d.pg.events.length capp, .int .i64 d.pg.next, .bool d.pg.isEnd, .int .i64 d.asked, .int .i64 d.answered] from by simp [hcd]]
        exact hown)
      have HO7 := Lib.hid (show Only [] w5 w7 from (hO.out.alloc _).step hO7 (fun x hx => .inr (hrl x (by simpa using hx)).1))
      have HRun := Lib.hid hrun
      have e9 := IntWalk.i64_in ((i : Int) - 1) ⟨by omega, by omega⟩
      have hi1 : (i : Int) < ds.length := by omega
      have hi0 : (i : Int) ≥ 0 := by omega
      clear hrun hown hO7 hfr hr4 hrl hcd hvd hvp hdo hd hdr hcc hRow hrw hzw hn hO hiv h0 hnn
      go_wp2_with (first
        | (refine wpList_load_row2 rfl 61 (.tmp 56) rfl b (off + i * 26) rfl 26 [.int .i64 d.nd, .int .i64 d.id, .int .i64 d.req.x.c.kind, .int .i64 d.req.x.c.time, .string d.req.x.c.stream, .int .i64 d.req.x.c.expected, .slice Ax d.req.x.c.events.length capx, .int .i64 d.req.x.c.mt.maxCount, .int .i64 d.req.x.c.mt.maxAge, .int .i64 d.req.x.c.mt.before, .bool d.req.read, .bool d.req.all, .int .i64 d.req.fr, .int .i64 d.req.n, .bool d.req.back, .int .i64 d.rid, .int .i64 d.place, .int .i64 d.ans.err, .int .i64 d.ans.version, .int .i64 d.ans.position, .bool d.ans.again, .slice Ap d.pg.events.length capp, .int .i64 d.pg.next, .bool d.pg.isEnd, .int .i64 d.asked, .int .i64 d.answered] rfl HR.out Tryz.underlying61 rfl (by kernel_rfl) ?_)
        | (at_builtin; refine Lib.wpList_append_run _ rfl (.tmp 53) (.tmp 58) 50 50 rfl _ _ rfl rfl _ _ HRun.out ?_))
      exact ⟨⟨i, _, by omega, rfl, by simp, HRow7, HO7⟩, by first | (simp [intOf]; done) | (simp [intOf]; omega)⟩
end
end
section
open Go Go.RowKit Go.Sort
theorem auditExplainsW (v1 : Value) (l : List ReqV) (v2 : Value) (ts : List Int) (how : Int) (hh : (Lit.int .i64 how).wf = true) (at_ : Int) (ha : (Lit.int .i64 at_).wf = true) (to_ : Int) (ht : (Lit.int .i64 to_).wf = true) (W : World) (hT : J.Tab W)
    (x0 : Slc W 13 v1 l.length (l.flatMap ReqV.cells)) (y0 : ∀ o ∈ l, o.Ok W ∧ o.cells.length = 13) (z0 : ∀ g, v1.ownBlock = some g → g < W.heap.size ∨ l = [])
    (x1 : Slc W 1 v2 ts.length (ints ts)) (y1 : ∀ z ∈ ts, (Lit.int .i64 z).wf = true) (z1 : ∀ g, v2.ownBlock = some g → g < W.heap.size ∨ ts = []) :
    Calls Tryz.prog 4 #[v1, v2, .int .i64 how, .int .i64 at_, .int .i64 to_] W fun e W' => e = .returned (.bool true) ∧ Only [] W W' :=
  explains_go hT (ReqsAt.of x0 y0 z0) x1 y1
end
end Go.Proofs.YteinoiicnmemhaaGreatDoor
