/- Proved here: contracts of functions and plain laws, part 50 of one proof. Conditions: each theorem names its own. -/
import Derived.Test.YteinoiicnmemhaaGreatDoorZ9
import Derived.Test.YteinoiicnmemhaaGreatDoorZ24
import Derived.Test.YteinoiicnmemhaaGreatDoorZ49
set_option linter.unusedSimpArgs false
set_option linter.unusedVariables false
namespace Go.Proofs.YteinoiicnmemhaaGreatDoor
section
open Go.RowKit Go Go.Sort
theorem infoEnL : (Tryz.prog.info? 43).map (fun i => (i.zero, i.size, i.bytes)) = some (some (.agg #[.int .i64 0, .int .i64 0, .int .i64 0, .string ⟨#[]⟩, .int .i64 0, .slice none 0 0, .int .i64 0, .int .i64 0, .int .i64 0]), 9, 96) := by kernel_rfl
theorem samePQ_self (p : PageR) : samePQ p p = true := by simp [samePQ, sameLQ_refl]
theorem right_self (s : MS) (q : ReqV) (t : Int) {d : DoneV} (h1 : d.req = q) (h2 : d.ans = q.ans s t) (h3 : d.pg = q.page s t) : rightF (s.do (q.cmd t)).2 (q.cmd t) (s.do (q.cmd t)).1 d = true := by
  unfold rightF
  rw [h1, h2, h3]
  cases hr : q.read with
  | true =>
    rw [if_pos rfl]
    have e1 : q.ans s t = { (s.do (q.cmd t)).1 with err := (readQ (s.do (q.cmd t)).2 q).2 } := by unfold ReqV.ans; rw [hr]; rfl
    have e2 : q.page s t = (readQ (s.do (q.cmd t)).2 q).1 := by unfold ReqV.page; rw [hr]; rfl
    rw [e1, e2, samePQ_self]
    have e3 : (q.cmd t).kind = 4 := by unfold ReqV.cmd; rw [hr]; rfl
    rw [e3]
    simp
  | false =>
    rw [if_neg (by simp)]
    have e1 : q.ans s t = (s.do (q.cmd t)).1 := by unfold ReqV.ans; rw [hr]; rfl
    rw [e1]
    have e3 : q.cmd t = { q.x.c with time := clampT t } := by unfold ReqV.cmd; rw [hr]; rfl
    rw [e3]
    simp [sameC0, sameCQ, sameELQ_refl]
theorem page_few {s : MS} {N : Nat} (hi : s.Inv) (h2 : s.Inv2) (ho : s.Ok N) (hN : N ≤ 1000) (q : ReqV) (t : Int) : (q.page s t).events.length ≤ 1000000 := by
  unfold ReqV.page
  split
  · have := readQ_few (q := q) (inv_do hi (q.cmd t)) (inv2_do hi h2 (q.cmd t))
    have h3 := (MS.do_ok ho (q.cmd t)).all
    omega
  · simp [PageR.zero]
/-- What the call and its boxes leave. -/
def LyE (a W0 : World) (H : List Nat) (rb : Nat) (r' : RS) (an : Ans) (pg : PageR) (ba bb : Nat) (W : World) : Prop :=
  ∃ A cp H', HasD a W H' rb r' ∧ Stepped W0 W H H' ∧ W.ownsRow W0.heap.size 92 8 (.slice A pg.events.length cp) pg.events.length (pg.events.flatMap StoredR.cells) ∧ (∀ g, (Value.slice A pg.events.length cp).ownBlock = some g → g ∉ H') ∧
    Blk W ba 34 #[.int .i64 an.err, .int .i64 an.version, .int .i64 an.position, .bool an.again] ∧ Blk W bb 57 #[.slice A pg.events.length cp, .int .i64 pg.next, .bool pg.isEnd]
theorem andL1023 (n : Int) : bits .and .i64 n 1023 = n % 1024 := by
  have h : (BitVec.ofInt 64 1023).toNat = 2 ^ 10 - 1 := by decide
  have key : (BitVec.ofInt 64 n &&& BitVec.ofInt 64 1023).toNat = (n % ((2 ^ 64 : Nat) : Int)).toNat % 2 ^ 10 := by
    rw [BitVec.toNat_and, BitVec.toNat_ofInt, h, Nat.and_two_pow_sub_one_eq_mod]
  show IntKind.i64.wrap ((BitVec.ofInt 64 n &&& BitVec.ofInt 64 1023).toNat : Nat) = n % 1024
  rw [key, IntKind.wrap_i64]
  omega
theorem clampT_in {t : Int} (h0 : 0 ≤ t) (h1 : t ≤ 1023) : clampT t = t := by unfold clampT; omega
section
variable {w : World} {v1 v2 : Value} {l : List ReqV} {ts : List Int}
/-- Result, wherever it is called. -/
theorem res_any {wr : World} {k : Nat} {sv dv : Value} {es : List EntV} {ds : List DoneV} {H : List Nat} {rb : Nat} {r : RS} (hL : LayAt w wr k sv dv es ds H rb r) (hk : k ≤ 20) {q : ReqV} (hq : CmdOk q.x.c ∧ Slc w 4 q.x.ev q.x.c.events.length (q.x.c.events.flatMap EventR.cells) ∧ ∀ g, q.x.ev.ownBlock = some g → g < w.heap.size ∨ q.x.c.events = [])
    (h12 : q.x.c.events.length ≤ 12) (t : Int) (W : World) (H' : List Nat) (h : HasD w W H' rb r) :
    Calls Tryz.prog 40 #[.pointer (some ⟨rb, 0, none⟩), .agg #[.int .i64 q.x.c.kind, .int .i64 q.x.c.time, .string q.x.c.stream, .int .i64 q.x.c.expected, q.x.ev, .int .i64 q.x.c.mt.maxCount, .int .i64 q.x.c.mt.maxAge, .int .i64 q.x.c.mt.before, .bool q.read, .bool q.all, .int .i64 q.fr, .int .i64 q.n, .bool q.back], .int .i64 t] W (ResOut w W H' rb (q.ans (runE MS.new es) t) (q.page (runE MS.new es) t) (r.do (q.cmd t)).2) := by
  obtain ⟨h1, h2, h3⟩ := run_inv es inv_new inv2_new MS.new_ok
  rw [Nat.zero_add] at h3
  have hf := hL.few
  cases hr : q.read with
  | false =>
    have := result_no (now := t) h hL.like h1 h3 (by omega) hr ⟨hq.1.stream, hq.1.evs⟩ h12 (hq.2.1.only0 h.only) (fun g hg => (hq.2.2 g hg).imp (fun z y => by have := h.above g y; omega) id)
    rw [hr] at this
    exact this
  | true =>
    have := result_yes (now := t) h hL.like h1 h3 (by omega) hr hq.1.stream (hq.2.1.only0 h.only)
    rw [hr] at this
    exact this
set_option maxRecDepth 100000 in
set_option maxHeartbeats 16000000 in
theorem lay_any (h1 : ReqsAt w w v1 l) (ht : Slc w 1 v2 ts.length (ints ts)) (hwf : ∀ z ∈ ts, (Lit.int .i64 z).wf = true) (hn : l.length ≤ ts.length) (hl : l.length ≤ 20) (h12 : ∀ q ∈ l, q.x.c.events.length ≤ 12) :
    Calls Tryz.prog 14 #[v1, v2] w fun e w' => ∃ sv dv es ds H rb r, e = .returned (.tuple #[sv, dv]) ∧ LayAt w w' l.length sv dv es ds H rb r := by
  obtain ⟨A, cap, rfl, hnc, hcm, hel⟩ := h1.cells
  obtain ⟨At, capt, rfl, hnt, hct, hct2⟩ := ht.openI
  unfold maxLen at hcm hct
  have H1 := Lib.hid h1
  have HE1 := Lib.hid hel
  have HTs := Lib.hid hct2
  have H12 := Lib.hid h12
  have Hwf := Lib.hid hwf
  obtain ⟨rb, hrb⟩ : ∃ rb, w.heap.size = rb := ⟨_, rfl⟩
  have HL0 := Lib.hid (show LayAt w (w.alloc (.cells #[.slice none 0 0, .slice none 0 0, .int .i64 0, .int .i64 0] 31)) 0 (.slice none 0 0) (.slice none 0 0) [] [] [rb] rb RS.new from
    ⟨docNew ((Only.refl _ _).alloc _) (by omega) (by rw [← hrb]; exact Blk.new _ _ _), likeNew, lay_nil, fun i h => by simp at h, World.ownsRow_nil _ _ _ _, World.ownsRow_nil _ _ _ _, by simp [Value.ownBlock], by simp [Value.ownBlock], by simp, by simp, by simp, Nat.le_refl _, by simp⟩)
  clear h1 ht hel hct2 h12 hwf
  go_enter Tryz.func14, Tryz.ntmps14
  go_wp2_with fail
  try rw [hrb]
  clear hrb
  go_loopw [6, 7, 9] (fun sv dv iv wr => ∃ (k : Nat) (s d : Value) (es : List EntV) (ds : List DoneV) (H : List Nat) (r : RS), k ≤ l.length ∧ sv = s ∧ dv = d ∧ iv = .int .i64 k ∧ Hid (LayAt w wr k s d es ds H rb r)) (fun _ _ iv _ => l.length - (intOf iv).toNat)
  case atStart => exact ⟨0, _, _, [], [], [rb], RS.new, Nat.zero_le _, rfl, rfl, rfl, HL0⟩
  case round =>
    obtain ⟨k, s, d, es, ds, H, r, hk, rfl, rfl, rfl, hL⟩ := hrel
    obtain ⟨Ae, ce, rfl, _, _⟩ := own_form hL.out.rowE
    obtain ⟨Ad, cd, rfl, _, _⟩ := own_form hL.out.rowD
    by_cases hlt : k < l.length
    · obtain ⟨b, off, rfl, hbb, -, hcc⟩ := HE1.out k hlt
      obtain ⟨q, hq⟩ : ∃ q, q = l[k] := ⟨_, rfl⟩
      have hqm : q ∈ l := by rw [hq]; exact List.getElem_mem hlt
      rw [← hq] at hcc
      clear hq
      have HCc := Lib.hid (fun (W : World) (hO : Only [] w W) (i : Nat) (hi : i < 13) => (hO.cell (p := ⟨b, off + k * 13 + i, none⟩) hbb (by simp)).trans (hcc i hi))
      obtain ⟨Ax, capx, hxv, hx1, hx2, _⟩ := (H1.out.cmd q hqm).2.1.openE EventR.cells (fun _ => rfl)
      have Hxv := Lib.hid hxv
      have hO := hL.out.doc.only
      have c0 : (wr).cell? ⟨b, off + k * 13, none⟩ = some (.int .i64 q.x.c.kind) := HCc.out _ hO 0 (by omega)
      have c1 : (wr).cell? ⟨b, off + k * 13 + 1, none⟩ = some (.int .i64 q.x.c.time) := HCc.out _ hO 1 (by omega)
      have c2 : (wr).cell? ⟨b, off + k * 13 + 2, none⟩ = some (.string q.x.c.stream) := HCc.out _ hO 2 (by omega)
      have c3 : (wr).cell? ⟨b, off + k * 13 + 3, none⟩ = some (.int .i64 q.x.c.expected) := HCc.out _ hO 3 (by omega)
      have c4 : (wr).cell? ⟨b, off + k * 13 + 4, none⟩ = some (.slice Ax q.x.c.events.length capx) := (HCc.out _ hO 4 (by omega)).trans (by rw [← Hxv.out]; rfl)
      have c5 : (wr).cell? ⟨b, off + k * 13 + 5, none⟩ = some (.int .i64 q.x.c.mt.maxCount) := HCc.out _ hO 5 (by omega)
      have c6 : (wr).cell? ⟨b, off + k * 13 + 6, none⟩ = some (.int .i64 q.x.c.mt.maxAge) := HCc.out _ hO 6 (by omega)
      have c7 : (wr).cell? ⟨b, off + k * 13 + 7, none⟩ = some (.int .i64 q.x.c.mt.before) := HCc.out _ hO 7 (by omega)
      have c8 : ∀ o, (wr.alloc o).cell? ⟨b, off + k * 13 + 8, none⟩ = some (.bool q.read) := fun o => HCc.out _ (hO.alloc o) 8 (by omega)
      obtain ⟨bt, offt, rfl, hbt, hctt⟩ := HTs.out k (by omega)
      obtain ⟨z, hz⟩ : ∃ z, z = ts[k] := ⟨_, rfl⟩
      have hzw := Hwf.out z (by rw [hz]; exact List.getElem_mem _)
      rw [← hz] at hctt
      have t0 : ∀ o, (wr.alloc o).cell? ⟨bt, offt + k, none⟩ = some (.int .i64 z) := fun o => ((hO.alloc o).cell hbt (by simp)).trans hctt
      have hkt : (k : Int) < ts.length := by omega
      have Hct := Lib.hid hctt
      clear hz hctt
      obtain ⟨T, hT⟩ : ∃ T, bits .and .i64 z 1023 = T := ⟨_, rfl⟩
      have hT0 : 0 ≤ T ∧ T ≤ 1023 := by rw [← hT, andL1023]; omega
      have HRes := Lib.hid (fun (W : World) (H' : List Nat) (h : HasD w W H' rb r) => res_any hL.out (by omega) (H1.out.cmd q hqm) (H12.out q hqm) T W H' h)
      rw [hxv] at HRes
      have hcmd := H1.out.cmd q hqm
      rw [hxv] at hcmd
      have HCm := Lib.hid hcmd
      clear hcmd hxv
      cases hr : q.read
      · rw [hr] at c8 HRes
        have HCk := Lib.hid (fun (W : World) (kW : Only [] w W) => show Calls Tryz.prog 25 #[.agg #[.int .i64 q.x.c.kind, .int .i64 q.x.c.time, .string q.x.c.stream, .int .i64 q.x.c.expected, .slice Ax q.x.c.events.length capx, .int .i64 q.x.c.mt.maxCount, .int .i64 q.x.c.mt.maxAge, .int .i64 q.x.c.mt.before]] W fun e w' => e = .returned (.int .i64 q.x.c.check) ∧ Only [] W w' from
          r7check_any q.x.c (.slice Ax q.x.c.events.length capx) W (HCm.out.2.1.only0 kW) HCm.out.1)
        have t1 : ∀ W, Only [] w W → W.cell? ⟨bt, offt + k, none⟩ = some (.int .i64 z) := fun W kW => (kW.cell hbt (by simp)).trans Hct.out
        by_cases hck : q.x.c.check = 0
        · have hckb : (q.x.c.check != 0) = false := by rw [hck]; rfl
          have Hck := Lib.hid hck
          clear hck t0
          go_upto_region 12 with (go_at_call 25
                                  refine (HCk.out _ (hO.alloc _)).mono ?_
                                  rintro e w1 ⟨rfl, ho1⟩
                                  have tt := t1 w1 ((hO.alloc _).trans ho1)
                                  have bc1 := ho1.blk (Blk.new wr 40 _) (by simp)
                                  have gc1 := fun i => bc1.cell i
                                  have fc1 := fun i => bc1.free i)
          have bc : Blk _ _ 40 #[.int .i64 q.x.c.kind, .int .i64 T, .string q.x.c.stream, .int .i64 q.x.c.expected, .slice Ax q.x.c.events.length capx, .int .i64 q.x.c.mt.maxCount, .int .i64 q.x.c.mt.maxAge, .int .i64 q.x.c.mt.before] := bc1.set 1 (.int .i64 T)
          have kc := (((Only.refl [] wr).alloc _).trans ho1).setCell (p := ⟨wr.heap.size, 1, none⟩) (.inr (Nat.le_refl _)) (.int .i64 T)
          obtain ⟨cb, hcb⟩ : ∃ cb, wr.heap.size = cb := ⟨_, rfl⟩
          have hcH : cb ∉ H := fun q => by have := hL.out.doc.lt cb q; omega
          obtain ⟨W0, hW0⟩ : ∃ W0, w1.setCell ⟨wr.heap.size, 1, none⟩ (.int .i64 T) = W0 := ⟨_, rfl⟩
          rw [hW0] at kc bc
          rw [hcb] at bc
          try rw [hW0]
          try rw [hcb]
          have Hrd := Lib.hid hr
          have HCmd := Lib.hid (show q.cmd T = { q.x.c with time := T } from by unfold ReqV.cmd; rw [hr, clampT_in hT0.1 hT0.2]; rfl)
          clear hW0 hcb c0 c1 c2 c3 c4 c5 c6 c7 c8 hr tt bc1 gc1 fc1 ho1 t1 hckb HCk
          have HL0 := Lib.hid (hL.out.grow kc)
          have hHE := Lib.hid (show ∀ g ∈ H, w.heap.size ≤ g ∧ g ∉ [cb] from fun g hg => ⟨hL.out.doc.above g hg, fun y => by simp at y; subst y; exact hcH hg⟩)
          have hO0 := hL.out.doc.only.trans kc
          have k0 := Kept.cell (a := w) (R := [cb]) (show W0.cell? ⟨b, off + k * 13, none⟩ = some (.int .i64 q.x.c.kind) from HCc.out _ hO0 0 (by omega)) (.inl hbb)
          have k1 := Kept.cell (a := w) (R := [cb]) (show W0.cell? ⟨b, off + k * 13 + 1, none⟩ = some (.int .i64 q.x.c.time) from HCc.out _ hO0 1 (by omega)) (.inl hbb)
          have k2 := Kept.cell (a := w) (R := [cb]) (show W0.cell? ⟨b, off + k * 13 + 2, none⟩ = some (.string q.x.c.stream) from HCc.out _ hO0 2 (by omega)) (.inl hbb)
          have k3 := Kept.cell (a := w) (R := [cb]) (show W0.cell? ⟨b, off + k * 13 + 3, none⟩ = some (.int .i64 q.x.c.expected) from HCc.out _ hO0 3 (by omega)) (.inl hbb)
          have k4 := Kept.cell (a := w) (R := [cb]) (show W0.cell? ⟨b, off + k * 13 + 4, none⟩ = some (.slice Ax q.x.c.events.length capx) from (HCc.out _ hO0 4 (by omega)).trans (by rw [← Hxv.out]; rfl)) (.inl hbb)
          have k5 := Kept.cell (a := w) (R := [cb]) (show W0.cell? ⟨b, off + k * 13 + 5, none⟩ = some (.int .i64 q.x.c.mt.maxCount) from HCc.out _ hO0 5 (by omega)) (.inl hbb)
          have k6 := Kept.cell (a := w) (R := [cb]) (show W0.cell? ⟨b, off + k * 13 + 6, none⟩ = some (.int .i64 q.x.c.mt.maxAge) from HCc.out _ hO0 6 (by omega)) (.inl hbb)
          have k7 := Kept.cell (a := w) (R := [cb]) (show W0.cell? ⟨b, off + k * 13 + 7, none⟩ = some (.int .i64 q.x.c.mt.before) from HCc.out _ hO0 7 (by omega)) (.inl hbb)
          have k8 := Kept.cell (a := w) (R := [cb]) (show W0.cell? ⟨b, off + k * 13 + 8, none⟩ = some (.bool false) from (HCc.out _ hO0 8 (by omega)).trans (by rw [← Hrd.out]; rfl)) (.inl hbb)
          have k9 := Kept.cell (a := w) (R := [cb]) (show W0.cell? ⟨b, off + k * 13 + 9, none⟩ = some (.bool q.all) from HCc.out _ hO0 9 (by omega)) (.inl hbb)
          have k10 := Kept.cell (a := w) (R := [cb]) (show W0.cell? ⟨b, off + k * 13 + 10, none⟩ = some (.int .i64 q.fr) from HCc.out _ hO0 10 (by omega)) (.inl hbb)
          have k11 := Kept.cell (a := w) (R := [cb]) (show W0.cell? ⟨b, off + k * 13 + 11, none⟩ = some (.int .i64 q.n) from HCc.out _ hO0 11 (by omega)) (.inl hbb)
          have k12 := Kept.cell (a := w) (R := [cb]) (show W0.cell? ⟨b, off + k * 13 + 12, none⟩ = some (.bool q.back) from HCc.out _ hO0 12 (by omega)) (.inl hbb)
          have kt := Kept.cell (a := w) (R := [cb]) (show W0.cell? ⟨cb, 1, none⟩ = some (.int .i64 T) from bc.cell 1) (.inr (by simp))
          obtain ⟨an, han⟩ : ∃ an, q.ans (runE MS.new es) T = an := ⟨_, rfl⟩
          obtain ⟨pg, hpg⟩ : ∃ pg, q.page (runE MS.new es) T = pg := ⟨_, rfl⟩
          obtain ⟨r2, hr2⟩ : ∃ r2, (r.do (q.cmd T)).2 = r2 := ⟨_, rfl⟩
          rw [han, hpg, hr2] at HRes
          have HAn := Lib.hid han
          have HPg := Lib.hid hpg
          have HR2 := Lib.hid hr2
          clear han hpg hr2
          go_cut [11, 12] (fun s11 s12 wx => ∃ ba bb : Nat, s11 = .pointer (some ⟨ba, 0, none⟩) ∧ s12 = .pointer (some ⟨bb, 0, none⟩) ∧ Hid (LyE w W0 H rb r2 an pg ba bb wx))
          case first =>
            as_aux_lemma =>
              refine wp_region_inv2 (C := fun W => ∃ p : Kept w [cb] W0, W = p.W) [0, 1, 2, 3, 4, 5, 6] [7, 8, 9, 10, 11, 12, 13, 14] (by kernel_rfl) (by kernel_rfl) (by intro c d u a w h; cases d <;> exact h) ⟨⟨_, (Keeps.refl _ _ _).drew⟩, rfl⟩ ?_
              show wpQuiet _ _ _ _ [_, _, _, _, _, _, _] _
              repeat (go_big_quiet_step (fail))
              refine wpQuiet_nil ?_
              clear k0 k1 k2 k3 k4 k5 k6 k7 k8 k9 k10 k11 k12 kt
              refine inv_intro_l (LyI w W0 H rb r r2 an pg) ?_ ?_ ?_
              · refine ⟨u49, u41, u50, u51, u11, u12, none, 0, H, rfl, HL0.out.doc.keep0 (Only.refl _ _).drew, (Stepped.refl _ _).then0 (Only.refl _ _).drew, ?_, ?_, ?_, ?_, ?_, ?_, ?_, ?_, ?_, ?_, ?_, ?_⟩
                all_goals (intro q; exfalso; revert q; decide)
              · intro i2 hi listed ac W hr2 hI K HK
                obtain ⟨v49, v41, v50, v51, v11, v12, A, cp, H', rfl, hD⟩ := hI
                simp only [List.mem_cons, List.not_mem_nil, or_false] at hi
                unfold LyI at HK
                rcases hi with rfl | rfl | rfl | rfl | rfl | rfl | rfl | rfl
                · have hself := ready_self hr2
                  have hset := flag_set hself.2
                  rw [hself.1] at hD
                  have hk := HK.out
                  rw [hset 7, hset 8, hset 9, hset 10, hset 11, hset 12, hset 13, hset 14] at hk
                  have HR := Lib.hid (HRes.out W H' hD.doc)
                  have HKk := Lib.hid hk
                  have HDD := Lib.hid hD
                  clear hk HK hD hself hset
                  show wpList _ _ _ [_] _ _
                  go_frame
                  go_wp2_with (go_at_call 40; refine HR.out.mono ?_; rintro e W' ⟨A', cp', rfl, H2, hd, hst, hrow, hg⟩)
                  have hD' := HDD.out.step7 hd hst hrow hg
                  exact check_kept (hD'.kept hHE.out) (HKk.out _ _ ⟨_, v41, v50, v51, v11, v12, A', cp', H2, rfl, hD'⟩)
                · have g7 := ready_dep hr2 7 (by kernel_rfl)
                  have hself := ready_self hr2
                  have hset := flag_set hself.2
                  rw [hself.1] at hD
                  have hk := HK.out
                  rw [hset 7, hset 8, hset 9, hset 10, hset 11, hset 12, hset 13, hset 14] at hk
                  rw [g7] at hD hk
                  obtain rfl := hD.h7 rfl
                  have HKk := Lib.hid hk
                  have HDD := Lib.hid hD.step8
                  clear hk HK hD hself hset
                  show wpList _ _ _ [_] _ _
                  go_frame
                  go_wp2_with fail
                  exact check_kept (HDD.out.kept hHE.out) (HKk.out _ _ ⟨_, _, v50, v51, v11, v12, A, cp, H', rfl, HDD.out⟩)
                · have g8 := ready_dep hr2 8 (by kernel_rfl)
                  have hself := ready_self hr2
                  have hset := flag_set hself.2
                  rw [hself.1] at hD
                  have hk := HK.out
                  rw [hset 7, hset 8, hset 9, hset 10, hset 11, hset 12, hset 13, hset 14] at hk
                  rw [g8] at hD hk
                  have g7 := hD.d8 rfl
                  rw [g7] at hD hk
                  obtain rfl := hD.h8 rfl
                  have HKk := Lib.hid hk
                  have HDD := Lib.hid hD.step9
                  clear hk HK hD hself hset
                  show wpList _ _ _ [_] _ _
                  go_frame
                  go_wp2_with fail
                  exact check_kept (HDD.out.kept hHE.out) (HKk.out _ _ ⟨v49, _, _, v51, v11, v12, A, cp, H', rfl, HDD.out⟩)
                · have g8 := ready_dep hr2 8 (by kernel_rfl)
                  have hself := ready_self hr2
                  have hset := flag_set hself.2
                  rw [hself.1] at hD
                  have hk := HK.out
                  rw [hset 7, hset 8, hset 9, hset 10, hset 11, hset 12, hset 13, hset 14] at hk
                  rw [g8] at hD hk
                  have g7 := hD.d8 rfl
                  rw [g7] at hD hk
                  obtain rfl := hD.h8 rfl
                  have HKk := Lib.hid hk
                  have HDD := Lib.hid hD.step10
                  clear hk HK hD hself hset
                  show wpList _ _ _ [_] _ _
                  go_frame
                  go_wp2_with fail
                  exact check_kept (HDD.out.kept hHE.out) (HKk.out _ _ ⟨v49, _, v50, _, v11, v12, A, cp, H', rfl, HDD.out⟩)
                · have hself := ready_self hr2
                  have hset := flag_set hself.2
                  rw [hself.1] at hD
                  have hk := HK.out
                  rw [hset 7, hset 8, hset 9, hset 10, hset 11, hset 12, hset 13, hset 14] at hk
                  have HKk := Lib.hid hk
                  have HDD := Lib.hid hD.step11
                  clear hk HK hD hself hset
                  show wpList _ _ _ [_] _ _
                  go_frame
                  go_wp2_with fail
                  exact check_kept (HDD.out.kept hHE.out) (HKk.out _ _ ⟨v49, v41, v50, v51, _, v12, A, cp, H', rfl, HDD.out⟩)
                · have hself := ready_self hr2
                  have hset := flag_set hself.2
                  rw [hself.1] at hD
                  have hk := HK.out
                  rw [hset 7, hset 8, hset 9, hset 10, hset 11, hset 12, hset 13, hset 14] at hk
                  have HKk := Lib.hid hk
                  have HDD := Lib.hid hD.step12
                  clear hk HK hD hself hset
                  show wpList _ _ _ [_] _ _
                  go_frame
                  go_wp2_with fail
                  exact check_kept (HDD.out.kept hHE.out) (HKk.out _ _ ⟨v49, v41, v50, v51, v11, _, A, cp, H', rfl, HDD.out⟩)
                · have g7 := ready_dep hr2 7 (by kernel_rfl)
                  have g8 := ready_dep hr2 8 (by kernel_rfl)
                  have g9 := ready_dep hr2 9 (by kernel_rfl)
                  have g11 := ready_dep hr2 11 (by kernel_rfl)
                  have g12 := ready_dep hr2 12 (by kernel_rfl)
                  have hself := ready_self hr2
                  have hset := flag_set hself.2
                  rw [hself.1] at hD
                  have hk := HK.out
                  rw [hset 7, hset 8, hset 9, hset 10, hset 11, hset 12, hset 13, hset 14] at hk
                  rw [g7, g8, g9, g11, g12] at hD hk
                  obtain ⟨bx, rfl, q2, q3, q4⟩ := hD.h11 rfl
                  obtain rfl := hD.h9 rfl
                  have q4 : Blk W bx 34 #[.int .i64 0, .int .i64 0, .int .i64 0, .bool false] := q4
                  have HKk := Lib.hid hk
                  have HDD := Lib.hid hD
                  have d1 := fun i => q4.cell i
                  have d2 := fun i => q4.free i
                  have HO := Lib.hid (fun u v x y => ((((Only.refl [bx] W).setCell (p := ⟨bx, 0, none⟩) (.inl (by simp)) u).setCell (p := ⟨bx, 1, none⟩) (.inl (by simp)) v).setCell (p := ⟨bx, 2, none⟩) (.inl (by simp)) x).setCell (p := ⟨bx, 3, none⟩) (.inl (by simp)) y)
                  have HB := Lib.hid (fun u v x y => (((q4.set 0 u).set 1 v).set 2 x).set 3 y)
                  clear hk HK hD hself hset g7 g8 g9 g11 g12 hr2
                  unfold anV
                  show wpList _ _ _ [_] _ _
                  go_frame
                  go_wp2_with fail
                  have hD' := HDD.out.step13 HL0.out.doc.only.size (HO.out _ _ _ _) (HB.out _ _ _ _)
                  exact check_kept (hD'.kept hHE.out) (HKk.out _ _ ⟨v49, v41, _, v51, _, v12, A, cp, H', rfl, hD'⟩)
                · have g7 := ready_dep hr2 7 (by kernel_rfl)
                  have g8 := ready_dep hr2 8 (by kernel_rfl)
                  have g9 := ready_dep hr2 9 (by kernel_rfl)
                  have g10 := ready_dep hr2 10 (by kernel_rfl)
                  have g11 := ready_dep hr2 11 (by kernel_rfl)
                  have g12 := ready_dep hr2 12 (by kernel_rfl)
                  have g13 := ready_dep hr2 13 (by kernel_rfl)
                  have hself := ready_self hr2
                  have hset := flag_set hself.2
                  rw [hself.1] at hD
                  have hk := HK.out
                  rw [hset 7, hset 8, hset 9, hset 10, hset 11, hset 12, hset 13, hset 14] at hk
                  rw [g7, g8, g9, g10, g11, g12, g13] at hD hk
                  obtain ⟨bx, rfl, q2, q3, q4⟩ := hD.h12 rfl
                  obtain rfl := hD.h10 rfl
                  have q4 : Blk W bx 57 #[.slice none 0 0, .int .i64 0, .bool false] := q4
                  have HKk := Lib.hid hk
                  have HDD := Lib.hid hD
                  have d1 := fun i => q4.cell i
                  have d2 := fun i => q4.free i
                  have HO := Lib.hid (fun u v x => (((Only.refl [bx] W).setCell (p := ⟨bx, 0, none⟩) (.inl (by simp)) u).setCell (p := ⟨bx, 1, none⟩) (.inl (by simp)) v).setCell (p := ⟨bx, 2, none⟩) (.inl (by simp)) x)
                  have HB := Lib.hid (fun u v x => ((q4.set 0 u).set 1 v).set 2 x)
                  clear hk HK hD hself hset g7 g8 g9 g10 g11 g12 g13 hr2
                  unfold pgV
                  show wpList _ _ _ [_] _ _
                  go_frame
                  go_wp2_with fail
                  have hD' := HDD.out.step14 HL0.out.doc.only.size (HO.out _ _ _) (HB.out _ _ _)
                  exact check_kept (hD'.kept hHE.out) (HKk.out _ _ ⟨v49, v41, v50, _, v11, _, A, cp, H', rfl, hD'⟩)
              · intro listed ac W hI hall
                obtain ⟨v49, v41, v50, v51, v11, v12, A, cp, H', rfl, hD⟩ := hI
                rw [hall 7 (by simp), hall 8 (by simp), hall 9 (by simp), hall 10 (by simp), hall 11 (by simp), hall 12 (by simp), hall 13 (by simp), hall 14 (by simp)] at hD
                obtain ⟨ba, rfl, p2, p3, p4⟩ := hD.h11 rfl
                obtain ⟨bb, rfl, q2, q3, q4⟩ := hD.h12 rfl
                have HF := Lib.hid (show LyE w W0 H rb r2 an pg ba bb W from ⟨A, cp, H', hD.doc, hD.stp, (hD.row rfl).1, (hD.row rfl).2, p4, q4⟩)
                clear hD p2 p3 p4 q2 q3 q4 hall
                go_frame
                go_wp2_with fail
                go_meet
                exact ⟨ba, bb, rfl, rfl, HF⟩
          case rest =>
            rename World => we
            obtain ⟨ba, bb, rfl, rfl, hE⟩ := hcut
            obtain ⟨A3, cp, H2, hd2, st2, hrow2, hng, hba, hbb2⟩ := hE.out
            have st := st2.first0 kc
            have hrows := hL.out.rows st
            have hOe := hd2.only
            have bce := (st2.keepB bc hcH).1
            have hAdT : ∀ g, (Value.slice Ad ds.length cd).ownBlock = some g → ∃ cur, Blk we g 61 cur := fun g hg => own_type hrows.2.1.1 hg
            obtain ⟨S, hS⟩ : ∃ S : List Nat, S = (Value.slice Ad ds.length cd).ownBlock.toList := ⟨_, rfl⟩
            have hSb : ∀ {x : Nat} {t : TypeId} {cs : Array Value}, Blk we x t cs → t ≠ 61 → x ∉ S := fun hx ht z => by
              rw [hS] at z
              obtain ⟨cur, hc⟩ := hAdT _ (by simpa using z)
              exact ht (blk_tyL hx hc)
            have hbS : b ∉ S := fun z => by
              rw [hS] at z
              have := (World.ownsRow.lt hrows.2.1.1 b (by simpa using z)).1
              omega
            have k0 := Within.cell (S := S) (show we.cell? ⟨b, off + k * 13, none⟩ = some (.int .i64 q.x.c.kind) from HCc.out _ hOe 0 (by omega)) hbS
            have k1 := Within.cell (S := S) (show we.cell? ⟨b, off + k * 13 + 1, none⟩ = some (.int .i64 q.x.c.time) from HCc.out _ hOe 1 (by omega)) hbS
            have k2 := Within.cell (S := S) (show we.cell? ⟨b, off + k * 13 + 2, none⟩ = some (.string q.x.c.stream) from HCc.out _ hOe 2 (by omega)) hbS
            have k3 := Within.cell (S := S) (show we.cell? ⟨b, off + k * 13 + 3, none⟩ = some (.int .i64 q.x.c.expected) from HCc.out _ hOe 3 (by omega)) hbS
            have k4 := Within.cell (S := S) (show we.cell? ⟨b, off + k * 13 + 4, none⟩ = some (.slice Ax q.x.c.events.length capx) from (HCc.out _ hOe 4 (by omega)).trans (by rw [← Hxv.out]; rfl)) hbS
            have k5 := Within.cell (S := S) (show we.cell? ⟨b, off + k * 13 + 5, none⟩ = some (.int .i64 q.x.c.mt.maxCount) from HCc.out _ hOe 5 (by omega)) hbS
            have k6 := Within.cell (S := S) (show we.cell? ⟨b, off + k * 13 + 6, none⟩ = some (.int .i64 q.x.c.mt.maxAge) from HCc.out _ hOe 6 (by omega)) hbS
            have k7 := Within.cell (S := S) (show we.cell? ⟨b, off + k * 13 + 7, none⟩ = some (.int .i64 q.x.c.mt.before) from HCc.out _ hOe 7 (by omega)) hbS
            have k8 := Within.cell (S := S) (show we.cell? ⟨b, off + k * 13 + 8, none⟩ = some (.bool false) from (HCc.out _ hOe 8 (by omega)).trans (by rw [← Hrd.out]; rfl)) hbS
            have k9 := Within.cell (S := S) (show we.cell? ⟨b, off + k * 13 + 9, none⟩ = some (.bool q.all) from HCc.out _ hOe 9 (by omega)) hbS
            have k10 := Within.cell (S := S) (show we.cell? ⟨b, off + k * 13 + 10, none⟩ = some (.int .i64 q.fr) from HCc.out _ hOe 10 (by omega)) hbS
            have k11 := Within.cell (S := S) (show we.cell? ⟨b, off + k * 13 + 11, none⟩ = some (.int .i64 q.n) from HCc.out _ hOe 11 (by omega)) hbS
            have k12 := Within.cell (S := S) (show we.cell? ⟨b, off + k * 13 + 12, none⟩ = some (.bool q.back) from HCc.out _ hOe 12 (by omega)) hbS
            have a0 := Within.cell (S := S) (show we.cell? ⟨ba, 0, none⟩ = some (.int .i64 an.err) from hba.cell 0) (hSb hba (by decide))
            have a1 := Within.cell (S := S) (show we.cell? ⟨ba, 1, none⟩ = some (.int .i64 an.version) from hba.cell 1) (hSb hba (by decide))
            have a2 := Within.cell (S := S) (show we.cell? ⟨ba, 2, none⟩ = some (.int .i64 an.position) from hba.cell 2) (hSb hba (by decide))
            have a3 := Within.cell (S := S) (show we.cell? ⟨ba, 3, none⟩ = some (.bool an.again) from hba.cell 3) (hSb hba (by decide))
            have p0 := Within.cell (S := S) (show we.cell? ⟨bb, 0, none⟩ = some (.slice A3 pg.events.length cp) from hbb2.cell 0) (hSb hbb2 (by decide))
            have p1 := Within.cell (S := S) (show we.cell? ⟨bb, 1, none⟩ = some (.int .i64 pg.next) from hbb2.cell 1) (hSb hbb2 (by decide))
            have p2 := Within.cell (S := S) (show we.cell? ⟨bb, 2, none⟩ = some (.bool pg.isEnd) from hbb2.cell 2) (hSb hbb2 (by decide))
            have e2 := IntWalk.i64_in (2 * (k : Int)) ⟨by omega, by omega⟩
            have e3 := IntWalk.i64_in (2 * (k : Int) + 1) ⟨by omega, by omega⟩
            have hzw := hOe.size
            have hfew := hL.out.few
            have hlen := hL.out.lay.len
            have hsf := stF
            have hr4 := (own_only hrows.2.1.1 (Only.refl [] we).drew (by simp)).alloc (.cells #[.int .i64 0, .int .i64 0, .int .i64 q.x.c.kind, .int .i64 q.x.c.time, .string q.x.c.stream, .int .i64 q.x.c.expected, .slice Ax q.x.c.events.length capx, .int .i64 q.x.c.mt.maxCount, .int .i64 q.x.c.mt.maxAge, .int .i64 q.x.c.mt.before, .bool false, .bool q.all, .int .i64 q.fr, .int .i64 q.n, .bool q.back, .int .i64 k, .int .i64 es.length, .int .i64 an.err, .int .i64 an.version, .int .i64 an.position, .bool an.again, .slice A3 pg.events.length cp, .int .i64 pg.next, .bool pg.isEnd, .int .i64 (2 * (k : Int)), .int .i64 (2 * (k : Int) + 1)] 61)
            obtain ⟨A5, cp5, w5, hrun, hown, hO5, hfr⟩ := run_app (P := Tryz.prog) 50 50 w.heap.size 61 (.agg #[.int .i64 0, .int .i64 0, .int .i64 0, .int .i64 0, .string ⟨#[]⟩, .int .i64 0, .slice none 0 0, .int .i64 0, .int .i64 0, .int .i64 0, .bool false, .bool false, .int .i64 0, .int .i64 0, .bool false, .int .i64 0, .int .i64 0, .int .i64 0, .int .i64 0, .int .i64 0, .bool false, .slice none 0 0, .int .i64 0, .bool false, .int .i64 0, .int .i64 0]) 26 240 Tryz.underlying50 infoDn rfl (by decide) hr4 (slc_new1 (w := we.drew) (e := 61) (size := 26) (cs := [.int .i64 0, .int .i64 0, .int .i64 q.x.c.kind, .int .i64 q.x.c.time, .string q.x.c.stream, .int .i64 q.x.c.expected, .slice Ax q.x.c.events.length capx, .int .i64 q.x.c.mt.maxCount, .int .i64 q.x.c.mt.maxAge, .int .i64 q.x.c.mt.before, .bool false, .bool q.all, .int .i64 q.fr, .int .i64 q.n, .bool q.back, .int .i64 k, .int .i64 es.length, .int .i64 an.err, .int .i64 an.version, .int .i64 an.position, .bool an.again, .slice A3 pg.events.length cp, .int .i64 pg.next, .bool pg.isEnd, .int .i64 (2 * (k : Int)), .int .i64 (2 * (k : Int) + 1)]) rfl) (by simp [Value.oneCell']) (by omega) (by unfold maxLen; omega) (by simp; omega)
            have HRun := Lib.hid hrun
            have hO5' : Only S we w5 := by rw [hS]; exact ((((Only.refl [] we).drew).alloc _).of_nil).trans hO5
            have HO5 := Lib.hid hO5'
            have bc5 := hO5'.blk bce (hSb bce (by decide))
            have hE5 := own_only hrows.1.1 hO5' (fun g hg => by
              obtain ⟨cur, hb⟩ := own_type hrows.1.1 hg
              exact hSb hb (by decide))
            have hr5 := hE5.alloc (.cells #[.int .i64 1, .int .i64 q.x.c.kind, .int .i64 T, .string q.x.c.stream, .int .i64 q.x.c.expected, .slice Ax q.x.c.events.length capx, .int .i64 q.x.c.mt.maxCount, .int .i64 q.x.c.mt.maxAge, .int .i64 q.x.c.mt.before] 43)
            have hz5 := hO5'.size
            obtain ⟨A6, cp6, w6, hrun6, hown6, hO6, hfr6⟩ := run_app (P := Tryz.prog) 41 41 w.heap.size 43 (.agg #[.int .i64 0, .int .i64 0, .int .i64 0, .string ⟨#[]⟩, .int .i64 0, .slice none 0 0, .int .i64 0, .int .i64 0, .int .i64 0]) 9 96 Tryz.underlying41 infoEnL rfl (by decide) hr5 (slc_new1 (w := w5) (e := 43) (size := 9) (cs := [.int .i64 1, .int .i64 q.x.c.kind, .int .i64 T, .string q.x.c.stream, .int .i64 q.x.c.expected, .slice Ax q.x.c.events.length capx, .int .i64 q.x.c.mt.maxCount, .int .i64 q.x.c.mt.maxAge, .int .i64 q.x.c.mt.before]) rfl) (by simp [Value.oneCell']) (by omega) (by unfold maxLen; omega) (by simp; omega)
            have HRun6 := Lib.hid hrun6
            have gc := fun i => bc5.cell i
            obtain ⟨E, hEd⟩ : ∃ E : EntV, E = ⟨1, ⟨q.cmd T, .slice Ax q.x.c.events.length capx⟩⟩ := ⟨_, rfl⟩
            obtain ⟨D, hDd⟩ : ∃ D : DoneV, D = ⟨0, 0, q, k, es.length, an, pg, .slice A3 pg.events.length cp, 2 * (k : Int), 2 * (k : Int) + 1⟩ := ⟨_, rfl⟩
            have hEc : EntV.cells E = [.int .i64 1, .int .i64 q.x.c.kind, .int .i64 T, .string q.x.c.stream, .int .i64 q.x.c.expected, .slice Ax q.x.c.events.length capx, .int .i64 q.x.c.mt.maxCount, .int .i64 q.x.c.mt.maxAge, .int .i64 q.x.c.mt.before] := by
              rw [hEd]
              unfold EntV.cells
              rw [HCmd.out]
              first | done | rfl
            have hDc : DoneV.cells D = [.int .i64 0, .int .i64 0, .int .i64 q.x.c.kind, .int .i64 q.x.c.time, .string q.x.c.stream, .int .i64 q.x.c.expected, .slice Ax q.x.c.events.length capx, .int .i64 q.x.c.mt.maxCount, .int .i64 q.x.c.mt.maxAge, .int .i64 q.x.c.mt.before, .bool false, .bool q.all, .int .i64 q.fr, .int .i64 q.n, .bool q.back, .int .i64 k, .int .i64 es.length, .int .i64 an.err, .int .i64 an.version, .int .i64 an.position, .bool an.again, .slice A3 pg.events.length cp, .int .i64 pg.next, .bool pg.isEnd, .int .i64 (2 * (k : Int)), .int .i64 (2 * (k : Int) + 1)] := by
              rw [hDd]
              unfold DoneV.cells
              rw [Hxv.out, Hrd.out]
            have HFin := Lib.hid (show LayAt w w6 (k + 1) (.slice A6 (es.length + 1) cp6) (.slice A5 (ds.length + 1) cp5) (es ++ [E]) (ds ++ [D]) H2 rb r2 from by
              obtain ⟨i1, i2, i3⟩ := run_inv es inv_new inv2_new MS.new_ok
              rw [Nat.zero_add] at i3
              have hq3 := H1.out.cmd q hqm
              have hx12 := H12.out q hqm
              refine LayAt.one (e := E) (d := D) hL.out st hd2 ?_ (w3 := w6) ?_ ?_ ?_ ?_ ?_ ?_ ?_ ?_ ?_ ?_ ?_ ?_ ?_
              · rw [hEd, ← HR2.out]
                exact hL.out.like.did i1 i3 (q.cmd T)
              · refine (hO5'.mono (fun g hg => ?_)).trans ((((Only.refl [] w5).alloc _).of_nil).trans (hO6.mono (fun g hg => List.mem_append_left _ hg)))
                rw [hS] at hg
                exact List.mem_append_right _ hg
              · rw [List.flatMap_append, show List.flatMap EntV.cells [E] = [.int .i64 1, .int .i64 q.x.c.kind, .int .i64 T, .string q.x.c.stream, .int .i64 q.x.c.expected, .slice Ax q.x.c.events.length capx, .int .i64 q.x.c.mt.maxCount, .int .i64 q.x.c.mt.maxAge, .int .i64 q.x.c.mt.before] from by simp [hEc]]
                exact hown6
              · rw [List.flatMap_append, show List.flatMap DoneV.cells [D] = [.int .i64 0, .int .i64 0, .int .i64 q.x.c.kind, .int .i64 q.x.c.time, .string q.x.c.stream, .int .i64 q.x.c.expected, .slice Ax q.x.c.events.length capx, .int .i64 q.x.c.mt.maxCount, .int .i64 q.x.c.mt.maxAge, .int .i64 q.x.c.mt.before, .bool false, .bool q.all, .int .i64 q.fr, .int .i64 q.n, .bool q.back, .int .i64 k, .int .i64 es.length, .int .i64 an.err, .int .i64 an.version, .int .i64 an.position, .bool an.again, .slice A3 pg.events.length cp, .int .i64 pg.next, .bool pg.isEnd, .int .i64 (2 * (k : Int)), .int .i64 (2 * (k : Int) + 1)] from by simp [hDc]]
                refine own_only (hown.alloc _) hO6 (fun g hg z => ?_)
                obtain ⟨c1, y1⟩ := own_type (hown.alloc _) hg
                obtain ⟨c2, y2⟩ := own_type hr5 (by simpa using z)
                exact absurd (blk_tyL y1 y2) (by decide)
              · intro g hg
                rcases hfr6 g hg with y | y
                · exact .inl y
                · simp at y
                  exact .inr (by omega)
              · intro g hg
                rcases hfr g hg with y | y
                · exact .inl y
                · simp at y
                  exact .inr (by omega)
              · rw [hDd, hlen]
              · rw [hEd]
                exact right_self _ q T (by rw [hDd]) (by rw [hDd]; exact HAn.out.symm) (by rw [hDd]; exact HPg.out.symm)
              · exact ⟨T, by rw [hEd, hDd]⟩
              · rw [hDd]
              · rw [hDd]
              · rw [hEd]
                exact ⟨by rw [HCmd.out]; exact ⟨hq3.1.stream, hq3.1.evs⟩, by rw [HCmd.out]; exact hx12, by rw [HCmd.out, ← Hxv.out]; exact hq3.2.1, by rw [HCmd.out, ← Hxv.out]; exact hq3.2.2⟩
              · rw [hDd]
                exact ⟨hq3.2.1, by show q.x.c.events.length ≤ 1000000; omega, hq3.1.stream, by show pg.events.length ≤ 1000000; rw [← HPg.out]; exact page_few i1 i2 i3 (by omega) q T⟩
              · rw [hDd]
                exact ⟨own_base hrow2 (by have := hL.out.doc.only.size; have := kc.size; omega), hng⟩)
            clear hr4 hown hO5 hfr hr5 hE5 hown6 hO6 hfr6 hrun hrun6 hEd hDd hEc hDc hrow2 hng hba hbb2 hrows hAdT hSb bc5 bce st2 hE hd2 hlen
            go_wp2_with fail
            refine wp_region_in S [0, 1, 2, 3, 4, 5, 6, 7, 8, 9, 10, 11, 12, 13, 14, 15, 16] [17, 18] [19] (by kernel_rfl) (by kernel_rfl) (by intro c d u a w h; cases d <;> exact h) ?_
            show wpQuiet _ _ _ _ [_, _, _, _, _, _, _, _, _, _, _, _, _, _, _, _, _] _
            repeat (go_big_quiet_step (fail))
            refine wpQuiet_nil ?_
            show wpList _ _ _ [_] _ _
            go_wp2_with fail
            refine check_of (S := S) (((Only.refl [] we).drew.alloc _).of_nil) ?_
            show wpList _ _ _ [_] _ _
            go_wp2_with (at_builtin; refine Lib.wpList_append_run _ rfl (.tmp 52) (.tmp 69) 50 50 rfl _ _ rfl rfl _ _ HRun.out ?_)
            refine check_of (S := S) HO5.out ?_
            show wpList _ _ _ [_] _ _
            clear k0 k1 k2 k3 k4 k5 k6 k7 k8 k9 k10 k11 k12 a0 a1 a2 a3 p0 p1 p2
            go_wp2_with (at_builtin; refine Lib.wpList_append_run _ rfl (.tmp 71) (.tmp 74) 41 41 rfl _ _ rfl rfl _ _ HRun6.out ?_)
            exact ⟨⟨k + 1, _, _, _, _, H2, r2, hlt, rfl, rfl, by simp, HFin⟩, by simp [intOf]; omega⟩
        · have hckb : (q.x.c.check != 0) = true := by rw [bne_iff_ne]; exact hck
          have HLm := Lib.hid (fun (W : World) (kW : Only [] wr W) => (hL.out.grow kW).more)
          clear t0 t1
          go_wp2_with (go_at_call 25; refine (HCk.out _ (hO.alloc _)).mono ?_; rintro e w1 ⟨rfl, ho1⟩)
          have HF := Lib.hid (HLm.out w1 (((Only.refl [] wr).alloc _).trans ho1))
          exact ⟨⟨k + 1, _, _, es, ds, H, r, hlt, rfl, rfl, by simp, HF⟩, by simp [intOf]; omega⟩
      · rw [hr] at c8 HRes
        go_upto_region 12 with (fail)
        have kc := (Only.refl [] wr).alloc (.cells #[.int .i64 4, .int .i64 T, .string ⟨#[]⟩, .int .i64 0, .slice none 0 0, .int .i64 0, .int .i64 0, .int .i64 0] 40)
        have bc := Blk.new wr 40 #[.int .i64 4, .int .i64 T, .string ⟨#[]⟩, .int .i64 0, .slice none 0 0, .int .i64 0, .int .i64 0, .int .i64 0]
        obtain ⟨W0, hW0⟩ : ∃ W0, wr.alloc (.cells #[.int .i64 4, .int .i64 T, .string ⟨#[]⟩, .int .i64 0, .slice none 0 0, .int .i64 0, .int .i64 0, .int .i64 0] 40) = W0 := ⟨_, rfl⟩
        obtain ⟨cb, hcb⟩ : ∃ cb, wr.heap.size = cb := ⟨_, rfl⟩
        have hcH : cb ∉ H := fun q => by have := hL.out.doc.lt cb q; omega
        rw [hW0] at kc bc
        rw [hcb] at bc
        try rw [hW0]
        try rw [hcb]
        have Hrd := Lib.hid hr
        have HCmd := Lib.hid (show q.cmd T = ⟨4, T, ⟨#[]⟩, 0, [], MetaR.zero⟩ from by unfold ReqV.cmd; rw [hr, clampT_in hT0.1 hT0.2]; rfl)
        clear hW0 hcb c0 c1 c2 c3 c4 c5 c6 c7 c8 t0 hr
        have HL0 := Lib.hid (hL.out.grow kc)
        have hHE := Lib.hid (show ∀ g ∈ H, w.heap.size ≤ g ∧ g ∉ [cb] from fun g hg => ⟨hL.out.doc.above g hg, fun y => by simp at y; subst y; exact hcH hg⟩)
        have hO0 := hL.out.doc.only.trans kc
        have k0 := Kept.cell (a := w) (R := [cb]) (show W0.cell? ⟨b, off + k * 13, none⟩ = some (.int .i64 q.x.c.kind) from HCc.out _ hO0 0 (by omega)) (.inl hbb)
        have k1 := Kept.cell (a := w) (R := [cb]) (show W0.cell? ⟨b, off + k * 13 + 1, none⟩ = some (.int .i64 q.x.c.time) from HCc.out _ hO0 1 (by omega)) (.inl hbb)
        have k2 := Kept.cell (a := w) (R := [cb]) (show W0.cell? ⟨b, off + k * 13 + 2, none⟩ = some (.string q.x.c.stream) from HCc.out _ hO0 2 (by omega)) (.inl hbb)
        have k3 := Kept.cell (a := w) (R := [cb]) (show W0.cell? ⟨b, off + k * 13 + 3, none⟩ = some (.int .i64 q.x.c.expected) from HCc.out _ hO0 3 (by omega)) (.inl hbb)
        have k4 := Kept.cell (a := w) (R := [cb]) (show W0.cell? ⟨b, off + k * 13 + 4, none⟩ = some (.slice Ax q.x.c.events.length capx) from (HCc.out _ hO0 4 (by omega)).trans (by rw [← Hxv.out]; rfl)) (.inl hbb)
        have k5 := Kept.cell (a := w) (R := [cb]) (show W0.cell? ⟨b, off + k * 13 + 5, none⟩ = some (.int .i64 q.x.c.mt.maxCount) from HCc.out _ hO0 5 (by omega)) (.inl hbb)
        have k6 := Kept.cell (a := w) (R := [cb]) (show W0.cell? ⟨b, off + k * 13 + 6, none⟩ = some (.int .i64 q.x.c.mt.maxAge) from HCc.out _ hO0 6 (by omega)) (.inl hbb)
        have k7 := Kept.cell (a := w) (R := [cb]) (show W0.cell? ⟨b, off + k * 13 + 7, none⟩ = some (.int .i64 q.x.c.mt.before) from HCc.out _ hO0 7 (by omega)) (.inl hbb)
        have k8 := Kept.cell (a := w) (R := [cb]) (show W0.cell? ⟨b, off + k * 13 + 8, none⟩ = some (.bool true) from (HCc.out _ hO0 8 (by omega)).trans (by rw [← Hrd.out]; rfl)) (.inl hbb)
        have k9 := Kept.cell (a := w) (R := [cb]) (show W0.cell? ⟨b, off + k * 13 + 9, none⟩ = some (.bool q.all) from HCc.out _ hO0 9 (by omega)) (.inl hbb)
        have k10 := Kept.cell (a := w) (R := [cb]) (show W0.cell? ⟨b, off + k * 13 + 10, none⟩ = some (.int .i64 q.fr) from HCc.out _ hO0 10 (by omega)) (.inl hbb)
        have k11 := Kept.cell (a := w) (R := [cb]) (show W0.cell? ⟨b, off + k * 13 + 11, none⟩ = some (.int .i64 q.n) from HCc.out _ hO0 11 (by omega)) (.inl hbb)
        have k12 := Kept.cell (a := w) (R := [cb]) (show W0.cell? ⟨b, off + k * 13 + 12, none⟩ = some (.bool q.back) from HCc.out _ hO0 12 (by omega)) (.inl hbb)
        have kt := Kept.cell (a := w) (R := [cb]) (show W0.cell? ⟨cb, 1, none⟩ = some (.int .i64 T) from bc.cell 1) (.inr (by simp))
        obtain ⟨an, han⟩ : ∃ an, q.ans (runE MS.new es) T = an := ⟨_, rfl⟩
        obtain ⟨pg, hpg⟩ : ∃ pg, q.page (runE MS.new es) T = pg := ⟨_, rfl⟩
        obtain ⟨r2, hr2⟩ : ∃ r2, (r.do (q.cmd T)).2 = r2 := ⟨_, rfl⟩
        rw [han, hpg, hr2] at HRes
        have HAn := Lib.hid han
        have HPg := Lib.hid hpg
        have HR2 := Lib.hid hr2
        clear han hpg hr2
        go_cut [11, 12] (fun s11 s12 wx => ∃ ba bb : Nat, s11 = .pointer (some ⟨ba, 0, none⟩) ∧ s12 = .pointer (some ⟨bb, 0, none⟩) ∧ Hid (LyE w W0 H rb r2 an pg ba bb wx))
        case first =>
          as_aux_lemma =>
            refine wp_region_inv2 (C := fun W => ∃ p : Kept w [cb] W0, W = p.W) [0, 1, 2, 3, 4, 5, 6] [7, 8, 9, 10, 11, 12, 13, 14] (by kernel_rfl) (by kernel_rfl) (by intro c d u a w h; cases d <;> exact h) ⟨⟨_, (Keeps.refl _ _ _).drew⟩, rfl⟩ ?_
            show wpQuiet _ _ _ _ [_, _, _, _, _, _, _] _
            repeat (go_big_quiet_step (fail))
            refine wpQuiet_nil ?_
            clear k0 k1 k2 k3 k4 k5 k6 k7 k8 k9 k10 k11 k12 kt
            refine inv_intro_l (LyI w W0 H rb r r2 an pg) ?_ ?_ ?_
            · refine ⟨u49, u41, u50, u51, u11, u12, none, 0, H, rfl, HL0.out.doc.keep0 (Only.refl _ _).drew, (Stepped.refl _ _).then0 (Only.refl _ _).drew, ?_, ?_, ?_, ?_, ?_, ?_, ?_, ?_, ?_, ?_, ?_, ?_⟩
              all_goals (intro q; exfalso; revert q; decide)
            · intro i2 hi listed ac W hr2 hI K HK
              obtain ⟨v49, v41, v50, v51, v11, v12, A, cp, H', rfl, hD⟩ := hI
              simp only [List.mem_cons, List.not_mem_nil, or_false] at hi
              unfold LyI at HK
              rcases hi with rfl | rfl | rfl | rfl | rfl | rfl | rfl | rfl
              · have hself := ready_self hr2
                have hset := flag_set hself.2
                rw [hself.1] at hD
                have hk := HK.out
                rw [hset 7, hset 8, hset 9, hset 10, hset 11, hset 12, hset 13, hset 14] at hk
                have HR := Lib.hid (HRes.out W H' hD.doc)
                have HKk := Lib.hid hk
                have HDD := Lib.hid hD
                clear hk HK hD hself hset
                show wpList _ _ _ [_] _ _
                go_frame
                go_wp2_with (go_at_call 40; refine HR.out.mono ?_; rintro e W' ⟨A', cp', rfl, H2, hd, hst, hrow, hg⟩)
                have hD' := HDD.out.step7 hd hst hrow hg
                exact check_kept (hD'.kept hHE.out) (HKk.out _ _ ⟨_, v41, v50, v51, v11, v12, A', cp', H2, rfl, hD'⟩)
              · have g7 := ready_dep hr2 7 (by kernel_rfl)
                have hself := ready_self hr2
                have hset := flag_set hself.2
                rw [hself.1] at hD
                have hk := HK.out
                rw [hset 7, hset 8, hset 9, hset 10, hset 11, hset 12, hset 13, hset 14] at hk
                rw [g7] at hD hk
                obtain rfl := hD.h7 rfl
                have HKk := Lib.hid hk
                have HDD := Lib.hid hD.step8
                clear hk HK hD hself hset
                show wpList _ _ _ [_] _ _
                go_frame
                go_wp2_with fail
                exact check_kept (HDD.out.kept hHE.out) (HKk.out _ _ ⟨_, _, v50, v51, v11, v12, A, cp, H', rfl, HDD.out⟩)
              · have g8 := ready_dep hr2 8 (by kernel_rfl)
                have hself := ready_self hr2
                have hset := flag_set hself.2
                rw [hself.1] at hD
                have hk := HK.out
                rw [hset 7, hset 8, hset 9, hset 10, hset 11, hset 12, hset 13, hset 14] at hk
                rw [g8] at hD hk
                have g7 := hD.d8 rfl
                rw [g7] at hD hk
                obtain rfl := hD.h8 rfl
                have HKk := Lib.hid hk
                have HDD := Lib.hid hD.step9
                clear hk HK hD hself hset
                show wpList _ _ _ [_] _ _
                go_frame
                go_wp2_with fail
                exact check_kept (HDD.out.kept hHE.out) (HKk.out _ _ ⟨v49, _, _, v51, v11, v12, A, cp, H', rfl, HDD.out⟩)
              · have g8 := ready_dep hr2 8 (by kernel_rfl)
                have hself := ready_self hr2
                have hset := flag_set hself.2
                rw [hself.1] at hD
                have hk := HK.out
                rw [hset 7, hset 8, hset 9, hset 10, hset 11, hset 12, hset 13, hset 14] at hk
                rw [g8] at hD hk
                have g7 := hD.d8 rfl
                rw [g7] at hD hk
                obtain rfl := hD.h8 rfl
                have HKk := Lib.hid hk
                have HDD := Lib.hid hD.step10
                clear hk HK hD hself hset
                show wpList _ _ _ [_] _ _
                go_frame
                go_wp2_with fail
                exact check_kept (HDD.out.kept hHE.out) (HKk.out _ _ ⟨v49, _, v50, _, v11, v12, A, cp, H', rfl, HDD.out⟩)
              · have hself := ready_self hr2
                have hset := flag_set hself.2
                rw [hself.1] at hD
                have hk := HK.out
                rw [hset 7, hset 8, hset 9, hset 10, hset 11, hset 12, hset 13, hset 14] at hk
                have HKk := Lib.hid hk
                have HDD := Lib.hid hD.step11
                clear hk HK hD hself hset
                show wpList _ _ _ [_] _ _
                go_frame
                go_wp2_with fail
                exact check_kept (HDD.out.kept hHE.out) (HKk.out _ _ ⟨v49, v41, v50, v51, _, v12, A, cp, H', rfl, HDD.out⟩)
              · have hself := ready_self hr2
                have hset := flag_set hself.2
                rw [hself.1] at hD
                have hk := HK.out
                rw [hset 7, hset 8, hset 9, hset 10, hset 11, hset 12, hset 13, hset 14] at hk
                have HKk := Lib.hid hk
                have HDD := Lib.hid hD.step12
                clear hk HK hD hself hset
                show wpList _ _ _ [_] _ _
                go_frame
                go_wp2_with fail
                exact check_kept (HDD.out.kept hHE.out) (HKk.out _ _ ⟨v49, v41, v50, v51, v11, _, A, cp, H', rfl, HDD.out⟩)
              · have g7 := ready_dep hr2 7 (by kernel_rfl)
                have g8 := ready_dep hr2 8 (by kernel_rfl)
                have g9 := ready_dep hr2 9 (by kernel_rfl)
                have g11 := ready_dep hr2 11 (by kernel_rfl)
                have g12 := ready_dep hr2 12 (by kernel_rfl)
                have hself := ready_self hr2
                have hset := flag_set hself.2
                rw [hself.1] at hD
                have hk := HK.out
                rw [hset 7, hset 8, hset 9, hset 10, hset 11, hset 12, hset 13, hset 14] at hk
                rw [g7, g8, g9, g11, g12] at hD hk
                obtain ⟨bx, rfl, q2, q3, q4⟩ := hD.h11 rfl
                obtain rfl := hD.h9 rfl
                have q4 : Blk W bx 34 #[.int .i64 0, .int .i64 0, .int .i64 0, .bool false] := q4
                have HKk := Lib.hid hk
                have HDD := Lib.hid hD
                have d1 := fun i => q4.cell i
                have d2 := fun i => q4.free i
                have HO := Lib.hid (fun u v x y => ((((Only.refl [bx] W).setCell (p := ⟨bx, 0, none⟩) (.inl (by simp)) u).setCell (p := ⟨bx, 1, none⟩) (.inl (by simp)) v).setCell (p := ⟨bx, 2, none⟩) (.inl (by simp)) x).setCell (p := ⟨bx, 3, none⟩) (.inl (by simp)) y)
                have HB := Lib.hid (fun u v x y => (((q4.set 0 u).set 1 v).set 2 x).set 3 y)
                clear hk HK hD hself hset g7 g8 g9 g11 g12 hr2
                unfold anV
                show wpList _ _ _ [_] _ _
                go_frame
                go_wp2_with fail
                have hD' := HDD.out.step13 HL0.out.doc.only.size (HO.out _ _ _ _) (HB.out _ _ _ _)
                exact check_kept (hD'.kept hHE.out) (HKk.out _ _ ⟨v49, v41, _, v51, _, v12, A, cp, H', rfl, hD'⟩)
              · have g7 := ready_dep hr2 7 (by kernel_rfl)
                have g8 := ready_dep hr2 8 (by kernel_rfl)
                have g9 := ready_dep hr2 9 (by kernel_rfl)
                have g10 := ready_dep hr2 10 (by kernel_rfl)
                have g11 := ready_dep hr2 11 (by kernel_rfl)
                have g12 := ready_dep hr2 12 (by kernel_rfl)
                have g13 := ready_dep hr2 13 (by kernel_rfl)
                have hself := ready_self hr2
                have hset := flag_set hself.2
                rw [hself.1] at hD
                have hk := HK.out
                rw [hset 7, hset 8, hset 9, hset 10, hset 11, hset 12, hset 13, hset 14] at hk
                rw [g7, g8, g9, g10, g11, g12, g13] at hD hk
                obtain ⟨bx, rfl, q2, q3, q4⟩ := hD.h12 rfl
                obtain rfl := hD.h10 rfl
                have q4 : Blk W bx 57 #[.slice none 0 0, .int .i64 0, .bool false] := q4
                have HKk := Lib.hid hk
                have HDD := Lib.hid hD
                have d1 := fun i => q4.cell i
                have d2 := fun i => q4.free i
                have HO := Lib.hid (fun u v x => (((Only.refl [bx] W).setCell (p := ⟨bx, 0, none⟩) (.inl (by simp)) u).setCell (p := ⟨bx, 1, none⟩) (.inl (by simp)) v).setCell (p := ⟨bx, 2, none⟩) (.inl (by simp)) x)
                have HB := Lib.hid (fun u v x => ((q4.set 0 u).set 1 v).set 2 x)
                clear hk HK hD hself hset g7 g8 g9 g10 g11 g12 g13 hr2
                unfold pgV
                show wpList _ _ _ [_] _ _
                go_frame
                go_wp2_with fail
                have hD' := HDD.out.step14 HL0.out.doc.only.size (HO.out _ _ _) (HB.out _ _ _)
                exact check_kept (hD'.kept hHE.out) (HKk.out _ _ ⟨v49, v41, v50, _, v11, _, A, cp, H', rfl, hD'⟩)
            · intro listed ac W hI hall
              obtain ⟨v49, v41, v50, v51, v11, v12, A, cp, H', rfl, hD⟩ := hI
              rw [hall 7 (by simp), hall 8 (by simp), hall 9 (by simp), hall 10 (by simp), hall 11 (by simp), hall 12 (by simp), hall 13 (by simp), hall 14 (by simp)] at hD
              obtain ⟨ba, rfl, p2, p3, p4⟩ := hD.h11 rfl
              obtain ⟨bb, rfl, q2, q3, q4⟩ := hD.h12 rfl
              have HF := Lib.hid (show LyE w W0 H rb r2 an pg ba bb W from ⟨A, cp, H', hD.doc, hD.stp, (hD.row rfl).1, (hD.row rfl).2, p4, q4⟩)
              clear hD p2 p3 p4 q2 q3 q4 hall
              go_frame
              go_wp2_with fail
              go_meet
              exact ⟨ba, bb, rfl, rfl, HF⟩
        case rest =>
          rename World => we
          obtain ⟨ba, bb, rfl, rfl, hE⟩ := hcut
          obtain ⟨A3, cp, H2, hd2, st2, hrow2, hng, hba, hbb2⟩ := hE.out
          have st := st2.first0 kc
          have hrows := hL.out.rows st
          have hOe := hd2.only
          have bce := (st2.keepB bc hcH).1
          have hAdT : ∀ g, (Value.slice Ad ds.length cd).ownBlock = some g → ∃ cur, Blk we g 61 cur := fun g hg => own_type hrows.2.1.1 hg
          obtain ⟨S, hS⟩ : ∃ S : List Nat, S = (Value.slice Ad ds.length cd).ownBlock.toList := ⟨_, rfl⟩
          have hSb : ∀ {x : Nat} {t : TypeId} {cs : Array Value}, Blk we x t cs → t ≠ 61 → x ∉ S := fun hx ht z => by
            rw [hS] at z
            obtain ⟨cur, hc⟩ := hAdT _ (by simpa using z)
            exact ht (blk_tyL hx hc)
          have hbS : b ∉ S := fun z => by
            rw [hS] at z
            have := (World.ownsRow.lt hrows.2.1.1 b (by simpa using z)).1
            omega
          have k0 := Within.cell (S := S) (show we.cell? ⟨b, off + k * 13, none⟩ = some (.int .i64 q.x.c.kind) from HCc.out _ hOe 0 (by omega)) hbS
          have k1 := Within.cell (S := S) (show we.cell? ⟨b, off + k * 13 + 1, none⟩ = some (.int .i64 q.x.c.time) from HCc.out _ hOe 1 (by omega)) hbS
          have k2 := Within.cell (S := S) (show we.cell? ⟨b, off + k * 13 + 2, none⟩ = some (.string q.x.c.stream) from HCc.out _ hOe 2 (by omega)) hbS
          have k3 := Within.cell (S := S) (show we.cell? ⟨b, off + k * 13 + 3, none⟩ = some (.int .i64 q.x.c.expected) from HCc.out _ hOe 3 (by omega)) hbS
          have k4 := Within.cell (S := S) (show we.cell? ⟨b, off + k * 13 + 4, none⟩ = some (.slice Ax q.x.c.events.length capx) from (HCc.out _ hOe 4 (by omega)).trans (by rw [← Hxv.out]; rfl)) hbS
          have k5 := Within.cell (S := S) (show we.cell? ⟨b, off + k * 13 + 5, none⟩ = some (.int .i64 q.x.c.mt.maxCount) from HCc.out _ hOe 5 (by omega)) hbS
          have k6 := Within.cell (S := S) (show we.cell? ⟨b, off + k * 13 + 6, none⟩ = some (.int .i64 q.x.c.mt.maxAge) from HCc.out _ hOe 6 (by omega)) hbS
          have k7 := Within.cell (S := S) (show we.cell? ⟨b, off + k * 13 + 7, none⟩ = some (.int .i64 q.x.c.mt.before) from HCc.out _ hOe 7 (by omega)) hbS
          have k8 := Within.cell (S := S) (show we.cell? ⟨b, off + k * 13 + 8, none⟩ = some (.bool true) from (HCc.out _ hOe 8 (by omega)).trans (by rw [← Hrd.out]; rfl)) hbS
          have k9 := Within.cell (S := S) (show we.cell? ⟨b, off + k * 13 + 9, none⟩ = some (.bool q.all) from HCc.out _ hOe 9 (by omega)) hbS
          have k10 := Within.cell (S := S) (show we.cell? ⟨b, off + k * 13 + 10, none⟩ = some (.int .i64 q.fr) from HCc.out _ hOe 10 (by omega)) hbS
          have k11 := Within.cell (S := S) (show we.cell? ⟨b, off + k * 13 + 11, none⟩ = some (.int .i64 q.n) from HCc.out _ hOe 11 (by omega)) hbS
          have k12 := Within.cell (S := S) (show we.cell? ⟨b, off + k * 13 + 12, none⟩ = some (.bool q.back) from HCc.out _ hOe 12 (by omega)) hbS
          have a0 := Within.cell (S := S) (show we.cell? ⟨ba, 0, none⟩ = some (.int .i64 an.err) from hba.cell 0) (hSb hba (by decide))
          have a1 := Within.cell (S := S) (show we.cell? ⟨ba, 1, none⟩ = some (.int .i64 an.version) from hba.cell 1) (hSb hba (by decide))
          have a2 := Within.cell (S := S) (show we.cell? ⟨ba, 2, none⟩ = some (.int .i64 an.position) from hba.cell 2) (hSb hba (by decide))
          have a3 := Within.cell (S := S) (show we.cell? ⟨ba, 3, none⟩ = some (.bool an.again) from hba.cell 3) (hSb hba (by decide))
          have p0 := Within.cell (S := S) (show we.cell? ⟨bb, 0, none⟩ = some (.slice A3 pg.events.length cp) from hbb2.cell 0) (hSb hbb2 (by decide))
          have p1 := Within.cell (S := S) (show we.cell? ⟨bb, 1, none⟩ = some (.int .i64 pg.next) from hbb2.cell 1) (hSb hbb2 (by decide))
          have p2 := Within.cell (S := S) (show we.cell? ⟨bb, 2, none⟩ = some (.bool pg.isEnd) from hbb2.cell 2) (hSb hbb2 (by decide))
          have e2 := IntWalk.i64_in (2 * (k : Int)) ⟨by omega, by omega⟩
          have e3 := IntWalk.i64_in (2 * (k : Int) + 1) ⟨by omega, by omega⟩
          have hzw := hOe.size
          have hfew := hL.out.few
          have hlen := hL.out.lay.len
          have hsf := stF
          have hr4 := (own_only hrows.2.1.1 (Only.refl [] we).drew (by simp)).alloc (.cells #[.int .i64 0, .int .i64 0, .int .i64 q.x.c.kind, .int .i64 q.x.c.time, .string q.x.c.stream, .int .i64 q.x.c.expected, .slice Ax q.x.c.events.length capx, .int .i64 q.x.c.mt.maxCount, .int .i64 q.x.c.mt.maxAge, .int .i64 q.x.c.mt.before, .bool true, .bool q.all, .int .i64 q.fr, .int .i64 q.n, .bool q.back, .int .i64 k, .int .i64 es.length, .int .i64 an.err, .int .i64 an.version, .int .i64 an.position, .bool an.again, .slice A3 pg.events.length cp, .int .i64 pg.next, .bool pg.isEnd, .int .i64 (2 * (k : Int)), .int .i64 (2 * (k : Int) + 1)] 61)
          obtain ⟨A5, cp5, w5, hrun, hown, hO5, hfr⟩ := run_app (P := Tryz.prog) 50 50 w.heap.size 61 (.agg #[.int .i64 0, .int .i64 0, .int .i64 0, .int .i64 0, .string ⟨#[]⟩, .int .i64 0, .slice none 0 0, .int .i64 0, .int .i64 0, .int .i64 0, .bool false, .bool false, .int .i64 0, .int .i64 0, .bool false, .int .i64 0, .int .i64 0, .int .i64 0, .int .i64 0, .int .i64 0, .bool false, .slice none 0 0, .int .i64 0, .bool false, .int .i64 0, .int .i64 0]) 26 240 Tryz.underlying50 infoDn rfl (by decide) hr4 (slc_new1 (w := we.drew) (e := 61) (size := 26) (cs := [.int .i64 0, .int .i64 0, .int .i64 q.x.c.kind, .int .i64 q.x.c.time, .string q.x.c.stream, .int .i64 q.x.c.expected, .slice Ax q.x.c.events.length capx, .int .i64 q.x.c.mt.maxCount, .int .i64 q.x.c.mt.maxAge, .int .i64 q.x.c.mt.before, .bool true, .bool q.all, .int .i64 q.fr, .int .i64 q.n, .bool q.back, .int .i64 k, .int .i64 es.length, .int .i64 an.err, .int .i64 an.version, .int .i64 an.position, .bool an.again, .slice A3 pg.events.length cp, .int .i64 pg.next, .bool pg.isEnd, .int .i64 (2 * (k : Int)), .int .i64 (2 * (k : Int) + 1)]) rfl) (by simp [Value.oneCell']) (by omega) (by unfold maxLen; omega) (by simp; omega)
          have HRun := Lib.hid hrun
          have hO5' : Only S we w5 := by rw [hS]; exact ((((Only.refl [] we).drew).alloc _).of_nil).trans hO5
          have HO5 := Lib.hid hO5'
          have bc5 := hO5'.blk bce (hSb bce (by decide))
          have hE5 := own_only hrows.1.1 hO5' (fun g hg => by
            obtain ⟨cur, hb⟩ := own_type hrows.1.1 hg
            exact hSb hb (by decide))
          have hr5 := hE5.alloc (.cells #[.int .i64 1, .int .i64 4, .int .i64 T, .string ⟨#[]⟩, .int .i64 0, .slice none 0 0, .int .i64 0, .int .i64 0, .int .i64 0] 43)
          have hz5 := hO5'.size
          obtain ⟨A6, cp6, w6, hrun6, hown6, hO6, hfr6⟩ := run_app (P := Tryz.prog) 41 41 w.heap.size 43 (.agg #[.int .i64 0, .int .i64 0, .int .i64 0, .string ⟨#[]⟩, .int .i64 0, .slice none 0 0, .int .i64 0, .int .i64 0, .int .i64 0]) 9 96 Tryz.underlying41 infoEnL rfl (by decide) hr5 (slc_new1 (w := w5) (e := 43) (size := 9) (cs := [.int .i64 1, .int .i64 4, .int .i64 T, .string ⟨#[]⟩, .int .i64 0, .slice none 0 0, .int .i64 0, .int .i64 0, .int .i64 0]) rfl) (by simp [Value.oneCell']) (by omega) (by unfold maxLen; omega) (by simp; omega)
          have HRun6 := Lib.hid hrun6
          have gc := fun i => bc5.cell i
          obtain ⟨E, hEd⟩ : ∃ E : EntV, E = ⟨1, ⟨q.cmd T, .slice none 0 0⟩⟩ := ⟨_, rfl⟩
          obtain ⟨D, hDd⟩ : ∃ D : DoneV, D = ⟨0, 0, q, k, es.length, an, pg, .slice A3 pg.events.length cp, 2 * (k : Int), 2 * (k : Int) + 1⟩ := ⟨_, rfl⟩
          have hEc : EntV.cells E = [.int .i64 1, .int .i64 4, .int .i64 T, .string ⟨#[]⟩, .int .i64 0, .slice none 0 0, .int .i64 0, .int .i64 0, .int .i64 0] := by
            rw [hEd]
            unfold EntV.cells
            rw [HCmd.out]
            first | done | rfl
          have hDc : DoneV.cells D = [.int .i64 0, .int .i64 0, .int .i64 q.x.c.kind, .int .i64 q.x.c.time, .string q.x.c.stream, .int .i64 q.x.c.expected, .slice Ax q.x.c.events.length capx, .int .i64 q.x.c.mt.maxCount, .int .i64 q.x.c.mt.maxAge, .int .i64 q.x.c.mt.before, .bool true, .bool q.all, .int .i64 q.fr, .int .i64 q.n, .bool q.back, .int .i64 k, .int .i64 es.length, .int .i64 an.err, .int .i64 an.version, .int .i64 an.position, .bool an.again, .slice A3 pg.events.length cp, .int .i64 pg.next, .bool pg.isEnd, .int .i64 (2 * (k : Int)), .int .i64 (2 * (k : Int) + 1)] := by
            rw [hDd]
            unfold DoneV.cells
            rw [Hxv.out, Hrd.out]
          have HFin := Lib.hid (show LayAt w w6 (k + 1) (.slice A6 (es.length + 1) cp6) (.slice A5 (ds.length + 1) cp5) (es ++ [E]) (ds ++ [D]) H2 rb r2 from by
            obtain ⟨i1, i2, i3⟩ := run_inv es inv_new inv2_new MS.new_ok
            rw [Nat.zero_add] at i3
            have hq3 := H1.out.cmd q hqm
            have hx12 := H12.out q hqm
            refine LayAt.one (e := E) (d := D) hL.out st hd2 ?_ (w3 := w6) ?_ ?_ ?_ ?_ ?_ ?_ ?_ ?_ ?_ ?_ ?_ ?_ ?_
            · rw [hEd, ← HR2.out]
              exact hL.out.like.did i1 i3 (q.cmd T)
            · refine (hO5'.mono (fun g hg => ?_)).trans ((((Only.refl [] w5).alloc _).of_nil).trans (hO6.mono (fun g hg => List.mem_append_left _ hg)))
              rw [hS] at hg
              exact List.mem_append_right _ hg
            · rw [List.flatMap_append, show List.flatMap EntV.cells [E] = [.int .i64 1, .int .i64 4, .int .i64 T, .string ⟨#[]⟩, .int .i64 0, .slice none 0 0, .int .i64 0, .int .i64 0, .int .i64 0] from by simp [hEc]]
              exact hown6
            · rw [List.flatMap_append, show List.flatMap DoneV.cells [D] = [.int .i64 0, .int .i64 0, .int .i64 q.x.c.kind, .int .i64 q.x.c.time, .string q.x.c.stream, .int .i64 q.x.c.expected, .slice Ax q.x.c.events.length capx, .int .i64 q.x.c.mt.maxCount, .int .i64 q.x.c.mt.maxAge, .int .i64 q.x.c.mt.before, .bool true, .bool q.all, .int .i64 q.fr, .int .i64 q.n, .bool q.back, .int .i64 k, .int .i64 es.length, .int .i64 an.err, .int .i64 an.version, .int .i64 an.position, .bool an.again, .slice A3 pg.events.length cp, .int .i64 pg.next, .bool pg.isEnd, .int .i64 (2 * (k : Int)), .int .i64 (2 * (k : Int) + 1)] from by simp [hDc]]
              refine own_only (hown.alloc _) hO6 (fun g hg z => ?_)
              obtain ⟨c1, y1⟩ := own_type (hown.alloc _) hg
              obtain ⟨c2, y2⟩ := own_type hr5 (by simpa using z)
              exact absurd (blk_tyL y1 y2) (by decide)
            · intro g hg
              rcases hfr6 g hg with y | y
              · exact .inl y
              · simp at y
                exact .inr (by omega)
            · intro g hg
              rcases hfr g hg with y | y
              · exact .inl y
              · simp at y
                exact .inr (by omega)
            · rw [hDd, hlen]
            · rw [hEd]
              exact right_self _ q T (by rw [hDd]) (by rw [hDd]; exact HAn.out.symm) (by rw [hDd]; exact HPg.out.symm)
            · exact ⟨T, by rw [hEd, hDd]⟩
            · rw [hDd]
            · rw [hDd]
            · rw [hEd]
              exact ⟨by rw [show q.cmd T = ⟨4, T, ⟨#[]⟩, 0, [], MetaR.zero⟩ from HCmd.out]; exact ⟨by show (0 : Nat) ≤ maxLen; unfold maxLen; omega, fun e he => by cases he⟩, by rw [HCmd.out]; simp, by rw [HCmd.out]; exact Slc.nil _ 4, fun g hg => by cases hg⟩
            · rw [hDd]
              exact ⟨hq3.2.1, by show q.x.c.events.length ≤ 1000000; omega, hq3.1.stream, by show pg.events.length ≤ 1000000; rw [← HPg.out]; exact page_few i1 i2 i3 (by omega) q T⟩
            · rw [hDd]
              exact ⟨own_base hrow2 (by have := hL.out.doc.only.size; have := kc.size; omega), hng⟩)
          clear hr4 hown hO5 hfr hr5 hE5 hown6 hO6 hfr6 hrun hrun6 hEd hDd hEc hDc hrow2 hng hba hbb2 hrows hAdT hSb bc5 bce st2 hE hd2 hlen
          go_wp2_with fail
          refine wp_region_in S [0, 1, 2, 3, 4, 5, 6, 7, 8, 9, 10, 11, 12, 13, 14, 15, 16] [17, 18] [19] (by kernel_rfl) (by kernel_rfl) (by intro c d u a w h; cases d <;> exact h) ?_
          show wpQuiet _ _ _ _ [_, _, _, _, _, _, _, _, _, _, _, _, _, _, _, _, _] _
          repeat (go_big_quiet_step (fail))
          refine wpQuiet_nil ?_
          show wpList _ _ _ [_] _ _
          go_wp2_with fail
          refine check_of (S := S) (((Only.refl [] we).drew.alloc _).of_nil) ?_
          show wpList _ _ _ [_] _ _
          go_wp2_with (at_builtin; refine Lib.wpList_append_run _ rfl (.tmp 52) (.tmp 69) 50 50 rfl _ _ rfl rfl _ _ HRun.out ?_)
          refine check_of (S := S) HO5.out ?_
          show wpList _ _ _ [_] _ _
          clear k0 k1 k2 k3 k4 k5 k6 k7 k8 k9 k10 k11 k12 a0 a1 a2 a3 p0 p1 p2
          go_wp2_with (at_builtin; refine Lib.wpList_append_run _ rfl (.tmp 71) (.tmp 74) 41 41 rfl _ _ rfl rfl _ _ HRun6.out ?_)
          exact ⟨⟨k + 1, _, _, _, _, H2, r2, hlt, rfl, rfl, by simp, HFin⟩, by simp [intOf]; omega⟩
    · obtain rfl : k = l.length := by omega
      have HF := hL
      clear hL HL0
      go_wp2_with fail
      go_ret2
      exact ⟨_, _, es, ds, H, rb, r, rfl, HF.out⟩
end
end
end Go.Proofs.YteinoiicnmemhaaGreatDoor
