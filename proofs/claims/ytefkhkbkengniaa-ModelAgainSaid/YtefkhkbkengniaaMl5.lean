/- ModelAgain: the walk. -/
import Derived.Test.YtefkhkbkengniaaMa1
set_option linter.unusedVariables false
set_option linter.unusedSimpArgs false
namespace Go.Proofs.Ytefkhkbkengniaa
open Go.RowKit Go.Sort
/-- The answer box behind k commands. -/
def ansAt (l : List CmdV) (q : Nat) (hq : q < l.length) (k : Nat) : Ans := if q < k then ((runS MS.new (l.take q)).do l[q].c).1 else Ans.ok
theorem ansAt_no {l : List CmdV} {q k : Nat} (hq : q < l.length) (h : ¬ k = q) : ansAt l q hq (k + 1) = ansAt l q hq k := by
  unfold ansAt
  by_cases h1 : q < k
  · rw [if_pos (by omega), if_pos h1]
  · rw [if_neg (by omega), if_neg h1]
theorem ansAt_yes {l : List CmdV} {q : Nat} (hq : q < l.length) : ansAt l q hq (q + 1) = ((runS MS.new (l.take q)).do l[q].c).1 := by
  unfold ansAt
  rw [if_pos (by omega)]
theorem runS_mid (s : MS) (l : List CmdV) (q : Nat) (h : q < l.length) : runS s l = runS ((runS s (l.take q)).do l[q].c).2 (l.drop (q + 1)) := by
  rw [← runS_take s l q h]
  unfold runS
  rw [← List.foldl_append, List.take_append_drop]
theorem runS_ok {l : List CmdV} : ∀ {s : MS} {N : Nat}, s.Ok N → (runS s l).Ok (N + l.length) := by
  induction l with
  | nil => intro s N h; exact h
  | cons x l ih =>
    intro s N h
    have := ih (MS.do_ok h x.c)
    rw [List.length_cons, show N + (l.length + 1) = N + 1 + l.length by omega]
    exact this
theorem told_any {s : MS} {c : Cmd} {v pos : Int} (h : Told s c v pos) : Told s { c with expected := -2 } v pos := ⟨h.v0, h.len, h.first, h.ids, h.last, by simp [fitsAgain]⟩
theorem check_any2 {c : Cmd} (h : c.check = 0) (h1 : c.kind = 1) : ({ c with expected := -2 } : Cmd).check = 0 := by
  have hz := check_zero h
  unfold Cmd.check at h ⊢
  dsimp only at h ⊢
  split at h
  · omega
  · rename_i n1
    rw [if_neg n1]
    split at h
    · omega
    · rename_i n2
      rw [if_neg n2]
      split at h
      · rename_i n3; exact absurd h n3.2
      · rename_i n3
        rw [if_neg n3, if_neg (by simp [expects]), if_neg (by omega)]
        split at h
        · omega
        · split at h
          · omega
          · split at h
            · omega
            · rename_i n6
              have hs : ({ c with expected := -2 } : Cmd).spare = c.spare := by unfold Cmd.spare; simp [h1]
              rw [hs, if_neg n6]
/-- Once more, and then of anything: what both come to. -/
theorem again_told {l : List CmdV} {q : Nat} (hq : q < l.length) (m : List CmdV) {x : CmdV} (hx : x = l[q]) {v pos : Int} {ag : Bool} (ha : (⟨0, v, pos, ag⟩ : Ans) = ansAt l q hq l.length) (h1 : x.c.kind = 1) {S2 : MS} (hs : S2 = runS (runS MS.new l) m) :
    ((S2.find x.c.stream).deleted = true → (S2.do x.c).1 = ⟨23, 0, 0, false⟩ ∧ (S2.do x.c).2.all = S2.all ∧ ((S2.do x.c).2.find x.c.stream).deleted = true) ∧
    ((S2.find x.c.stream).deleted = false → (S2.do x.c).1 = ⟨0, v, pos, true⟩ ∧ (S2.do x.c).2.all = S2.all ∧ ((S2.do x.c).2.find x.c.stream).deleted = false ∧
      ((S2.do x.c).2.do { x.c with expected := -2 }).1 = ⟨0, v, pos, true⟩ ∧ ((S2.do x.c).2.do { x.c with expected := -2 }).2.all = S2.all) := by
  have ho := runS_ok (l := l.take q) MS.new_ok
  have e : ((runS MS.new (l.take q)).do x.c).1 = ⟨0, v, pos, ag⟩ := by
    rw [ha, hx]
    unfold ansAt
    rw [if_pos hq]
  obtain ⟨t0, hc, hl⟩ := told_first ho h1 (by rw [e])
  rw [e] at t0
  have o1 := MS.do_ok ho x.c
  have t1 := told_run hl (l.drop (q + 1)) t0 o1
  have o2 := runS_ok (l := l.drop (q + 1)) o1
  have hm : runS MS.new l = runS ((runS MS.new (l.take q)).do x.c).2 (l.drop (q + 1)) := by rw [hx]; exact runS_mid MS.new l q hq
  rw [← hm] at t1 o2
  have t2 := told_run hl m t1 o2
  have o3 := runS_ok (l := m) o2
  rw [← hs] at t2 o3
  obtain ⟨g1, g2, g3, g4⟩ := told_again t2 hc h1
  refine ⟨fun hd => ⟨g1 hd, g3, by rw [g4]; exact hd⟩, fun hd => ⟨g2 hd, g3, by rw [g4]; exact hd, ?_⟩⟩
  have t3 := told_any (told_do t2 hl o3 x.c)
  obtain ⟨k1, k2, k3, k4⟩ := told_again t3 (check_any2 hc h1) h1
  exact ⟨k2 (by show ((S2.do x.c).2.find x.c.stream).deleted = false; rw [g4]; exact hd), by rw [k3]; exact g3⟩
set_option maxRecDepth 100000 in
set_option maxHeartbeats 4000000 in
theorem again_go (w : World) (v1 v2 : Value) (l m : List CmdV) (at_ : Int) (h1 : CmdsAt w w v1 l) (h2 : CmdsAt w w v2 m) :
    Calls Try.prog 3 #[v1, .int .i64 at_, v2] w fun e w' => e = .returned (.bool true) ∧ Only [] w w' := by
  obtain ⟨A, cap, rfl, hnc, hcm, hel⟩ := h1.cells
  obtain ⟨A2, cap2, rfl, hnc2, hcm2, hel2⟩ := h2.cells
  unfold maxLen at hcm hcm2
  have HL1 := Lib.hid (fun (W : World) (hw : Only [] w W) => show Calls Try.prog 10 #[.int .i64 20, .slice A l.length cap] W fun e w' => RetB e (fun b => b = true → l.length ≤ 20) ∧ Only [] W w' from light_any (h1.keep0 hw) 20 (by omega))
  have HL2 := Lib.hid (fun (W : World) (hw : Only [] w W) => show Calls Try.prog 10 #[.int .i64 20, .slice A2 m.length cap2] W fun e w' => RetB e (fun b => b = true → m.length ≤ 20) ∧ Only [] W w' from light_any (h2.keep0 hw) 20 (by omega))
  by_cases hat : 0 ≤ at_ ∧ at_ < l.length
  · obtain ⟨q, rfl⟩ := Int.eq_ofNat_of_zero_le hat.1
    have hq : q < l.length := by omega
    have hat1 := hat.1
    have hat2 := hat.2
    clear hat
    go_enter Try.func3, Try.ntmps3
    go_wp2_with fail
    refine (HL1.out _ (Only.refl _ _)).mono ?_
    rintro e w1 ⟨⟨b1, rfl, hl1⟩, ho1⟩
    cases b1
    · go_wp2_with (go_at_call 11; refine (alive_any _).mono ?_; rintro e w3 ⟨rfl, ho3⟩)
      go_ret
      exact ⟨rfl, ho1.trans ho3⟩
    go_wp2_with fail
    refine (HL2.out _ ho1).mono ?_
    rintro e w2 ⟨⟨b2, rfl, hl2⟩, ho2⟩
    cases b2
    · go_wp2_with (go_at_call 11; refine (alive_any _).mono ?_; rintro e w3 ⟨rfl, ho3⟩)
      go_ret
      exact ⟨rfl, (ho1.trans ho2).trans ho3⟩
    have hl2 : m.length ≤ 20 := by simpa using hl2
    have hl1 : l.length ≤ 20 := by simpa using hl1
    go_wp2_with (go_at_call 12; refine (has_newS w _ (ho1.trans ho2) [] (by simp)).mono ?_; rintro e w4 ⟨rfl, hh4, ho4⟩)
    have hh5 := hh4.boxR (.cells #[.int .i64 0, .int .i64 0, .int .i64 0, .bool false] 29)
    obtain ⟨sb, hsb⟩ : ∃ sb, sb = w2.heap.size + 1 := ⟨_, rfl⟩
    obtain ⟨mb, hmb⟩ : ∃ mb, mb = w2.heap.size := ⟨_, rfl⟩
    rw [← hsb, ← hmb] at hh5
    have HSB := Lib.hid hsb
    clear hsb hmb hh4
    go_loopw [9] (fun i wr => ∃ k : Nat, k ≤ l.length ∧ i = .int .i64 k ∧ HasS w wr [w4.heap.size] [] sb mb (runS MS.new (l.take k)) k ∧ Blk wr w4.heap.size 29 #[.int .i64 (ansAt l q hq k).err, .int .i64 (ansAt l q hq k).version, .int .i64 (ansAt l q hq k).position, .bool (ansAt l q hq k).again]) (fun i _ => l.length - (intOf i).toNat)
    case atStart => exact ⟨0, Nat.zero_le _, rfl, hh5, Blk.new w4 _ _⟩
    case round =>
      obtain ⟨k, hk, rfl, hS, hB⟩ := hrel
      rw [← HSB.out]
      by_cases hlt : k < l.length
      · have hcell : ∀ b (q1 : b < w.heap.size) (q2 : b < w.heap.size) (i : Nat), wr.cell? ⟨b, i, none⟩ = w.cell? ⟨b, i, none⟩ := fun b q1 q2 i => hS.only.cell q1 (by simp)
        have hrt := runS_take MS.new l k hlt
        have hno := fun h => ansAt_no (l := l) (k := k) hq h
        have hyes := ansAt_yes hq
        obtain ⟨b, off, rfl, hbb, hba, hcc⟩ := hel k hlt
        obtain ⟨x, hx⟩ : ∃ x, x = l[k] := ⟨_, rfl⟩
        have hxm : x ∈ l := by rw [hx]; exact List.getElem_mem hlt
        rw [← hx] at hcc
        have hxo := (h1.cmd x hxm).1
        obtain ⟨Ax, capx, hxv, hx1, hx2, _⟩ := (h1.cmd x hxm).2.1.openE EventR.cells (fun _ => rfl)
        have c0 : wr.cell? ⟨b, off + k * 8, none⟩ = some (.int .i64 x.c.kind) := (hcell b hbb hba _).trans (hcc 0 (by omega))
        have c1 : wr.cell? ⟨b, off + k * 8 + 1, none⟩ = some (.int .i64 x.c.time) := (hcell b hbb hba _).trans (hcc 1 (by omega))
        have c2 : wr.cell? ⟨b, off + k * 8 + 2, none⟩ = some (.string x.c.stream) := (hcell b hbb hba _).trans (hcc 2 (by omega))
        have c3 : wr.cell? ⟨b, off + k * 8 + 3, none⟩ = some (.int .i64 x.c.expected) := (hcell b hbb hba _).trans (hcc 3 (by omega))
        have c4 : wr.cell? ⟨b, off + k * 8 + 4, none⟩ = some (.slice Ax x.c.events.length capx) := (hcell b hbb hba _).trans ((hcc 4 (by omega)).trans (by rw [← hxv]; rfl))
        have c5 : wr.cell? ⟨b, off + k * 8 + 5, none⟩ = some (.int .i64 x.c.mt.maxCount) := (hcell b hbb hba _).trans (hcc 5 (by omega))
        have c6 : wr.cell? ⟨b, off + k * 8 + 6, none⟩ = some (.int .i64 x.c.mt.maxAge) := (hcell b hbb hba _).trans (hcc 6 (by omega))
        have c7 : wr.cell? ⟨b, off + k * 8 + 7, none⟩ = some (.int .i64 x.c.mt.before) := (hcell b hbb hba _).trans (hcc 7 (by omega))
        rw [← hx] at hrt
        have hdo := has_do (c := x.c) hS (by omega) hxo ((h1.keep0 hS.only).ev hxm)
        rw [hxv, ← hrt] at hdo
        unfold Cmd.val at hdo
        have hyes' : k = q → ansAt l q hq (k + 1) = ((runS MS.new (l.take k)).do x.c).1 := fun e => by subst e; rw [hyes, hx]
        obtain ⟨an, han⟩ : ∃ an, an = ((runS MS.new (l.take k)).do x.c).1 := ⟨_, rfl⟩
        rw [← han] at hdo hyes'
        unfold Ans.val at hdo
        have HD := Lib.hid hdo
        have HNo := Lib.hid hno
        have HYes := Lib.hid hyes'
        clear hcc hel hx hxv hdo hcell hrt hS hno hyes hyes' han hel2
        by_cases hkq : k = q
        · have hb0 : ((k : Int) == (q : Int)) = true := by rw [beq_iff_eq, hkq]
          have HE := Lib.hid (HYes.out hkq)
          clear hkq HYes HNo
          go_wp2_with (go_at_call 13; refine HD.out.mono ?_; rintro e w5 ⟨rfl, hS5, hk5⟩
                       have hb5 := hk5.blk hB (.inr (by simp))
                       have d1 := fun o i => (((Only.refl [] w5).alloc o).blk hb5 (by simp)).free i
                       have d0 := fun o i => (((Only.refl [] w5).alloc o).blk hb5 (by simp)).cell i)
          have hbs := fun o u v x y => (((((((Only.refl [] w5).alloc o).blk hb5 (by simp)).set 0 u).set 1 v).set 2 x).set 3 y)
          refine ⟨⟨k + 1, hlt, by simp, ((((hS5.keep ((Only.refl _ _).alloc _)).setCell (by simp) _).setCell (by simp) _).setCell (by simp) _).setCell (by simp) _, ?_⟩, by simp [intOf]; omega⟩
          rw [HE.out]
          exact hbs _ _ _ _ _
        · have hb0 : ((k : Int) == (q : Int)) = false := by rw [beq_eq_false_iff_ne]; omega
          have HE := Lib.hid (HNo.out hkq)
          clear hkq HYes HNo
          go_wp2_with (go_at_call 13; refine HD.out.mono ?_; rintro e w5 ⟨rfl, hS5, hk5⟩)
          refine ⟨⟨k + 1, hlt, by simp, hS5.keep ((Only.refl _ _).alloc _), ?_⟩, by simp [intOf]; omega⟩
          rw [HE.out]
          exact ((Only.refl [] w5).alloc _).blk (hk5.blk hB (.inr (by simp))) (by simp)
      · have hkl : k = l.length := by omega
        subst hkl
        rw [List.take_length] at hS
        obtain ⟨S1, hS1⟩ : ∃ S1, S1 = runS MS.new l := ⟨_, rfl⟩
        obtain ⟨aa, haa⟩ : ∃ aa, aa = ansAt l q hq l.length := ⟨_, rfl⟩
        rw [← hS1] at hS
        rw [← haa] at hB
        have HS1 := Lib.hid hS1
        have HAA := Lib.hid haa
        clear hS1 haa hlt
        go_wp2
        go_loopw [11] (fun i wr => ∃ k : Nat, k ≤ m.length ∧ i = .int .i64 k ∧ HasS w wr [w4.heap.size] [] sb mb (runS S1 (m.take k)) (l.length + k) ∧ Blk wr w4.heap.size 29 #[.int .i64 aa.err, .int .i64 aa.version, .int .i64 aa.position, .bool aa.again]) (fun i _ => m.length - (intOf i).toNat)
        case atStart => exact ⟨0, Nat.zero_le _, rfl, hS, hB⟩
        case round =>
          clear hS hB
          obtain ⟨k, hk, rfl, hS, hB⟩ := hrel
          by_cases hlt : k < m.length
          · have hcell : ∀ b (q1 : b < w.heap.size) (q2 : b < w.heap.size) (i : Nat), wr.cell? ⟨b, i, none⟩ = w.cell? ⟨b, i, none⟩ := fun b q1 q2 i => hS.only.cell q1 (by simp)
            have hrt := runS_take S1 m k hlt
            have hel1 := hel
            clear hel
            have hel := hel2
            obtain ⟨b, off, rfl, hbb, hba, hcc⟩ := hel k hlt
            obtain ⟨x, hx⟩ : ∃ x, x = m[k] := ⟨_, rfl⟩
            have hxm : x ∈ m := by rw [hx]; exact List.getElem_mem hlt
            rw [← hx] at hcc
            have hxo := (h2.cmd x hxm).1
            obtain ⟨Ax, capx, hxv, hx1, hx2, _⟩ := (h2.cmd x hxm).2.1.openE EventR.cells (fun _ => rfl)
            have c0 : wr.cell? ⟨b, off + k * 8, none⟩ = some (.int .i64 x.c.kind) := (hcell b hbb hba _).trans (hcc 0 (by omega))
            have c1 : wr.cell? ⟨b, off + k * 8 + 1, none⟩ = some (.int .i64 x.c.time) := (hcell b hbb hba _).trans (hcc 1 (by omega))
            have c2 : wr.cell? ⟨b, off + k * 8 + 2, none⟩ = some (.string x.c.stream) := (hcell b hbb hba _).trans (hcc 2 (by omega))
            have c3 : wr.cell? ⟨b, off + k * 8 + 3, none⟩ = some (.int .i64 x.c.expected) := (hcell b hbb hba _).trans (hcc 3 (by omega))
            have c4 : wr.cell? ⟨b, off + k * 8 + 4, none⟩ = some (.slice Ax x.c.events.length capx) := (hcell b hbb hba _).trans ((hcc 4 (by omega)).trans (by rw [← hxv]; rfl))
            have c5 : wr.cell? ⟨b, off + k * 8 + 5, none⟩ = some (.int .i64 x.c.mt.maxCount) := (hcell b hbb hba _).trans (hcc 5 (by omega))
            have c6 : wr.cell? ⟨b, off + k * 8 + 6, none⟩ = some (.int .i64 x.c.mt.maxAge) := (hcell b hbb hba _).trans (hcc 6 (by omega))
            have c7 : wr.cell? ⟨b, off + k * 8 + 7, none⟩ = some (.int .i64 x.c.mt.before) := (hcell b hbb hba _).trans (hcc 7 (by omega))
            rw [← hx] at hrt
            have hdo := has_do (c := x.c) hS (by omega) hxo ((h2.keep0 hS.only).ev hxm)
            rw [hxv, ← hrt] at hdo
            unfold Cmd.val at hdo
            have HD := Lib.hid hdo
            clear hcc hel hx hxv hdo hcell hrt hS hel2 hel1
            go_wp2_with (go_at_call 13; refine HD.out.mono ?_; rintro e w5 ⟨rfl, hS5, hk5⟩)
            exact ⟨⟨k + 1, hlt, by simp, hS5, hk5.blk hB (.inr (by simp))⟩, by simp [intOf]; omega⟩
          · have hkl : k = m.length := by omega
            subst hkl
            rw [List.take_length] at hS
            obtain ⟨S2, hS2⟩ : ∃ S2, S2 = runS S1 m := ⟨_, rfl⟩
            rw [← hS2] at hS
            have HS2 := Lib.hid hS2
            clear hS2 hlt
            have hcell : ∀ b (q1 : b < w.heap.size) (q2 : b < w.heap.size) (i : Nat), wr.cell? ⟨b, i, none⟩ = w.cell? ⟨b, i, none⟩ := fun b q1 q2 i => hS.only.cell q1 (by simp)
            have hlt := hq
            obtain ⟨b, off, rfl, hbb, hba, hcc⟩ := hel q hlt
            obtain ⟨x, hx⟩ : ∃ x, x = l[q] := ⟨_, rfl⟩
            have hxm : x ∈ l := by rw [hx]; exact List.getElem_mem hlt
            rw [← hx] at hcc
            have hxo := (h1.cmd x hxm).1
            obtain ⟨Ax, capx, hxv, hx1, hx2, _⟩ := (h1.cmd x hxm).2.1.openE EventR.cells (fun _ => rfl)
            have c0 : wr.cell? ⟨b, off + q * 8, none⟩ = some (.int .i64 x.c.kind) := (hcell b hbb hba _).trans (hcc 0 (by omega))
            have c1 : wr.cell? ⟨b, off + q * 8 + 1, none⟩ = some (.int .i64 x.c.time) := (hcell b hbb hba _).trans (hcc 1 (by omega))
            have c2 : wr.cell? ⟨b, off + q * 8 + 2, none⟩ = some (.string x.c.stream) := (hcell b hbb hba _).trans (hcc 2 (by omega))
            have c3 : wr.cell? ⟨b, off + q * 8 + 3, none⟩ = some (.int .i64 x.c.expected) := (hcell b hbb hba _).trans (hcc 3 (by omega))
            have c4 : wr.cell? ⟨b, off + q * 8 + 4, none⟩ = some (.slice Ax x.c.events.length capx) := (hcell b hbb hba _).trans ((hcc 4 (by omega)).trans (by rw [← hxv]; rfl))
            have c5 : wr.cell? ⟨b, off + q * 8 + 5, none⟩ = some (.int .i64 x.c.mt.maxCount) := (hcell b hbb hba _).trans (hcc 5 (by omega))
            have c6 : wr.cell? ⟨b, off + q * 8 + 6, none⟩ = some (.int .i64 x.c.mt.maxAge) := (hcell b hbb hba _).trans (hcc 6 (by omega))
            have c7 : wr.cell? ⟨b, off + q * 8 + 7, none⟩ = some (.int .i64 x.c.mt.before) := (hcell b hbb hba _).trans (hcc 7 (by omega))
            have hB0 := fun i => hB.cell i
            have HX := Lib.hid hx
            have HEv := Lib.hid (fun (W : World) (hw : Only [] w W) => (h1.keep0 hw).ev (E := []) hxm)
            have HCC := Lib.hid hcc
            have hNb : l.length + m.length ≤ 40 := by omega
            clear hcc hel hel2 hx hcell
            obtain ⟨e0, v, pos, ag⟩ := aa
            by_cases hk1 : x.c.kind = 1
            · by_cases he0 : e0 = 0
              · subst he0
                have hcon := again_told hq m HX.out HAA.out hk1 (S2 := S2) (by rw [HS2.out, HS1.out])
                have hk1b : (x.c.kind != 1) = false := by rw [hk1]; decide
                have hev := (h1.keep0 hS.only).ev (E := []) hxm
                have hdo := has_do (c := x.c) hS (by omega) hxo hev
                rw [hxv] at hdo
                unfold Cmd.val at hdo
                have HLn := Lib.hid (has_len hS)
                obtain ⟨n, hn⟩ : ∃ n : Int, n = S2.all.length := ⟨_, rfl⟩
                rw [← hn] at HLn
                have hd3 := fun (W : World) (R : List Nat) (N : Nat) (h : HasS w W R [] sb mb (S2.do x.c).2 N) => has_deleted h x.c.stream
                have hl3 := fun (W : World) (R : List Nat) (N : Nat) (h : HasS w W R [] sb mb (S2.do x.c).2 N) => has_len h
                have hcc := HCC.out
                have hb0 := fun (W : World) (hw : Only [] w W) (i : Nat) => hw.cell (p := ⟨b, i, none⟩) hbb (by simp)
                have e0 : w.cell? ⟨b, off + q * 8, none⟩ = some (.int .i64 x.c.kind) := hcc 0 (by omega)
                have e1 : w.cell? ⟨b, off + q * 8 + 1, none⟩ = some (.int .i64 x.c.time) := hcc 1 (by omega)
                have e2 : w.cell? ⟨b, off + q * 8 + 2, none⟩ = some (.string x.c.stream) := hcc 2 (by omega)
                have e3 : w.cell? ⟨b, off + q * 8 + 3, none⟩ = some (.int .i64 x.c.expected) := hcc 3 (by omega)
                have e4 : w.cell? ⟨b, off + q * 8 + 4, none⟩ = some (.slice Ax x.c.events.length capx) := (hcc 4 (by omega)).trans (by rw [← hxv]; rfl)
                have e5 : w.cell? ⟨b, off + q * 8 + 5, none⟩ = some (.int .i64 x.c.mt.maxCount) := hcc 5 (by omega)
                have e6 : w.cell? ⟨b, off + q * 8 + 6, none⟩ = some (.int .i64 x.c.mt.maxAge) := hcc 6 (by omega)
                have e7 : w.cell? ⟨b, off + q * 8 + 7, none⟩ = some (.int .i64 x.c.mt.before) := hcc 7 (by omega)
                have HE := Lib.hid (And.intro e0 (And.intro e1 (And.intro e2 (And.intro e3 (And.intro e4 (And.intro e5 (And.intro e6 e7)))))))
                have HB0 := Lib.hid hb0
                clear hcc hb0 e0 e1 e2 e3 e4 e5 e6 e7
                cases hd : (S2.find x.c.stream).deleted with
                | true =>
                  obtain ⟨r1, r2, r3⟩ := hcon.1 hd
                  rw [r1] at hdo
                  rw [r3] at hd3
                  rw [r2, ← hn] at hl3
                  unfold Ans.val at hdo
                  have HD := Lib.hid hdo
                  have HDe := Lib.hid hd3
                  have HLe := Lib.hid hl3
                  clear hdo hd3 hl3 r1 r2 r3 hcon hd hn hk1 hev
                  go_wp2_with (first
                    | (go_at_call 13; refine HD.out.mono ?_; rintro e w6 ⟨rfl, hS6, hk6⟩; have h6b := hS6.boxR (.cells #[.int .i64 23, .int .i64 0, .int .i64 0, .bool false] 29); have g2 := (HB0.out _ h6b.only _).trans HE.out.2.2.1)
                    | (go_at_call 15; refine (HDe.out _ _ _ h6b).mono ?_; rintro e w7 ⟨rfl, ho7⟩)
                    | (go_at_call 11; refine (alive_any _).mono ?_; rintro e w8 ⟨rfl, ho8⟩
                       have d8 := fun i => (ho8.blk (ho7.blk (Blk.new w6 _ _) (by simp)) (by simp)).cell i
                       have h8 := (h6b.keep ho7).keep ho8)
                    | (go_at_call 14; first | (refine HLn.out.mono ?_; rintro e w9 ⟨rfl, rfl⟩; clear HLn) | (refine (HLe.out _ _ _ h8).mono ?_; rintro e w9 ⟨rfl, rfl⟩)))
                  go_ret
                  exact ⟨rfl, h8.only⟩
                | false =>
                  obtain ⟨r1, r2, r3, r4, r5⟩ := hcon.2 hd
                  have hev' := hev
                  have hd4 := fun (W : World) (R : List Nat) (N : Nat) (h : HasS w W R [] sb mb (S2.do x.c).2 N) (hN : N ≤ 100) => has_do (c := { x.c with expected := -2 }) h (by omega) ⟨hxo.stream, hxo.evs⟩ ((h1.keep0 h.only).ev (E := []) hxm)
                  have hl4 := fun (W : World) (R : List Nat) (N : Nat) (h : HasS w W R [] sb mb ((S2.do x.c).2.do { x.c with expected := -2 }).2 N) => has_len h
                  rw [r1] at hdo
                  rw [r3] at hd3
                  rw [r4, hxv] at hd4
                  rw [r5, ← hn] at hl4
                  unfold Ans.val at hdo hd4
                  unfold Cmd.val at hd4
                  have HD := Lib.hid hdo
                  have HDe := Lib.hid hd3
                  have HD4 := Lib.hid hd4
                  have HLe := Lib.hid hl4
                  clear hdo hd3 hl3 hd4 hl4 r1 r2 r3 r4 r5 hcon hd hn hk1 hev hev'
                  go_wp2_with (first
                    | (go_at_call 13; (have hh := HD; clear HD); refine hh.out.mono ?_; clear hh; rintro e w6 ⟨rfl, hS6, hk6⟩
                       have h6b := hS6.boxR (.cells #[.int .i64 0, .int .i64 v, .int .i64 pos, .bool true] 29)
                       have g2 := (HB0.out _ h6b.only _).trans HE.out.2.2.1)
                    | (go_at_call 15; refine (HDe.out _ _ _ h6b).mono ?_; rintro e w7 ⟨rfl, ho7⟩
                       have h7 := h6b.keep ho7
                       have hbA := ho7.blk (((Only.refl [] w6).alloc _).blk (hk6.blk hB (.inr (by simp))) (by simp)) (by simp)
                       have hbB := ho7.blk (Blk.new w6 29 #[.int .i64 0, .int .i64 v, .int .i64 pos, .bool true]) (by simp)
                       have a1 := fun i => hbA.cell i
                       have a2 := fun i => hbA.free i
                       have h7s := fun u => h7.setCell (p := ⟨w4.heap.size, 3, none⟩) (by simp) u
                       have f7 := fun u => HB0.out _ (h7s u).only
                       have k0 := fun u => (f7 u _).trans HE.out.1
                       have k1 := fun u => (f7 u _).trans HE.out.2.1
                       have k2 := fun u => (f7 u _).trans HE.out.2.2.1
                       have k3 := fun u => (f7 u _).trans HE.out.2.2.2.1
                       have k4 := fun u => (f7 u _).trans HE.out.2.2.2.2.1
                       have k5 := fun u => (f7 u _).trans HE.out.2.2.2.2.2.1
                       have k6 := fun u => (f7 u _).trans HE.out.2.2.2.2.2.2.1
                       have k7 := fun u => (f7 u _).trans HE.out.2.2.2.2.2.2.2
                       clear f7)
                    | (go_at_call 13; refine (HD4.out _ _ _ ((h7s _).keep ((Only.refl _ _).alloc _)) (by omega)).mono ?_; rintro e w10 ⟨rfl, hS10, hk10⟩)
                    | (go_at_call 11; refine (alive_any _).mono ?_; rintro e w11 ⟨rfl, ho11⟩
                       have h11 := (hS10.keep ((Only.refl [] w10).alloc _)).keep ho11
                       have hne : w6.heap.size ≠ w4.heap.size := by have := (hS6.rl w4.heap.size (by simp)).2.1; omega
                       have m1 := fun i => (ho11.blk (((Only.refl [] w10).alloc _).blk (hk10.blk (((Only.refl [] _).alloc _).blk (hbA.set 3 (.bool true)) (by simp)) (.inr (by simp))) (by simp)) (by simp)).cell i
                       have m2 := fun i => (ho11.blk (((Only.refl [] w10).alloc _).blk (hk10.blk (((Only.refl [] _).alloc _).blk (((Only.refl [w4.heap.size] w7).setCell (p := ⟨w4.heap.size, 3, none⟩) (.inl (by simp)) (.bool true)).blk hbB (by simpa using hne)) (by simp)) (.inr (by simp))) (by simp)) (by simp)).cell i
                       have m3 := fun i => (ho11.blk (Blk.new w10 29 _) (by simp)).cell i)
                    | (go_at_call 14; first | (refine HLn.out.mono ?_; rintro e w9 ⟨rfl, rfl⟩; clear HLn) | (refine (HLe.out _ _ _ h11).mono ?_; rintro e w9 ⟨rfl, rfl⟩)))
                  go_ret
                  exact ⟨rfl, h11.only⟩
              · have hb0 : (e0 != 0) = true := by rw [bne_iff_ne]; exact he0
                have hk1b : (x.c.kind != 1) = false := by rw [hk1]; decide
                clear he0 hk1
                go_wp2_with (go_at_call 11; refine (alive_any _).mono ?_; rintro e w6 ⟨rfl, ho6⟩)
                go_ret
                exact ⟨rfl, hS.only.trans ho6⟩
            · have hk1b : (x.c.kind != 1) = true := by rw [bne_iff_ne]; exact hk1
              clear hk1
              go_wp2_with (go_at_call 11; refine (alive_any _).mono ?_; rintro e w6 ⟨rfl, ho6⟩)
              go_ret
              exact ⟨rfl, hS.only.trans ho6⟩
  · have hor : at_ < 0 ∨ (0 ≤ at_ ∧ at_ ≥ l.length) := by omega
    clear hat
    rcases hor with hneg | ⟨hp0, hp1⟩
    · go_enter Try.func3, Try.ntmps3
      go_wp2_with fail
      refine (HL1.out _ (Only.refl _ _)).mono ?_
      rintro e w1 ⟨⟨b1, rfl, hl1⟩, ho1⟩
      clear hl1
      cases b1
      · go_wp2_with (go_at_call 11; refine (alive_any _).mono ?_; rintro e w3 ⟨rfl, ho3⟩)
        go_ret
        exact ⟨rfl, ho1.trans ho3⟩
      go_wp2_with fail
      refine (HL2.out _ ho1).mono ?_
      rintro e w2 ⟨⟨b2, rfl, hl2⟩, ho2⟩
      clear hl2
      cases b2
      · go_wp2_with (go_at_call 11; refine (alive_any _).mono ?_; rintro e w3 ⟨rfl, ho3⟩)
        go_ret
        exact ⟨rfl, (ho1.trans ho2).trans ho3⟩
      go_wp2_with (go_at_call 11; refine (alive_any _).mono ?_; rintro e w3 ⟨rfl, ho3⟩)
      go_ret
      exact ⟨rfl, (ho1.trans ho2).trans ho3⟩
    · go_enter Try.func3, Try.ntmps3
      go_wp2_with fail
      refine (HL1.out _ (Only.refl _ _)).mono ?_
      rintro e w1 ⟨⟨b1, rfl, hl1⟩, ho1⟩
      clear hl1
      cases b1
      · go_wp2_with (go_at_call 11; refine (alive_any _).mono ?_; rintro e w3 ⟨rfl, ho3⟩)
        go_ret
        exact ⟨rfl, ho1.trans ho3⟩
      go_wp2_with fail
      refine (HL2.out _ ho1).mono ?_
      rintro e w2 ⟨⟨b2, rfl, hl2⟩, ho2⟩
      clear hl2
      cases b2
      · go_wp2_with (go_at_call 11; refine (alive_any _).mono ?_; rintro e w3 ⟨rfl, ho3⟩)
        go_ret
        exact ⟨rfl, (ho1.trans ho2).trans ho3⟩
      go_wp2_with (go_at_call 11; refine (alive_any _).mono ?_; rintro e w3 ⟨rfl, ho3⟩)
      go_ret
      exact ⟨rfl, (ho1.trans ho2).trans ho3⟩
/-- What the row asks for. -/
theorem againW (v1 : Value) (l : List CmdV) (at_ : Int) (ha : (Lit.int .i64 at_).wf = true) (v2 : Value) (m : List CmdV) (W : World)
    (x0 : Slc W 8 v1 l.length (l.flatMap CmdV.cells)) (y0 : ∀ o ∈ l, o.Ok W ∧ o.cells.length = 8) (z0 : ∀ g, v1.ownBlock = some g → g < W.heap.size ∨ l = [])
    (x2 : Slc W 8 v2 m.length (m.flatMap CmdV.cells)) (y2 : ∀ o ∈ m, o.Ok W ∧ o.cells.length = 8) (z2 : ∀ g, v2.ownBlock = some g → g < W.heap.size ∨ m = []) :
    Calls Try.prog 3 #[v1, .int .i64 at_, v2] W fun e W' => e = .returned (.bool true) ∧ Only [] W W' :=
  again_go W v1 v2 l m at_ (CmdsAt.of x0 y0 z0) (CmdsAt.of x2 y2 z2)
end Go.Proofs.Ytefkhkbkengniaa
