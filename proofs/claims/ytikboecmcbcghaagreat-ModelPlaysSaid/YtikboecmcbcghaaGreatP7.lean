/- Proved here: contracts of functions and plain laws, part 7 of one proof. Conditions: each theorem names its own. -/
import Derived.Test.YtikboecmcbcghaaGreatP6
/- ModelPlays: the walk. -/
set_option linter.unusedVariables false
set_option linter.unusedSimpArgs false
namespace Go.Proofs.YtikboecmcbcghaaGreat
open Go.RowKit Go Go.Sort
/-- All at the start of a round. -/
structure RoundAt (a w : World) (E : List Nat) (sb rb kb : Nat) (vn : Value) (ts : List ByteArray) (k : Nat) : Prop where
  ex : ∃ mb H Hk s r, Trio a w [] H Hk E sb mb rb kb s r k ∧ Like s r k
  nm : Slc w 1 vn ts.length (strs ts)
  nE : ∀ g, vn.ownBlock = some g → g ∈ E
def e77 : EventR := ⟨77, ⟨#[]⟩, ⟨#[]⟩, 0⟩
/-- The command, copied, with one event more behind its own. -/
structure CopyAt (wr wx : World) (cb g cap : Nat) (x : CmdV) : Prop where
  only : Only [] wr wx
  box : Blk wx cb 47 #[.int .i64 x.c.kind, .int .i64 x.c.time, .string x.c.stream, .int .i64 x.c.expected, .slice (some ⟨g, 0, none⟩) x.c.events.length cap, .int .i64 x.c.mt.maxCount, .int .i64 x.c.mt.maxAge, .int .i64 x.c.mt.before]
  row : Slc wx 4 (.slice (some ⟨g, 0, none⟩) (x.c.events.length + 1) cap) (x.c.events.length + 1) ((x.c.events ++ [e77]).flatMap EventR.cells)
  fresh : wr.heap.size ≤ g ∧ g < wx.heap.size ∧ wr.heap.size ≤ cb ∧ g ≠ cb
set_option maxRecDepth 100000 in
set_option maxHeartbeats 40000000 in
theorem plays_go (w : World) (v1 : Value) (l : List CmdV) (stream : ByteArray) (fr n ver : Int) (back : Bool) (hc : CmdsAt w w v1 l) (hst : stream.size ≤ maxLen) :
    Calls Tryz.prog 3 #[v1, .string stream, .int .i64 fr, .int .i64 n, .int .i64 ver, .bool back] w fun e w' => e = .returned (.bool true) ∧ Only [] w w' := by
  obtain ⟨A1, cap1, rfl, hnc1, hcm1, hel1⟩ := hc.cells
  unfold maxLen at hcm1
  have HL1 := Lib.hid (fun (W : World) (hW : Only [] w W) => show Calls Tryz.prog 4 #[.int .i64 40, .slice A1 l.length cap1] W fun e w' => RetB e (fun b => b = true → l.length ≤ 40 ∧ ∀ x ∈ l, x.c.events.length ≤ 12) ∧ Only [] W w' from light12_any (hc.keep0 hW) 40 (by omega))
  have Hel1 := Lib.hid hel1
  have HC := Lib.hid hc
  have HAl := Lib.hid (fun (W : World) => alive_any W)
  have hst' := hst
  unfold maxLen at hst'
  clear hel1 hc
  go_enter Tryz.func3, Tryz.ntmps3
  go_wp2_with fail
  refine (HL1.out _ (Only.refl _ _)).mono ?_
  rintro e w1 ⟨⟨b1, rfl, hl1⟩, ho1⟩
  clear HL1
  cases b1
  · go_wp2_with (go_at_call 5; refine (HAl.out _).mono ?_; rintro e w3 ⟨rfl, ho3⟩)
    go_ret
    exact ⟨rfl, ho1.trans ho3⟩
  obtain ⟨hl40, hl12⟩ : l.length ≤ 40 ∧ ∀ x ∈ l, x.c.events.length ≤ 12 := by first | exact hl1 rfl | exact hl1 trivial | exact hl1
  have HL12 := Lib.hid hl12
  clear hl12
  clear hl1
  by_cases h100 : stream.size > 100
  · go_wp2_with (go_at_call 5; refine (HAl.out _).mono ?_; rintro e w3 ⟨rfl, ho3⟩)
    go_ret
    exact ⟨rfl, ho1.trans ho3⟩
  have HNm := Lib.hid (fun (W : World) (hW : Only [] w W) => names_any (HC.out.keep0 hW) (by omega))
  go_wp2_with fail
  refine (has_newS w _ ho1 [] (by simp)).mono ?_
  rintro e w2 ⟨rfl, hs2, k2⟩
  go_wp2_with fail
  have hk3 : Only [] w2 (w2.alloc (.cells #[.slice none 0 0, .slice none 0 0, .int .i64 0, .int .i64 0] 31)) := (Only.refl _ _).alloc _
  obtain ⟨w3, hw3⟩ : ∃ w3, w2.alloc (.cells #[.slice none 0 0, .slice none 0 0, .int .i64 0, .int .i64 0] 31) = w3 := ⟨_, rfl⟩
  have hB3 : Blk w3 w2.heap.size 31 #[.slice none 0 0, .slice none 0 0, .int .i64 0, .int .i64 0] := by rw [← hw3]; exact Blk.new _ _ _
  have hz3 : w3.heap.size = w2.heap.size + 1 := by rw [← hw3]; simp
  rw [hw3] at hk3 ⊢
  have hk4 : Only [] w3 (w3.alloc (.cells #[.slice none 0 0, .slice none 0 0, .slice none 0 0, .slice none 0 0, .slice none 0 0, .slice none 0 0, .slice none 0 0, .slice none 0 0, .slice none 0 0, .slice none 0 0, .slice none 0 0, .slice none 0 0] 40)) := (Only.refl _ _).alloc _
  obtain ⟨w4, hw4⟩ : ∃ w4, w3.alloc (.cells #[.slice none 0 0, .slice none 0 0, .slice none 0 0, .slice none 0 0, .slice none 0 0, .slice none 0 0, .slice none 0 0, .slice none 0 0, .slice none 0 0, .slice none 0 0, .slice none 0 0, .slice none 0 0] 40) = w4 := ⟨_, rfl⟩
  have hB4 : Blk w4 w3.heap.size 40 #[.slice none 0 0, .slice none 0 0, .slice none 0 0, .slice none 0 0, .slice none 0 0, .slice none 0 0, .slice none 0 0, .slice none 0 0, .slice none 0 0, .slice none 0 0, .slice none 0 0, .slice none 0 0] := by rw [← hw4]; exact Blk.new _ _ _
  rw [hw4] at hk4 ⊢
  rw [← hz3]
  have hT4 : Trio w w4 [] [w2.heap.size] [w3.heap.size] [] (w1.heap.size + 1) w1.heap.size w2.heap.size w3.heap.size MS.new RS.new 0 := trio_new hs2 hk3 hB3 (Nat.le_refl _) hk4 hB4 (Nat.le_refl _)
  obtain ⟨kb, hkb⟩ : ∃ kb, w3.heap.size = kb := ⟨_, rfl⟩
  obtain ⟨rb, hrb⟩ : ∃ rb, w2.heap.size = rb := ⟨_, rfl⟩
  obtain ⟨sb, hsb⟩ : ∃ sb, w1.heap.size + 1 = sb := ⟨_, rfl⟩
  rw [hkb, hrb, hsb] at hT4
  rw [hkb, hrb, hsb]
  have hO4 := hT4.st.only
  have HT4 := Lib.hid hT4
  clear hw3 hw4 hB3 hB4 hk3 hk4 hs2 k2 hz3 hkb hrb hsb hT4 ho1
  refine (HNm.out _ hO4).mono ?_
  rintro e w5 ⟨v5, ts, rfl, hown5, hts8, k5⟩
  obtain ⟨A5, c5, rfl, -, -⟩ := own_form hown5
  obtain ⟨A6, cN, w6, hr6, hown6, hO6⟩ := appT1 hown5 k5.size (by omega) stream
  have hb5 := fun g hg => (World.ownsRow.lt hown5 g hg).1
  have k6 : Only [] w4 w6 := (k5.alloc _).step hO6 (fun g hg => .inr (hb5 g (by simpa using hg)))
  obtain ⟨g6, hg6⟩ : ∃ g6, A6 = some ⟨g6, 0, none⟩ := by
    rcases hown6.2 with ⟨e, h0⟩ | ⟨g, c0, cur, e, _⟩
    · simp at h0
    · injection e with e1 _ _
      exact ⟨g, e1⟩
  subst hg6
  have hg6 := World.ownsRow.lt hown6 g6 rfl
  have hlen6 : (ts ++ [stream]).length = ts.length + 1 := by simp
  have HR : RoundAt w w6 [g6] sb rb kb (.slice (some ⟨g6, 0, none⟩) (ts ++ [stream]).length cN) (ts ++ [stream]) 0 :=
    ⟨⟨_, _, _, _, _, HT4.out.addE k6 hg6.1 hg6.2, like_new⟩, by have := (Slc.of_own hown6).1; rw [hlen6] at this ⊢; exact this, fun g q => by cases q; simp⟩
  obtain ⟨us, hus⟩ : ∃ us, ts ++ [stream] = us := ⟨_, rfl⟩
  have hus9 : us.length ≤ 9 := by rw [← hus]; omega
  rw [← hlen6] at hr6
  rw [hus] at HR hr6
  have HR0 := Lib.hid HR
  have HR6 := Lib.hid hr6
  clear hown5 hown6 hO6 hb5 hr6 HR HT4 HNm hus hlen6 hts8 k5 hO4
  go_wp2_with (at_builtin; refine Lib.wpList_append_run _ rfl (.tmp 53) (.tmp 55) 41 41 rfl _ _ rfl rfl _ _ HR6.out ?_)
  clear HR6 k6 hg6
  go_loopw [13, 17] (fun sv iv wr => ∃ (k sb : Nat), k ≤ l.length ∧ iv = .int .i64 k ∧ sv = .pointer (some ⟨sb, 0, none⟩) ∧ Hid (RoundAt w wr [g6] sb rb kb (.slice (some ⟨g6, 0, none⟩) us.length cN) us k)) (fun _ iv _ => l.length - (intOf iv).toNat)
  case atStart => exact ⟨0, sb, Nat.zero_le _, rfl, rfl, HR0⟩
  case round =>
    clear HR0
    obtain ⟨k, sb, hk, rfl, rfl, hR⟩ := hrel
    by_cases hlt : k < l.length
    case neg =>
      obtain ⟨⟨mb, H, Hk, s, r, hT, hL⟩, -, -⟩ := hR.out
      have HK0 := Lib.hid hT.bk
      clear hR hT hL
      go_wp2_with fail
      refine (HAl.out _).mono ?_
      rintro e w7 ⟨rfl, k7⟩
      have hb7 := HK0.out.keep0 k7
      obtain ⟨⟨vt, vx, vi, vy, T, X, I, Y, hBk, hHk⟩, hbo, hba⟩ := hb7
      have HAp := Lib.hid (apart_any hBk)
      have HSub : Hid (∀ b ∈ blocksV T ++ blocksV I, w.heap.size ≤ b) := by
        intro b q
        refine hba b ?_
        rw [hHk]
        refine mem_hBk.2 ?_
        rcases List.mem_append.1 q with y | y
        · exact .inr (.inr (.inr (.inr (.inr (.inl (by rw [blocksV_app]; exact List.mem_append_right _ y))))))
        · exact .inr (.inr (.inr (.inr (.inr (.inr (by rw [blocksV_app]; exact List.mem_append_right _ y))))))
      clear hBk HK0 hba hHk
      go_wp2_with fail
      refine HAp.out.mono ?_
      rintro e w8 ⟨rfl, k8⟩
      clear HAp
      go_wp2
      go_ret
      exact ⟨rfl, hbo.step k8 (fun b q => .inr (HSub.out b q))⟩
    case pos =>
      have hOr : Only [] w wr := by
        obtain ⟨⟨mb, H, Hk, s, r, hT, hL⟩, -, -⟩ := hR.out
        exact hT.st.only
      obtain ⟨b, off, rfl, hbb, hba, hcc⟩ := Hel1.out k hlt
      obtain ⟨x, hx⟩ : ∃ x, l[k] = x := ⟨_, rfl⟩
      have hxm : x ∈ l := by rw [← hx]; exact List.getElem_mem hlt
      rw [hx] at hcc
      have hxo := (HC.out.cmd x hxm).1
      have hsx := (HC.out.cmd x hxm).2.1
      obtain ⟨Ax, capx, hxv, hx1, hx2, _⟩ := hsx.openE EventR.cells (fun _ => rfl)
      unfold maxLen at hx2
      have hcell : ∀ i, wr.cell? ⟨b, off + k * 8 + i, none⟩ = w.cell? ⟨b, off + k * 8 + i, none⟩ := fun i => hOr.cell hbb (by simp)
      have c0 : wr.cell? ⟨b, off + k * 8, none⟩ = some (.int .i64 x.c.kind) := (hcell 0).trans (hcc 0 (by omega))
      have c1 : wr.cell? ⟨b, off + k * 8 + 1, none⟩ = some (.int .i64 x.c.time) := (hcell _).trans (hcc 1 (by omega))
      have c2 : wr.cell? ⟨b, off + k * 8 + 2, none⟩ = some (.string x.c.stream) := (hcell _).trans (hcc 2 (by omega))
      have c3 : wr.cell? ⟨b, off + k * 8 + 3, none⟩ = some (.int .i64 x.c.expected) := (hcell _).trans (hcc 3 (by omega))
      have c4 : wr.cell? ⟨b, off + k * 8 + 4, none⟩ = some (.slice Ax x.c.events.length capx) := (hcell _).trans ((hcc 4 (by omega)).trans (by rw [← hxv]; rfl))
      have c5 : wr.cell? ⟨b, off + k * 8 + 5, none⟩ = some (.int .i64 x.c.mt.maxCount) := (hcell _).trans (hcc 5 (by omega))
      have c6 : wr.cell? ⟨b, off + k * 8 + 6, none⟩ = some (.int .i64 x.c.mt.maxAge) := (hcell _).trans (hcc 6 (by omega))
      have c7 : wr.cell? ⟨b, off + k * 8 + 7, none⟩ = some (.int .i64 x.c.mt.before) := (hcell _).trans (hcc 7 (by omega))
      have HCells := Lib.hid (fun (W : World) (hO : Only [] w W) (i : Nat) (hi : i < 8) => (hO.cell (p := ⟨b, off + k * 8 + i, none⟩) hbb (by simp)).trans (hcc i hi))
      clear hcell hcc hx
      have hszr := hOr.size
      have hbr : b < wr.heap.size := by omega
      go_upto_region 12 with (fail)
      go_cut [] (fun wx => ∃ g cap : Nat, Hid (CopyAt wr wx wr.heap.size g cap x))
      case first =>
        as_aux_lemma =>
          have hB1 := Blk.new wr 47 #[.int .i64 x.c.kind, .int .i64 x.c.time, .string x.c.stream, .int .i64 x.c.expected, .slice Ax x.c.events.length capx, .int .i64 x.c.mt.maxCount, .int .i64 x.c.mt.maxAge, .int .i64 x.c.mt.before]
          have hO1 := (Only.refl [] wr).alloc (.cells #[.int .i64 x.c.kind, .int .i64 x.c.time, .string x.c.stream, .int .i64 x.c.expected, .slice Ax x.c.events.length capx, .int .i64 x.c.mt.maxCount, .int .i64 x.c.mt.maxAge, .int .i64 x.c.mt.before] 47)
          obtain ⟨w1, hw1⟩ : ∃ w1, wr.alloc (.cells #[.int .i64 x.c.kind, .int .i64 x.c.time, .string x.c.stream, .int .i64 x.c.expected, .slice Ax x.c.events.length capx, .int .i64 x.c.mt.maxCount, .int .i64 x.c.mt.maxAge, .int .i64 x.c.mt.before] 47) = w1 := ⟨_, rfl⟩
          rw [hw1] at hB1 hO1 ⊢
          have hsx1 : Slc w1 4 (.slice Ax x.c.events.length capx) x.c.events.length (x.c.events.flatMap EventR.cells) := by
            have := hsx.only0 (hOr.trans hO1)
            rw [hxv] at this
            exact this
          have hnl : x.c.events.length ≤ 12 := HL12.out x hxm
          have HApp := Lib.hid (fun (W : World) (hW : Only [] w1 W) => run_app (P := Tryz.prog) 43 43 w1.heap.size 50 (.agg #[.int .i64 0, .string ⟨#[]⟩, .string ⟨#[]⟩, .float .f64 0]) 4 48 Tryz.underlying43 infoEv rfl (by decide) (World.ownsRow_nil W w1.heap.size 50 4) (hsx1.only0 hW) (ev_one _) (by omega) (by unfold maxLen; omega) hW.size)
          have c41 := (hO1.cell (p := ⟨b, off + k * 8 + 4, none⟩) hbr (by simp)).trans c4
          have d4 := Within.cell (S := []) c41 (by simp)
          have HR' := hR
          clear hR
          refine wp_region_fork [] [0, 1, 2, 3, 4, 6, 9, 10, 11, 12, 13, 14] 5 7 [8, 15, 16] [17] (by kernel_rfl) (by kernel_rfl) (by intro c d u a w h; cases d <;> exact h) ?_
          show wpQuiet _ _ _ _ [_, _, _, _, _, _, _, _, _, _, _, _] _
          repeat (go_big_quiet_step (fail))
          refine wpQuiet_nil ?_
          clear d4 c0 c1 c2 c3 c4 c5 c6 c7
          refine fork_intro (fun a0 a1 W => ∃ (A4 : Option Addr) (c4 g : Nat), a1 = (a0.put (some 72) (.slice A4 x.c.events.length c4)).put (some 74) (.slice (some ⟨g, 0, none⟩) 1 1) ∧ Only [] w1 W ∧ W.ownsRow w1.heap.size 50 4 (.slice A4 x.c.events.length c4) x.c.events.length (x.c.events.flatMap EventR.cells) ∧ Slc W 4 (.slice (some ⟨g, 0, none⟩) 1 1) 1 e77.cells) ?_ ?_ ?_
          · obtain ⟨A4, c4, w4, hr4, hown4, hO4, _⟩ := HApp.out w1.drew (Only.refl _ _).drew
            simp only [Nat.zero_add, List.nil_append] at hr4 hown4
            have hO4' : Only [] w1.drew w4 := by simpa [Value.ownBlock] using hO4
            have HR4 := Lib.hid hr4
            clear hr4 hO4
            show wpList _ _ _ [_] _ _
            go_wp2_with (at_builtin; refine Lib.wpList_append_run _ rfl (.const (.slice none 0 0)) (.tmp 71) 43 43 rfl _ _ rfl rfl _ _ HR4.out ?_)
            refine check_of (S := []) ((Only.refl [] _).drew.trans hO4') ?_
            show wpList _ _ _ [_] _ _
            go_wp2
            exact check_of (S := []) (((Only.refl [] _).drew.trans hO4').alloc _) ⟨A4, c4, w4.heap.size, rfl, ((Only.refl [] _).drew.trans hO4').alloc _, hown4.alloc _, slc_new1 (cs := e77.cells) rfl⟩
          · obtain ⟨A4, c4, w4, hr4, hown4, hO4, _⟩ := HApp.out (w1.drew.alloc (.cells e77.cells.toArray 50)) ((Only.refl _ _).drew.alloc _)
            simp only [Nat.zero_add, List.nil_append] at hr4 hown4
            have hO4' : Only [] (w1.drew.alloc (.cells e77.cells.toArray 50)) w4 := by simpa [Value.ownBlock] using hO4
            have HR4 := Lib.hid hr4
            clear hr4 hO4
            show wpList _ _ _ [_] _ _
            go_wp2
            refine check_of (S := []) ((Only.refl [] _).drew.alloc _) ?_
            show wpList _ _ _ [_] _ _
            go_wp2_with (at_builtin; refine Lib.wpList_append_run _ rfl (.const (.slice none 0 0)) (.tmp 71) 43 43 rfl _ _ rfl rfl _ _ HR4.out ?_)
            exact check_of (S := []) (((Only.refl [] _).drew.alloc _).trans hO4') ⟨A4, c4, w1.drew.heap.size, rfl, ((Only.refl [] _).drew.alloc _).trans hO4', hown4, (slc_new1 (cs := e77.cells) rfl).only0 hO4'⟩
          · rintro _ W ⟨A4, c4, g, rfl, hW, hown4, hs1⟩
            obtain ⟨A5, c5, w5, hr5, hown5, hO5, _⟩ := run_app (P := Tryz.prog) 43 43 w1.heap.size 50 (.agg #[.int .i64 0, .string ⟨#[]⟩, .string ⟨#[]⟩, .float .f64 0]) 4 48 Tryz.underlying43 infoEv rfl (by decide) hown4 hs1 (by simp [e77, EventR.cells, Value.oneCell']) (by omega) (by unfold maxLen; omega) hW.size
            have k5 : Only [] w1 w5 := hW.step hO5 (fun g hg => .inr (World.ownsRow.lt hown4 g (by simpa using hg)).1)
            obtain ⟨g5, hg5⟩ : ∃ g5, A5 = some ⟨g5, 0, none⟩ := by
              rcases hown5.2 with ⟨e, h0⟩ | ⟨g, c0, cur, e, _⟩
              · simp at h0
              · injection e with e1 _ _
                exact ⟨g, e1⟩
            subst hg5
            have hg5 := World.ownsRow.lt hown5 g5 rfl
            obtain ⟨_, _, e5, hnc5, hcm5⟩ := own_form hown5
            injection e5 with e51 e52 e53
            subst e51 e53
            unfold maxLen at hcm5
            have hs5 := (Slc.of_own hown5).1
            rw [show x.c.events.flatMap EventR.cells ++ e77.cells = (x.c.events ++ [e77]).flatMap EventR.cells from by simp] at hs5
            have HR5 := Lib.hid hr5
            clear hr5 hown4 hown5 hO5 hs1 e52
            have bB5 := k5.blk hB1 (by simp)
            have hB5 := fun i => bB5.cell i
            have hF5 := fun i => bB5.free i
            have hz1 : wr.heap.size < w1.heap.size := hB1.lt
            have HFin := Lib.hid (show CopyAt wr (w5.setCell ⟨wr.heap.size, 4, none⟩ (.slice (some ⟨g5, 0, none⟩) x.c.events.length _)) wr.heap.size g5 _ x from
              ⟨(hO1.trans k5).setCell (.inr (Nat.le_refl _)) _, bB5.set 4 _, by
                refine (hs5.only ((Only.refl [wr.heap.size] w5).setCell (p := ⟨wr.heap.size, 4, none⟩) (.inl (by simp)) _) (fun g hg q => ?_))
                cases hg
                simp at q
                omega, ⟨by omega, by simpa using hg5.2, Nat.le_refl _, by omega⟩⟩)
            clear hs5 HApp hsx1 hsx hB1
            show wpList _ _ _ [_] _ _
            try go_frame
            go_wp2_with (at_builtin; refine Lib.wpList_append_run _ rfl (.tmp 72) (.tmp 74) 43 43 rfl _ _ rfl rfl _ _ HR5.out ?_)
            refine check_of (S := []) k5 ?_
            show wpList _ _ _ [_] _ _
            go_wp2
            refine check_of (S := []) k5 ?_
            show wpList _ _ _ [_] _ _
            go_wp2
            refine check_of (S := []) k5 ?_
            show wpList _ _ _ [_] _ _
            try go_frame
            go_wp2
            go_meet
            exact ⟨g5, _, HFin⟩
      case rest =>
        rename World => wc
        obtain ⟨g, cap, hcp⟩ := hcut
        obtain ⟨mb, H, Hk, s, r, hT, hL⟩ := hR.out.ex
        have hT1 := hT.addEL hcp.out.only (L := [wr.heap.size, g]) (fun y hy => by
          have := hcp.out.fresh
          have := hcp.out.box.lt
          simp at hy
          rcases hy with rfl | rfl <;> omega)
        have hnm := hR.out.nm.only0 hcp.out.only
        have hnE := hR.out.nE
        obtain ⟨cb, hcb⟩ : ∃ cb, wr.heap.size = cb := ⟨_, rfl⟩
        have hO1 : Only [] w wc := hOr.trans hcp.out.only
        rw [hcb] at hT1 hcp ⊢
        have HT1 := Lib.hid hT1
        have HLk := Lib.hid hL
        have HNm := Lib.hid hnm
        have HNE := Lib.hid hnE
        clear hT hT1 hL hnm hnE hR c0 c1 c2 c3 c4 c5 c6 c7 hcb
        obtain ⟨n7, hn7⟩ : ∃ n : Int, bits .and .i64 (k : Int) 7 = n := ⟨_, rfl⟩
        obtain ⟨n8, hn8⟩ : ∃ n : Int, bits .and .i64 (k : Int) 8 = n := ⟨_, rfl⟩
        go_upto_if 86 with fail
        go_cut [13] (fun s13 wx => ∃ sb : Nat, s13 = .pointer (some ⟨sb, 0, none⟩) ∧ Hid (∃ mb, Trio w wx [] H Hk [cb, g, g6] sb mb rb kb s r k) ∧ Hid (Keeps w [cb, g, g6] wc wx))
        case first =>
          as_aux_lemma =>
            by_cases h5 : n7 = 5
            · have hb5 : (n7 == 5) = true := by simp [h5]
              have HCo := Lib.hid (pair_copy HT1.out.st HLk.out.few (by omega))
              clear h5
              go_wp2_with fail
              refine HCo.out.mono ?_
              rintro e w1 ⟨sc, mc, rfl, hP, k1⟩
              have HS1 := Lib.hid (pair_same hP.swap (by omega))
              go_wp2_with fail
              refine HS1.out.mono ?_
              rintro e w2 ⟨rfl, k2⟩
              have HS2 := Lib.hid (pair_same (hP.keep k2) (by omega))
              go_wp2_with fail
              refine HS2.out.mono ?_
              rintro e w3 ⟨rfl, k3⟩
              have hp3 := (hP.keep k2).keep k3
              have k03 := (k1.trans k2).trans k3
              clear HS1 HS2 HCo hP k1 k2 k3
              by_cases h8 : n8 = 0
              · have hb8 : (n8 == 0) = true := by simp [h8]
                clear h8
                have hz3 := hp3.only.size
                have ka := (Only.refl [] w3).alloc (.cells #[.int .i64 9, .string ⟨#[116]⟩, .string ⟨#[]⟩, .float .f64 0] 50)
                have hBz := Blk.new w3 50 #[.int .i64 9, .string ⟨#[116]⟩, .string ⟨#[]⟩, .float .f64 0]
                obtain ⟨w9, hw9⟩ : ∃ w9, w3.alloc (.cells #[.int .i64 9, .string ⟨#[116]⟩, .string ⟨#[]⟩, .float .f64 0] 50) = w9 := ⟨_, rfl⟩
                rw [hw9] at ka hBz
                have HP3 := Lib.hid hp3
                clear hp3
                go_wp2_with fail
                refine (lput_any _ _ _ _ _ _).mono ?_
                rintro e w4 ⟨rfl, k4⟩
                have HD := Lib.hid (pair_zz (HP3.out) (by omega) (ka.trans k4) (k4.blk hBz (by simp)) (Nat.le_refl _))
                go_wp2_with fail
                refine HD.out.mono ?_
                rintro e w5 ⟨⟨v5, rfl⟩, hs5, k5⟩
                have hT5 := (HT1.out.keep0 (k03.trans (ka.trans k4))).doS (fun y hy => List.mem_cons_of_mem _ hy) hs5 k5
                have HT5 := Lib.hid hT5.1
                have HK5 := Lib.hid ((Keeps.of0 (a := w) (R := [cb, g, g6]) (k03.trans (ka.trans k4))).trans hT5.2)
                clear hT5 hs5 k5 HD HP3 hw9
                go_wp2_with fail
                go_meet
                exact ⟨sc, rfl, Lib.hid ⟨mc, HT5.out⟩, HK5⟩
              · have hb8 : (n8 == 0) = false := by simp [h8]
                clear h8
                have hz3 := hp3.only.size
                have ka := (Only.refl [] w3).alloc (.cells #[.int .i64 9, .string ⟨#[116]⟩, .string ⟨#[]⟩, .float .f64 0] 50)
                have hBz := Blk.new w3 50 #[.int .i64 9, .string ⟨#[116]⟩, .string ⟨#[]⟩, .float .f64 0]
                obtain ⟨w9, hw9⟩ : ∃ w9, w3.alloc (.cells #[.int .i64 9, .string ⟨#[116]⟩, .string ⟨#[]⟩, .float .f64 0] 50) = w9 := ⟨_, rfl⟩
                rw [hw9] at ka hBz
                have HP3 := Lib.hid hp3
                clear hp3
                go_wp2_with fail
                refine (lput_any _ _ _ _ _ _).mono ?_
                rintro e w4 ⟨rfl, k4⟩
                have HD := Lib.hid (pair_zz (HP3.out.swap) (by omega) (ka.trans k4) (k4.blk hBz (by simp)) (Nat.le_refl _))
                go_wp2_with fail
                refine HD.out.mono ?_
                rintro e w5 ⟨⟨v5, rfl⟩, hs5, k5⟩
                have hT5 := (HT1.out.keep0 (k03.trans (ka.trans k4))).doS (fun y hy => List.mem_cons_of_mem _ hy) hs5 k5
                have HT5 := Lib.hid hT5.1
                have HK5 := Lib.hid ((Keeps.of0 (a := w) (R := [cb, g, g6]) (k03.trans (ka.trans k4))).trans hT5.2)
                clear hT5 hs5 k5 HD HP3 hw9
                go_wp2_with fail
                go_meet
                exact ⟨sb, rfl, Lib.hid ⟨mb, HT5.out⟩, HK5⟩
            · have hb5 : (n7 == 5) = false := by simp [h5]
              clear h5
              go_wp2_with fail
              go_meet
              exact ⟨sb, rfl, Lib.hid ⟨mb, HT1.out⟩, Lib.hid (Keeps.refl _ _ _)⟩
        case rest =>
          rename World => wd
          obtain ⟨sb, rfl, hT2, hK2⟩ := hcut
          obtain ⟨mb, hT2⟩ := hT2.out
          have hOd : Only [] w wd := hT2.st.only
          have hbx := hK2.out.blk hcp.out.box (.inr (by simp))
          have hrow := hK2.out.slc hcp.out.row (fun y hy => by cases hy; exact .inr (by simp))
          have hnm2 := hK2.out.slc HNm.out (fun y hy => by have := HNE.out y hy; exact .inr (by simp at this ⊢; simp [this]))
          have htk : ((x.c.events ++ [e77]).flatMap EventR.cells).take (x.c.events.length * 4) = x.c.events.flatMap EventR.cells := by
            rw [List.flatMap_append]
            exact List.take_left' (flat_len EventR.cells 4 x.c.events (fun _ _ => rfl))
          have hev := slc_take hrow (Nat.le_succ x.c.events.length)
          rw [htk] at hev
          have HRow := Lib.hid hrow
          have HEv := Lib.hid hev
          have HNm2 := Lib.hid hnm2
          have hc12 := HL12.out x hxm
          have hok := hT2.st.ok
          have hal := HLk.out.alike
          have hfine := hal.fine hok (by omega)
          have hrl : r.l.length ≤ 8 * k := by rw [hal.l]; exact hok.all
          have hdn : 0 ≤ r.done ∧ r.done ≤ k := by rw [hal.done]; exact hok.done
          have hsl := HLk.out.slen
          have HDo := Lib.hid (fun (W : World) (X H : List Nat) (h : HasS w W (X ++ (H ++ Hk)) [cb, g, g6] sb mb s k) (hs : Slc W 4 (.slice (some ⟨g, 0, none⟩) x.c.events.length cap) x.c.events.length (x.c.events.flatMap EventR.cells)) =>
            show Calls Tryz.prog 10 #[.pointer (some ⟨sb, 0, none⟩), .agg #[.int .i64 x.c.kind, .int .i64 x.c.time, .string x.c.stream, .int .i64 x.c.expected, .slice (some ⟨g, 0, none⟩) x.c.events.length cap, .int .i64 x.c.mt.maxCount, .int .i64 x.c.mt.maxAge, .int .i64 x.c.mt.before]] W fun e w' => e = .returned (s.do x.c).1.val ∧ HasS w w' (X ++ (H ++ Hk)) [cb, g, g6] sb mb (s.do x.c).2 (k + 1) ∧ Keeps w (X ++ (H ++ Hk) ++ [cb, g, g6]) W w' from
            has_do (c := x.c) h (by omega) hxo ⟨hs, fun y hy => by cases hy; exact .inl (.inr (by simp))⟩)
          have hsx0 : Slc w 4 (.slice Ax x.c.events.length capx) x.c.events.length (x.c.events.flatMap EventR.cells) := by rw [← hxv]; exact hsx
          have hxb : ∀ y, (Value.slice Ax x.c.events.length capx).ownBlock = some y → y < w.heap.size ∨ x.c.events = [] := by rw [← hxv]; exact (HC.out.cmd x hxm).2.2
          have HDd := Lib.hid (fun (W : World) (H : List Nat) (h : HasD w W H rb r) => show Calls Tryz.prog 12 #[.pointer (some ⟨rb, 0, none⟩), .agg #[.int .i64 x.c.kind, .int .i64 x.c.time, .string x.c.stream, .int .i64 x.c.expected, .slice Ax x.c.events.length capx, .int .i64 x.c.mt.maxCount, .int .i64 x.c.mt.maxAge, .int .i64 x.c.mt.before]] W fun e w' => e = .returned (s.do x.c).1.val ∧ DTo w W H rb (r.do x.c).2 w' from by
            rw [← (alike_do hal hT2.st.inv HLk.out.inv2 hok x.c).1]
            exact ddo_any h hfine (by omega) (by omega) x.c _ (hsx0.only0 h.only) (fun y hy => (hxb y hy).imp (fun z q => by have := h.above y q; omega) id) hxo (by omega))
          have HX := Lib.hid hxb
          have HTd := Lib.hid hT2
          have c0 := Kept.cell (a := w) (R := [cb, g, g6]) (show wd.cell? ⟨b, off + k * 8, none⟩ = some (.int .i64 x.c.kind) from HCells.out _ hOd 0 (by omega)) (.inl hbb)
          have c1 := Kept.cell (a := w) (R := [cb, g, g6]) (show wd.cell? ⟨b, off + k * 8 + 1, none⟩ = some (.int .i64 x.c.time) from HCells.out _ hOd 1 (by omega)) (.inl hbb)
          have c2 := Kept.cell (a := w) (R := [cb, g, g6]) (show wd.cell? ⟨b, off + k * 8 + 2, none⟩ = some (.string x.c.stream) from HCells.out _ hOd 2 (by omega)) (.inl hbb)
          have c3 := Kept.cell (a := w) (R := [cb, g, g6]) (show wd.cell? ⟨b, off + k * 8 + 3, none⟩ = some (.int .i64 x.c.expected) from HCells.out _ hOd 3 (by omega)) (.inl hbb)
          have c4 := Kept.cell (a := w) (R := [cb, g, g6]) (show wd.cell? ⟨b, off + k * 8 + 4, none⟩ = some (.slice Ax x.c.events.length capx) from (HCells.out _ hOd 4 (by omega)).trans (by rw [← hxv]; rfl)) (.inl hbb)
          have c5 := Kept.cell (a := w) (R := [cb, g, g6]) (show wd.cell? ⟨b, off + k * 8 + 5, none⟩ = some (.int .i64 x.c.mt.maxCount) from HCells.out _ hOd 5 (by omega)) (.inl hbb)
          have c6 := Kept.cell (a := w) (R := [cb, g, g6]) (show wd.cell? ⟨b, off + k * 8 + 6, none⟩ = some (.int .i64 x.c.mt.maxAge) from HCells.out _ hOd 6 (by omega)) (.inl hbb)
          have c7 := Kept.cell (a := w) (R := [cb, g, g6]) (show wd.cell? ⟨b, off + k * 8 + 7, none⟩ = some (.int .i64 x.c.mt.before) from HCells.out _ hOd 7 (by omega)) (.inl hbb)
          have b0 := Kept.cell (a := w) (R := [cb, g, g6]) (hbx.cell 0) (.inr (by simp))
          have b1 := Kept.cell (a := w) (R := [cb, g, g6]) (hbx.cell 1) (.inr (by simp))
          have b2 := Kept.cell (a := w) (R := [cb, g, g6]) (hbx.cell 2) (.inr (by simp))
          have b3 := Kept.cell (a := w) (R := [cb, g, g6]) (hbx.cell 3) (.inr (by simp))
          have b4 := Kept.cell (a := w) (R := [cb, g, g6]) (hbx.cell 4) (.inr (by simp))
          have b5 := Kept.cell (a := w) (R := [cb, g, g6]) (hbx.cell 5) (.inr (by simp))
          have b6 := Kept.cell (a := w) (R := [cb, g, g6]) (hbx.cell 6) (.inr (by simp))
          have b7 := Kept.cell (a := w) (R := [cb, g, g6]) (hbx.cell 7) (.inr (by simp))
          have hsf := stF
          clear hT2 hxb htk hrow hev hnm2 hsx0 hal hfine hrl hdn hsl hok hK2 hsx
          go_upto_region 21 with (fail)
          go_cut [20, 21] (fun s20 s21 wx => ∃ ba bb : Nat, s20 = .pointer (some ⟨ba, 0, none⟩) ∧ s21 = .pointer (some ⟨bb, 0, none⟩) ∧ Hid (∃ X H, Trio w wx X H Hk [cb, g, g6] sb mb rb kb (s.do x.c).2 (r.do x.c).2 (k + 1) ∧ ba ∈ X ∧ bb ∈ X ∧ Blk wx ba 54 (ansC (s.do x.c).1) ∧ Blk wx bb 54 (ansC (s.do x.c).1)) ∧ Hid (Keeps w [cb, g, g6] wd wx))
          case first =>
            as_aux_lemma =>
              refine wp_region_inv2 (C := fun W => ∃ p : Kept w [cb, g, g6] wd, W = p.W) [0, 1, 3, 4, 5, 6, 7] [2, 8, 9, 10, 11, 12] (by kernel_rfl) (by kernel_rfl) (by intro c d u a w h; cases d <;> exact h) ⟨⟨_, (Keeps.refl _ _ _).drew⟩, rfl⟩ ?_
              show wpQuiet _ _ _ _ [_, _, _, _, _, _, _] _
              repeat (go_big_quiet_step (fail))
              refine wpQuiet_nil ?_
              clear c0 c1 c2 c3 c4 c5 c6 c7 b0 b1 b2 b3 b4 b5 b6 b7
              refine inv_intro_k (DoI w wd [cb, g, g6] Hk sb mb rb kb s (s.do x.c).2 r (r.do x.c).2 k (s.do x.c).1) ?_ ?_ ?_
              · refine ⟨u20, u21, u119, u125, [], H, rfl, ?_, (Keeps.refl _ _ _).drew, ?_, ?_, ?_, ?_, ?_, ?_, ?_, ?_⟩
                · exact HTd.out.keep0 (Only.refl _ _).drew
                all_goals (intro q; exfalso; revert q; decide)
              · intro i2 hi listed ac W hr hI K HK
                obtain ⟨v20, v21, v119, v125, X, H, rfl, hD⟩ := hI
                have hself := ready_self hr
                have hset := flag_set hself.2
                simp only [List.mem_cons, List.not_mem_nil, or_false] at hi
                unfold DoI at HK
                have hkp := hD.kept
                rcases hi with rfl | rfl | rfl | rfl | rfl | rfl
                · rw [hself.1] at hD
                  have hev2 := hkp.slc HEv.out (fun y hy => by cases hy; exact .inr (by simp))
                  have h8 : listed.getD 8 false = false := by
                    cases q : listed.getD 8 false
                    · rfl
                    · cases hD.h82 q
                  have hD8 := hD
                  rw [h8] at hD8
                  have HD := Lib.hid (HDo.out W X H hD8.trio.st hev2)
                  have hk := HK.out
                  rw [hset 2, hset 8, hset 9, hset 10, hset 11, hset 12] at hk
                  have HKk := Lib.hid hk
                  have HDD := Lib.hid hD
                  clear hk HK hD hD8 hself hset h8
                  show wpList _ _ _ [_] _ _
                  go_frame
                  go_wp2_with (go_at_call 10; refine HD.out.mono ?_; rintro e W' ⟨rfl, hs', hk'⟩)
                  have hD' := HDD.out.step2 hs' hk'
                  exact check_kept hD'.kept (HKk.out _ _ ⟨v20, v21, _, v125, X, H, rfl, hD'⟩)
                · have h2 := ready_dep hr 2 (by kernel_rfl)
                  rw [hself.1, h2] at hD
                  have HD := Lib.hid (HDd.out W H hD.trio.doc)
                  have hk := HK.out
                  rw [hset 2, hset 8, hset 9, hset 10, hset 11, hset 12, h2] at hk
                  have HKk := Lib.hid hk
                  have HDD := Lib.hid hD
                  clear hk HK hD hself hset h2
                  show wpList _ _ _ [_] _ _
                  go_frame
                  go_wp2_with (go_at_call 12; refine HD.out.mono ?_; rintro e W' ⟨rfl, hd'⟩)
                  obtain ⟨H', hD'⟩ := HDD.out.step8 hd'
                  exact check_kept hD'.kept (HKk.out _ _ ⟨v20, v21, v119, _, X, H', rfl, hD'⟩)
                · rw [hself.1] at hD
                  have hk := HK.out
                  rw [hset 2, hset 8, hset 9, hset 10, hset 11, hset 12] at hk
                  have HKk := Lib.hid hk
                  have HDD := Lib.hid hD.step9
                  clear hk HK hD hself hset
                  show wpList _ _ _ [_] _ _
                  go_frame
                  go_wp2_with fail
                  exact check_kept HDD.out.kept (HKk.out _ _ ⟨_, v21, v119, v125, _, H, rfl, HDD.out⟩)
                · rw [hself.1] at hD
                  have hk := HK.out
                  rw [hset 2, hset 8, hset 9, hset 10, hset 11, hset 12] at hk
                  have HKk := Lib.hid hk
                  have HDD := Lib.hid hD.step10
                  clear hk HK hD hself hset
                  show wpList _ _ _ [_] _ _
                  go_frame
                  go_wp2_with fail
                  exact check_kept HDD.out.kept (HKk.out _ _ ⟨v20, _, v119, v125, _, H, rfl, HDD.out⟩)
                · have h2 := ready_dep hr 2 (by kernel_rfl)
                  have h8 := ready_dep hr 8 (by kernel_rfl)
                  have h9 := ready_dep hr 9 (by kernel_rfl)
                  have h10 := ready_dep hr 10 (by kernel_rfl)
                  rw [hself.1, h2, h8, h9, h10] at hD
                  have hk := HK.out
                  rw [hset 2, hset 8, hset 9, hset 10, hset 11, hset 12, h2, h8, h9, h10] at hk
                  obtain ⟨bx, rfl, q2, q4⟩ := hD.h9 rfl
                  obtain rfl := hD.h2 rfl
                  have q4 : Blk W bx 54 ans0 := q4
                  have HKk := Lib.hid hk
                  have HDD := Lib.hid hD
                  have d1 := fun i => q4.cell i
                  have d2 := fun i => q4.free i
                  have hOs := fun u v x y => ((((Only.refl [bx] W).setCell (p := ⟨bx, 0, none⟩) (.inl (by simp)) u).setCell (p := ⟨bx, 1, none⟩) (.inl (by simp)) v).setCell (p := ⟨bx, 2, none⟩) (.inl (by simp)) x).setCell (p := ⟨bx, 3, none⟩) (.inl (by simp)) y
                  have hBs := fun u v x y => (((q4.set 0 u).set 1 v).set 2 x).set 3 y
                  have HO := Lib.hid hOs
                  have HB := Lib.hid hBs
                  clear hk HK hD hself hset hOs hBs h2 h8 h9 h10 hr hkp
                  unfold ans0 at d1
                  unfold Ans.val
                  show wpList _ _ _ [_] _ _
                  go_frame
                  go_wp2_with fail
                  have hD' := HDD.out.step11 (HO.out _ _ _ _) (HB.out _ _ _ _)
                  exact check_kept hD'.kept (HKk.out _ _ ⟨_, v21, _, v125, X, H, rfl, hD'⟩)
                · have h2 := ready_dep hr 2 (by kernel_rfl)
                  have h8 := ready_dep hr 8 (by kernel_rfl)
                  have h9 := ready_dep hr 9 (by kernel_rfl)
                  have h10 := ready_dep hr 10 (by kernel_rfl)
                  have h11 := ready_dep hr 11 (by kernel_rfl)
                  rw [hself.1, h2, h8, h9, h10, h11] at hD
                  have hk := HK.out
                  rw [hset 2, hset 8, hset 9, hset 10, hset 11, hset 12, h2, h8, h9, h10, h11] at hk
                  obtain ⟨bx, rfl, q2, q4⟩ := hD.h10 rfl
                  obtain rfl := hD.h8 rfl
                  have q4 : Blk W bx 54 ans0 := q4
                  have HKk := Lib.hid hk
                  have HDD := Lib.hid hD
                  have d1 := fun i => q4.cell i
                  have d2 := fun i => q4.free i
                  have hOs := fun u v x y => ((((Only.refl [bx] W).setCell (p := ⟨bx, 0, none⟩) (.inl (by simp)) u).setCell (p := ⟨bx, 1, none⟩) (.inl (by simp)) v).setCell (p := ⟨bx, 2, none⟩) (.inl (by simp)) x).setCell (p := ⟨bx, 3, none⟩) (.inl (by simp)) y
                  have hBs := fun u v x y => (((q4.set 0 u).set 1 v).set 2 x).set 3 y
                  have HO := Lib.hid hOs
                  have HB := Lib.hid hBs
                  clear hk HK hD hself hset hOs hBs h2 h8 h9 h10 hr hkp h11
                  unfold ans0 at d1
                  unfold Ans.val
                  show wpList _ _ _ [_] _ _
                  go_frame
                  go_wp2_with fail
                  have hD' := HDD.out.step12 (HO.out _ _ _ _) (HB.out _ _ _ _)
                  exact check_kept hD'.kept (HKk.out _ _ ⟨v20, _, v119, _, X, H, rfl, hD'⟩)
              · intro listed ac W hI hall
                obtain ⟨v20, v21, v119, v125, X, H, rfl, hD⟩ := hI
                rw [hall 2 (by simp), hall 8 (by simp), hall 9 (by simp), hall 10 (by simp), hall 11 (by simp), hall 12 (by simp)] at hD
                obtain ⟨ba, rfl, p2, p3⟩ := hD.h9 rfl
                obtain ⟨bb, rfl, q2, q3⟩ := hD.h10 rfl
                have HF1 := Lib.hid (show ∃ X H, Trio w W X H Hk [cb, g, g6] sb mb rb kb (s.do x.c).2 (r.do x.c).2 (k + 1) ∧ ba ∈ X ∧ bb ∈ X ∧ Blk W ba 54 (ansC (s.do x.c).1) ∧ Blk W bb 54 (ansC (s.do x.c).1) from ⟨X, H, hD.trio, p2, q2, p3, q3⟩)
                have HF2 := Lib.hid hD.kept
                clear hD p2 q2 p3 q3 hall
                go_frame
                go_wp2_with fail
                go_meet
                exact ⟨ba, bb, rfl, rfl, HF1, HF2⟩
          case rest =>
            rename World => we
            obtain ⟨ba, bb, rfl, rfl, hdone, hKe⟩ := hcut
            obtain ⟨X, H1, hT3, hxa, hxb, hba3, hbb3⟩ := hdone.out
            have hL2 := HLk.out.did HTd.out.st.inv HTd.out.st.ok x.c
            obtain ⟨s2, hs2⟩ : ∃ s2, (s.do x.c).2 = s2 := ⟨_, rfl⟩
            obtain ⟨r2, hr2⟩ : ∃ r2, (r.do x.c).2 = r2 := ⟨_, rfl⟩
            obtain ⟨⟨n1, n2, n3, n4⟩, han⟩ : ∃ an, (s.do x.c).1 = an := ⟨_, rfl⟩
            rw [hs2, hr2] at hT3 hL2
            rw [han] at hba3 hbb3
            have hOe : Only [] w we := hT3.st.only
            have hbx3 := hKe.out.blk hbx (.inr (by simp))
            have hrow3 := hKe.out.slc HRow.out (fun y hy => by cases hy; exact .inr (by simp))
            have hev3 := hKe.out.slc HEv.out (fun y hy => by cases hy; exact .inr (by simp))
            have hnm3 := hKe.out.slc HNm2.out (fun y hy => by have := HNE.out y hy; exact .inr (by simp at this ⊢; simp [this]))
            have HSm := Lib.hid (fun (W : World) (k1 : Keeps w [cb, g, g6] we W) => show Calls Tryz.prog 13 #[.agg #[.int .i64 x.c.kind, .int .i64 x.c.time, .string x.c.stream, .int .i64 x.c.expected, .slice (some ⟨g, 0, none⟩) x.c.events.length cap, .int .i64 x.c.mt.maxCount, .int .i64 x.c.mt.maxAge, .int .i64 x.c.mt.before], .agg #[.int .i64 x.c.kind, .int .i64 x.c.time, .string x.c.stream, .int .i64 x.c.expected, .slice Ax x.c.events.length capx, .int .i64 x.c.mt.maxCount, .int .i64 x.c.mt.maxAge, .int .i64 x.c.mt.before]] W fun e w' => e = .returned (.bool true) ∧ Only [] W w' from
              r7same_refl x.c (k1.slc hev3 (fun y hy => by cases hy; exact .inr (by simp))) (by have := (HC.out.cmd x hxm).2.1; rw [hxv] at this; exact this.only0 (k1.only hOe)))
            have HSh := Lib.hid (fun (W : World) (k1 : Only [] we W) => shows_any (hT3.keep0 k1) hL2 (by omega) (hnm3.only0 k1) (fun y hy => by have := HNE.out y hy; simp at this ⊢; simp [this]) (by omega))
            have HT3 := Lib.hid hT3
            have HL2 := Lib.hid hL2
            have HBx3 := Lib.hid hbx3
            have HNm3 := Lib.hid hnm3
            have HRow3 := Lib.hid hrow3
            have HKe := Lib.hid hKe.out
            clear hdone hKe hbx HDo HDd HEv HRow HNm2 HTd HLk hs2 hr2 han hT3 hL2 hnm3 hev3 hrow3
            go_upto_region 22 with (fail)
            go_cut [161] (fun s161 wx => s161 = .bool false ∧ Hid (∃ Hk', Trio w wx [] H1 Hk' [cb, g, g6] sb mb rb kb s2 r2 (k + 1)) ∧ Hid (Keeps w [cb, g, g6] we wx))
            case first =>
              as_aux_lemma =>
                have hcg := HRow3.out
                obtain ⟨_, _, ecg, hcg1, hcg2, hcg3, hcg4⟩ := hcg
                cases ecg
                unfold maxLen at hcg3
                obtain ⟨gb, goff, ecg4, hgb, hgc⟩ := hcg4 (by omega)
                cases ecg4
                have h77 : we.cell? ⟨g, x.c.events.length * 4, none⟩ = some (.int .i64 77) := by
                  have := hgc (x.c.events.length * 4) (by omega)
                  rw [Nat.zero_add] at this
                  rw [this, List.flatMap_append, List.getElem?_append_right (by rw [flat_len EventR.cells 4 x.c.events (fun _ _ => rfl)]; exact Nat.le_refl _), flat_len EventR.cells 4 x.c.events (fun _ _ => rfl), Nat.sub_self]
                  rfl
                unfold ansC at hba3 hbb3
                have c0 := Kept.cell (a := w) (R := [ba, bb, cb, g, g6]) (show we.cell? ⟨b, off + k * 8, none⟩ = some (.int .i64 x.c.kind) from HCells.out _ hOe 0 (by omega)) (.inl hbb)
                have c1 := Kept.cell (a := w) (R := [ba, bb, cb, g, g6]) (show we.cell? ⟨b, off + k * 8 + 1, none⟩ = some (.int .i64 x.c.time) from HCells.out _ hOe 1 (by omega)) (.inl hbb)
                have c2 := Kept.cell (a := w) (R := [ba, bb, cb, g, g6]) (show we.cell? ⟨b, off + k * 8 + 2, none⟩ = some (.string x.c.stream) from HCells.out _ hOe 2 (by omega)) (.inl hbb)
                have c3 := Kept.cell (a := w) (R := [ba, bb, cb, g, g6]) (show we.cell? ⟨b, off + k * 8 + 3, none⟩ = some (.int .i64 x.c.expected) from HCells.out _ hOe 3 (by omega)) (.inl hbb)
                have c4 := Kept.cell (a := w) (R := [ba, bb, cb, g, g6]) (show we.cell? ⟨b, off + k * 8 + 4, none⟩ = some (.slice Ax x.c.events.length capx) from (HCells.out _ hOe 4 (by omega)).trans (by rw [← hxv]; rfl)) (.inl hbb)
                have c5 := Kept.cell (a := w) (R := [ba, bb, cb, g, g6]) (show we.cell? ⟨b, off + k * 8 + 5, none⟩ = some (.int .i64 x.c.mt.maxCount) from HCells.out _ hOe 5 (by omega)) (.inl hbb)
                have c6 := Kept.cell (a := w) (R := [ba, bb, cb, g, g6]) (show we.cell? ⟨b, off + k * 8 + 6, none⟩ = some (.int .i64 x.c.mt.maxAge) from HCells.out _ hOe 6 (by omega)) (.inl hbb)
                have c7 := Kept.cell (a := w) (R := [ba, bb, cb, g, g6]) (show we.cell? ⟨b, off + k * 8 + 7, none⟩ = some (.int .i64 x.c.mt.before) from HCells.out _ hOe 7 (by omega)) (.inl hbb)
                have b0 := Kept.cell (a := w) (R := [ba, bb, cb, g, g6]) (HBx3.out.cell 0) (.inr (by simp))
                have b1 := Kept.cell (a := w) (R := [ba, bb, cb, g, g6]) (HBx3.out.cell 1) (.inr (by simp))
                have b2 := Kept.cell (a := w) (R := [ba, bb, cb, g, g6]) (HBx3.out.cell 2) (.inr (by simp))
                have b3 := Kept.cell (a := w) (R := [ba, bb, cb, g, g6]) (HBx3.out.cell 3) (.inr (by simp))
                have b4 := Kept.cell (a := w) (R := [ba, bb, cb, g, g6]) (HBx3.out.cell 4) (.inr (by simp))
                have b5 := Kept.cell (a := w) (R := [ba, bb, cb, g, g6]) (HBx3.out.cell 5) (.inr (by simp))
                have b6 := Kept.cell (a := w) (R := [ba, bb, cb, g, g6]) (HBx3.out.cell 6) (.inr (by simp))
                have b7 := Kept.cell (a := w) (R := [ba, bb, cb, g, g6]) (HBx3.out.cell 7) (.inr (by simp))
                have a0 := Kept.cell (a := w) (R := [ba, bb, cb, g, g6]) (hba3.cell 0) (.inr (by simp))
                have a1 := Kept.cell (a := w) (R := [ba, bb, cb, g, g6]) (hba3.cell 1) (.inr (by simp))
                have a2 := Kept.cell (a := w) (R := [ba, bb, cb, g, g6]) (hba3.cell 2) (.inr (by simp))
                have a3 := Kept.cell (a := w) (R := [ba, bb, cb, g, g6]) (hba3.cell 3) (.inr (by simp))
                have d0 := Kept.cell (a := w) (R := [ba, bb, cb, g, g6]) (hbb3.cell 0) (.inr (by simp))
                have d1 := Kept.cell (a := w) (R := [ba, bb, cb, g, g6]) (hbb3.cell 1) (.inr (by simp))
                have d2 := Kept.cell (a := w) (R := [ba, bb, cb, g, g6]) (hbb3.cell 2) (.inr (by simp))
                have d3 := Kept.cell (a := w) (R := [ba, bb, cb, g, g6]) (hbb3.cell 3) (.inr (by simp))
                have g0 := Kept.cell (a := w) (R := [ba, bb, cb, g, g6]) h77 (.inr (by simp))
                have hkr : Keeps w [ba, bb, cb, g, g6] we we.drew := (Keeps.refl _ _ _).drew
                have hkd : Only [] we we.drew := (Only.refl _ _).drew
                have hc12 := HL12.out x hxm
                clear hgc hcg1 hcg4 h77
                refine wp_region_stages (C := fun W => ∃ p : Kept w [ba, bb, cb, g, g6] we, W = p.W) [([0, 1, 2, 3, 4, 5, 6, 7, 8], [9]), ([10, 11, 12, 13, 14, 15, 16, 17, 18, 19, 20, 21, 22, 23, 24, 25, 26, 27, 28, 29, 30, 31, 32], [33]), ([34, 35], [])] [] (by kernel_rfl) (by kernel_rfl) (by intro c d u a w h; cases d <;> exact h) ⟨⟨_, hkr⟩, rfl⟩ ?_
                refine stagesFirst ?_
                show wpQuiet _ _ _ _ [_, _, _, _, _, _, _, _, _] _
                repeat (go_big_quiet_step (fail))
                refine wpQuiet_nil ?_
                show wpList _ _ _ [_] _ _
                go_wp2_with (go_at_call 13; refine (HSm.out _ (hkr.less (by simp))).mono ?_; rintro e w1 ⟨rfl, k1⟩)
                refine check_kept (hkr.then0 k1) ?_
                refine stagesNext ?_
                show wpQuiet _ _ _ _ [_, _, _, _, _, _, _, _, _, _, _, _, _, _, _, _, _, _, _, _, _, _, _] _
                try go_frame
                repeat (go_big_quiet_step (fail))
                refine wpQuiet_nil ?_
                show wpList _ _ _ [_] _ _
                go_wp2_with (go_at_call 14; refine (HSh.out _ (hkd.trans k1)).mono ?_; rintro e w2 ⟨rfl, hto⟩)
                obtain ⟨Hk', hT', hK'⟩ := hto
                have HF1 := Lib.hid (show ∃ Hk', Trio w w2 [] H1 Hk' [cb, g, g6] sb mb rb kb s2 r2 (k + 1) from ⟨Hk', hT'.less (by simp) (fun _ q => q)⟩)
                refine check_kept ((hkr.then0 k1).trans (hK'.less (fun y hy => by simp at hy ⊢; rcases hy with rfl | rfl | q; exact .inl hxa; exact .inl hxb; exact .inr q))) ?_
                refine stagesNext ?_
                show wpQuiet _ _ _ _ [_, _] _
                try go_frame
                repeat (go_big_quiet_step (fail))
                refine wpQuiet_nil ?_
                refine stagesEnd0 ?_
                go_wp2_with fail
                go_meet
                exact ⟨rfl, HF1, Lib.hid (((Keeps.refl w [cb, g, g6] we).drew.then0 k1).trans (hK'.less (by simp)))⟩
            case rest =>
              rename World => wf
              obtain ⟨rfl, hTf, hKf⟩ := hcut
              obtain ⟨Hk2, hT4⟩ := hTf.out
              have hnm4 := hKf.out.slc HNm3.out (fun y hy => by have := HNE.out y hy; exact .inr (by simp at this ⊢; simp [this]))
              obtain ⟨ps, pn, pe, pr, uu, un, ue, ur, xo, is, L, hps, huu, hLl, hxo, his, hrd⟩ := reads_any HL2.out hT4.st.inv hT4.st.ok (by omega) stream hst fr n ver back
              have HRd := Lib.hid (fun W X H Hk (h : Trio w W X H Hk [cb, g, g6] sb mb rb kb s2 r2 (k + 1)) => hrd w W X H Hk [cb, g, g6] sb mb rb kb h)
              have HT4 := Lib.hid hT4
              have HNm4 := Lib.hid hnm4
              have HXo := Lib.hid hxo
              have HIs := Lib.hid his
              clear hTf hKf hT4 hnm4 hrd hxo his HSm HSh HRow3 HBx3 HNm3 hba3 hbb3 hbx3
              go_wp2_with fail
              refine ((HRd.out _ _ _ _ HT4.out).1).mono ?_
              rintro e y1 ⟨Ap, cpp, rfl, own1, k1⟩
              have t1 := (HT4.out.addRow k1 own1).boxX (.cells #[.slice Ap ps.length cpp, .int .i64 pn, .bool pe] 60)
              have bp := Blk.new y1 60 #[.slice Ap ps.length cpp, .int .i64 pn, .bool pe]
              have j1 := (Only.refl [] y1).alloc (.cells #[.slice Ap ps.length cpp, .int .i64 pn, .bool pe] 60)
              obtain ⟨z1, hz1⟩ : ∃ z1, y1.alloc (.cells #[.slice Ap ps.length cpp, .int .i64 pn, .bool pe] 60) = z1 := ⟨_, rfl⟩
              rw [hz1] at t1 bp j1
              have T1 := Lib.hid t1
              clear t1
              go_wp2_with fail
              try rw [hz1]
              refine ((HRd.out _ _ _ _ T1.out).2.1).mono ?_
              rintro e y2 ⟨Aq, cpq, rfl, own2, k2⟩
              have t2 := (T1.out.keep0 k2).boxX (.cells #[.slice Aq ps.length cpq, .int .i64 pn, .bool pe] 60)
              have bq := Blk.new y2 60 #[.slice Aq ps.length cpq, .int .i64 pn, .bool pe]
              have j2 := (Only.refl [] y2).alloc (.cells #[.slice Aq ps.length cpq, .int .i64 pn, .bool pe] 60)
              obtain ⟨z2, hz2⟩ : ∃ z2, y2.alloc (.cells #[.slice Aq ps.length cpq, .int .i64 pn, .bool pe] 60) = z2 := ⟨_, rfl⟩
              rw [hz2] at t2 bq j2
              have T2 := Lib.hid t2
              clear t2 T1
              go_wp2_with fail
              try rw [hz2]
              refine ((HRd.out _ _ _ _ T2.out).2.2.1).mono ?_
              rintro e y3 ⟨Au, cpu, rfl, own3, k3⟩
              have t3 := (T2.out.addRow k3 own3).boxX (.cells #[.slice Au uu.length cpu, .int .i64 un, .bool ue] 60)
              have bu := Blk.new y3 60 #[.slice Au uu.length cpu, .int .i64 un, .bool ue]
              have j3 := (Only.refl [] y3).alloc (.cells #[.slice Au uu.length cpu, .int .i64 un, .bool ue] 60)
              obtain ⟨z3, hz3⟩ : ∃ z3, y3.alloc (.cells #[.slice Au uu.length cpu, .int .i64 un, .bool ue] 60) = z3 := ⟨_, rfl⟩
              rw [hz3] at t3 bu j3
              have T3 := Lib.hid t3
              clear t3 T2
              go_wp2_with fail
              try rw [hz3]
              refine ((HRd.out _ _ _ _ T3.out).2.2.2.1).mono ?_
              rintro e y4 ⟨Av, cpv, rfl, own4, k4⟩
              have t4 := (T3.out.keep0 k4).boxX (.cells #[.slice Av uu.length cpv, .int .i64 un, .bool ue] 60)
              have bv := Blk.new y4 60 #[.slice Av uu.length cpv, .int .i64 un, .bool ue]
              have j4 := (Only.refl [] y4).alloc (.cells #[.slice Av uu.length cpv, .int .i64 un, .bool ue] 60)
              obtain ⟨z4, hz4⟩ : ∃ z4, y4.alloc (.cells #[.slice Av uu.length cpv, .int .i64 un, .bool ue] 60) = z4 := ⟨_, rfl⟩
              rw [hz4] at t4 bv j4
              clear T3
              -- the sizes
              have s1 := k1.size
              have s2' := k2.size
              have s3 := k3.size
              have s4 := k4.size
              have s5 := bp.lt
              have s6 := bq.lt
              have s7 := bu.lt
              have s8 := bv.lt
              have l1 := fun y hy => World.ownsRow.lt own1 y hy
              have l3 := fun y hy => World.ownsRow.lt own3 y hy
              -- all rows and boxes at z4
              have d2 := k2.trans j2
              have d3 := k3.trans j3
              have d4 := k4.trans j4
              have e14 := j1.trans (d2.trans (d3.trans d4))
              have e24 := j2.trans (d3.trans d4)
              have e34 := j3.trans d4
              have p4 := own_only own1 e14 (by simp)
              have q4 := own_only own2 e24 (by simp)
              have u4 := own_only own3 e34 (by simp)
              have v4 := own_only own4 j4 (by simp)
              have bp4 := (d2.trans (d3.trans d4)).blk bp (by simp)
              have bq4 := (d3.trans d4).blk bq (by simp)
              have bu4 := d4.blk bu (by simp)
              have HE4 := Lib.hid (k1.trans e14)
              have hkP := Lib.hid (bstored_any t4.bk (own_base p4 (Nat.zero_le _)) (fun y hy => ⟨(t4.dx y (by simp [hy])).2, (t4.st.rl y (by simp [hy])).1⟩) hps)
              have T4 := Lib.hid t4
              have BP4 := Lib.hid bp4
              have BQ4 := Lib.hid bq4
              have BU4 := Lib.hid bu4
              have BV4 := Lib.hid bv
              have P4 := Lib.hid p4
              have Q4 := Lib.hid q4
              have U4 := Lib.hid u4
              have V4 := Lib.hid v4
              have f1 := fun i => bp4.cell i
              clear t4 bp4 bq4 bu4 bv p4 q4 u4 v4 d2 d3 d4 e34 e14 e24 own1 own2 own3 own4 j1 j2 j3 j4 k1 k2 k3 k4 bp bq bu HT4
              go_wp2_with fail
              try rw [hz4]
              refine hkP.out.mono ?_
              rintro e w5 ⟨rfl, hK5⟩
              obtain ⟨Hk3, t5, kk5, ⟨S5, o5, sS5, ty5⟩⟩ := T4.out.keep1 (X' := y4.heap.size :: y3.heap.size :: ((Value.slice Au uu.length cpu).ownBlock.toList ++ [y2.heap.size, y1.heap.size])) (fun y hy => by simp [hy])
                (fun y hy => ⟨by simp at hy ⊢; rcases hy with q | q | q | q | q <;> simp [q], fun q => by
                  have h1 := l1 y q
                  simp at hy
                  rcases hy with rfl | rfl | hu | rfl | rfl
                  · omega
                  · omega
                  · have h3 := l3 y hu
                    omega
                  · omega
                  · omega⟩) hK5
              have P5 := Lib.hid (row_stays P4.out (.inl rfl) o5 ty5)
              have Q5 := Lib.hid (row_stays Q4.out (.inl rfl) o5 ty5)
              have U5 := Lib.hid (row_stays U4.out (.inl rfl) o5 ty5)
              have V5 := Lib.hid (row_stays V4.out (.inl rfl) o5 ty5)
              have BP5 := Lib.hid (kk5.blk BP4.out (.inr (by simp)))
              have BQ5 := Lib.hid (kk5.blk BQ4.out (.inr (by simp)))
              have BU5 := Lib.hid (kk5.blk BU4.out (.inr (by simp)))
              have BV5 := Lib.hid (kk5.blk BV4.out (.inr (by simp)))
              have HNm5 := Lib.hid (kk5.slc (HNm4.out.only0 HE4.out) (fun y hy => .inr (by have := HNE.out y hy; simp at this ⊢; simp [this])))
              have hkU := Lib.hid (bstored_any t5.bk (own_base U5.out (Nat.zero_le _)) (fun y hy => ⟨(t5.dx y (by simp [hy])).2, (t5.st.rl y (by simp [hy])).1⟩) huu)
              have T5 := Lib.hid t5
              have f2 := fun i => BU5.out.cell i
              have s9 := o5.size
              clear t5 hK5 o5 sS5 ty5 kk5 f1 hkP T4 P4 Q4 U4 V4 BP4 BQ4 BU4 BV4
              go_wp2_with fail
              refine hkU.out.mono ?_
              rintro e w6 ⟨rfl, hK6⟩
              obtain ⟨Hk4, t6, kk6, ⟨S6, o6, sS6, ty6⟩⟩ := T5.out.keep1 (X' := [y4.heap.size, y3.heap.size, y2.heap.size, y1.heap.size]) (fun y hy => by simp [hy])
                (fun y hy => ⟨by simp at hy ⊢; rcases hy with q | q | q | q <;> simp [q], fun q => by
                  have h3 := l3 y q
                  simp at hy
                  rcases hy with rfl | rfl | rfl | rfl <;> omega⟩) hK6
              have P6 := Lib.hid (Slc.of_own (row_stays P5.out (.inl rfl) o6 ty6)).1
              have Q6 := Lib.hid (Slc.of_own (row_stays Q5.out (.inl rfl) o6 ty6)).1
              have U6 := Lib.hid (Slc.of_own (row_stays U5.out (.inl rfl) o6 ty6)).1
              have V6 := Lib.hid (Slc.of_own (row_stays V5.out (.inl rfl) o6 ty6)).1
              have m1 := fun y hy => World.ownsRow.lt (row_stays P5.out (.inl rfl) o6 ty6) y hy
              have m2 := fun y hy => World.ownsRow.lt (row_stays Q5.out (.inl rfl) o6 ty6) y hy
              have m3 := fun y hy => World.ownsRow.lt (row_stays U5.out (.inl rfl) o6 ty6) y hy
              have m4 := fun y hy => World.ownsRow.lt (row_stays V5.out (.inl rfl) o6 ty6) y hy
              have BP6 := Lib.hid (kk6.blk BP5.out (.inr (by simp)))
              have BQ6 := Lib.hid (kk6.blk BQ5.out (.inr (by simp)))
              have BU6 := Lib.hid (kk6.blk BU5.out (.inr (by simp)))
              have BV6 := Lib.hid (kk6.blk BV5.out (.inr (by simp)))
              have HNm6 := Lib.hid (kk6.slc HNm5.out (fun y hy => .inr (by have := HNE.out y hy; simp at this ⊢; simp [this])))
              have T6 := Lib.hid t6
              clear t6 hK6 o6 sS6 ty6 kk6 f2 hkU T5 P5 Q5 U5 V5 BP5 BQ5 BU5 BV5 HNm5 l1 l3 s1 s2' s3 s4 s9
              go_wp2_with fail
              refine ((HRd.out _ _ _ _ T6.out).2.2.2.2.1).mono ?_
              rintro e w7 ⟨rfl, k7⟩
              have t7 := ((T6.out.keep0 k7).boxX (.cells #[.int .i64 xo.ev.id, .string xo.ev.type, .string xo.ev.data, .float .f64 xo.ev.value, .string xo.stream, .int .i64 xo.version, .int .i64 xo.position, .int .i64 xo.time] 66)).boxX (.cells #[.int .i64 0, .string ⟨#[]⟩, .string ⟨#[]⟩, .float .f64 0, .string ⟨#[]⟩, .int .i64 0, .int .i64 0, .int .i64 0] 66)
              have bx := ((Only.refl [] _).alloc (.cells #[.int .i64 0, .string ⟨#[]⟩, .string ⟨#[]⟩, .float .f64 0, .string ⟨#[]⟩, .int .i64 0, .int .i64 0, .int .i64 0] 66)).blk (Blk.new w7 66 #[.int .i64 xo.ev.id, .string xo.ev.type, .string xo.ev.data, .float .f64 xo.ev.value, .string xo.stream, .int .i64 xo.version, .int .i64 xo.position, .int .i64 xo.time]) (by simp)
              have bz := Blk.new (w7.alloc (.cells #[.int .i64 xo.ev.id, .string xo.ev.type, .string xo.ev.data, .float .f64 xo.ev.value, .string xo.stream, .int .i64 xo.version, .int .i64 xo.position, .int .i64 xo.time] 66)) 66 #[.int .i64 0, .string ⟨#[]⟩, .string ⟨#[]⟩, .float .f64 0, .string ⟨#[]⟩, .int .i64 0, .int .i64 0, .int .i64 0]
              have j7 := ((Only.refl [] w7).alloc (.cells #[.int .i64 xo.ev.id, .string xo.ev.type, .string xo.ev.data, .float .f64 xo.ev.value, .string xo.stream, .int .i64 xo.version, .int .i64 xo.position, .int .i64 xo.time] 66)).alloc (.cells #[.int .i64 0, .string ⟨#[]⟩, .string ⟨#[]⟩, .float .f64 0, .string ⟨#[]⟩, .int .i64 0, .int .i64 0, .int .i64 0] 66)
              have sz7 : (w7.alloc (.cells #[.int .i64 xo.ev.id, .string xo.ev.type, .string xo.ev.data, .float .f64 xo.ev.value, .string xo.stream, .int .i64 xo.version, .int .i64 xo.position, .int .i64 xo.time] 66)).heap.size = w7.heap.size + 1 := by simp
              rw [sz7] at bz t7
              obtain ⟨z7, hz7⟩ : ∃ z7, (w7.alloc (.cells #[.int .i64 xo.ev.id, .string xo.ev.type, .string xo.ev.data, .float .f64 xo.ev.value, .string xo.stream, .int .i64 xo.version, .int .i64 xo.position, .int .i64 xo.time] 66)).alloc (.cells #[.int .i64 0, .string ⟨#[]⟩, .string ⟨#[]⟩, .float .f64 0, .string ⟨#[]⟩, .int .i64 0, .int .i64 0, .int .i64 0] 66) = z7 := ⟨_, rfl⟩
              rw [hz7] at t7 bx bz j7
              have T7 := Lib.hid t7
              clear t7 T6
              go_wp2_with fail
              try rw [hz7]
              refine ((HRd.out _ _ _ _ T7.out).2.2.2.2.2).mono ?_
              rintro e w8 ⟨AL, cL, rfl, own8, k8⟩
              have l8 := fun y hy => (World.ownsRow.lt own8 y hy).1
              have hS8 := (Slc.of_own own8).1
              obtain ⟨_, _, e8, hnL, hcL, heL⟩ := hS8.openE StoredR.cells (fun _ => rfl)
              cases e8
              unfold maxLen at hcL
              have HeL := Lib.hid heL
              have k68 := (k7.trans j7).trans k8
              have T8 := Lib.hid (T7.out.keep0 k8)
              have P8 := Lib.hid (P6.out.only0 k68)
              have Q8 := Lib.hid (Q6.out.only0 k68)
              have U8 := Lib.hid (U6.out.only0 k68)
              have V8 := Lib.hid (V6.out.only0 k68)
              have BP8 := Lib.hid (k68.blk BP6.out (by simp))
              have BQ8 := Lib.hid (k68.blk BQ6.out (by simp))
              have BU8 := Lib.hid (k68.blk BU6.out (by simp))
              have BV8 := Lib.hid (k68.blk BV6.out (by simp))
              have BX8 := Lib.hid (k8.blk bx (by simp))
              have hb8 := k8.blk bz (by simp)
              have HNm8 := Lib.hid (HNm6.out.only0 k68)
              have n7 := k7.size
              have n1 := BP6.out.lt
              have n2 := BQ6.out.lt
              have n3 := BU6.out.lt
              have n4 := BV6.out.lt
              have n8 := bz.lt
              obtain ⟨b32, hb32⟩ : ∃ b32, w7.heap.size + 1 = b32 := ⟨_, rfl⟩
              rw [hb32] at hb8 n8 T8
              have m5 : b32 < w8.heap.size := hb8.lt
              clear heL hS8 own8 k7 j7 k8 k68 T7 P6 Q6 U6 V6 BP6 BQ6 BU6 BV6 HNm6 bx bz hz1 hz2 hz3 hz4 hz7 sz7
              go_wp2_with fail
              go_loopw [33, 35] (fun iv jv wq => ∃ j : Nat, j ≤ L.length ∧ jv = .int .i64 j ∧ iv = .bool (wantAt stream ver (L.take j)).isSome ∧ Hid (Only [b32] w8 wq ∧ Blk wq b32 66 (stC ((wantAt stream ver (L.take j)).getD StoredR.zero)))) (fun _ jv _ => L.length - (intOf jv).toNat)
              case atStart => exact ⟨0, Nat.zero_le _, rfl, by rw [List.take_zero, wantAt_zero]; rfl, Lib.hid ⟨Only.refl _ _, by rw [List.take_zero, wantAt_zero]; exact hb8⟩⟩
              case round =>
                rename World => wl
                obtain ⟨j, hj, rfl, rfl, hl⟩ := hrel
                obtain ⟨hOl, hbl⟩ := hl.out
                clear hb8
                by_cases hlt2 : j < L.length
                · by_cases hse : stream.toList = []
                  · have hse1 : stream.toList.isEmpty = true := by rw [hse]; rfl
                    have hwx : wantAt stream ver (L.take j) = wantAt stream ver L := by rw [wantAt_nil hse, wantAt_nil hse]
                    as_aux_lemma =>
                      have hq1 : (wantAt stream ver (L.take j)).isSome = is := by rw [hwx]; exact HIs.out
                      have hq2 : (wantAt stream ver (L.take j)).getD StoredR.zero = xo := by rw [hwx]; exact HXo.out
                      rw [hq1]
                      rw [hq2] at hbl
                      have htr := T8.out.turnX hOl (by simp)
                      have HT9 := Lib.hid htr.1
                      have HN9 := Lib.hid (htr.2.slc HNm8.out (fun y hy => .inr (by have := HNE.out y hy; simp at this ⊢; simp [this])))
                      have P9 := Lib.hid (P8.out.only hOl (fun y hy q => by simp at q; have := m1 y hy; omega))
                      have Q9 := Lib.hid (Q8.out.only hOl (fun y hy q => by simp at q; have := m2 y hy; omega))
                      have U9 := Lib.hid (U8.out.only hOl (fun y hy q => by simp at q; have := m3 y hy; omega))
                      have V9 := Lib.hid (V8.out.only hOl (fun y hy q => by simp at q; have := m4 y hy; omega))
                      have BP9 := Lib.hid (hOl.blk BP8.out (by simp; omega))
                      have BQ9 := Lib.hid (hOl.blk BQ8.out (by simp; omega))
                      have BU9 := Lib.hid (hOl.blk BU8.out (by simp; omega))
                      have BV9 := Lib.hid (hOl.blk BV8.out (by simp; omega))
                      have BX9 := Lib.hid (hOl.blk BX8.out (by simp; omega))
                      have BZ9 := Lib.hid hbl
                      have HSS := Lib.hid (fun (W : World) => r7sameS_any xo xo W)
                      rw [sameS_refl] at HSS
                      have gp := fun i => BP9.out.cell i
                      have gq := fun i => BQ9.out.cell i
                      clear htr hbl hOl hwx hq1 hq2 P8 Q8 U8 V8 BP8 BQ8 BU8 BV8 BX8 T8 HNm8 m1 m2 m3 m4 hl
                      go_wp2_with fail
                      refine (r7page_refl P9.out Q9.out pn pe).mono ?_
                      rintro e v1 ⟨rfl, i1⟩
                      have gu := fun i => (i1.blk BU9.out (by simp)).cell i
                      have gv := fun i => (i1.blk BV9.out (by simp)).cell i
                      clear gp gq
                      go_wp2_with fail
                      refine (r7page_refl (U9.out.only0 i1) (V9.out.only0 i1) un ue).mono ?_
                      rintro e v2 ⟨rfl, i2⟩
                      have gx := fun i => ((i1.trans i2).blk BX9.out (by simp)).cell i
                      have gz := fun i => ((i1.trans i2).blk BZ9.out (by simp)).cell i
                      unfold stC at gz
                      clear gu gv
                      go_wp2_with fail
                      refine (HSS.out v2).mono ?_
                      rintro e v3 ⟨rfl, i3⟩
                      have i13 := (i1.trans i2).trans i3
                      have HFin := Lib.hid (show RoundAt w v3 [g6] sb rb kb (.slice (some ⟨g6, 0, none⟩) us.length cN) us (k + 1) from ⟨⟨mb, H1, Hk4, s2, r2, (HT9.out.keep0 i13).less (by simp) (by simp), HL2.out⟩, HN9.out.only0 i13, HNE.out⟩)
                      clear gx gz HSS P9 Q9 U9 V9 BP9 BQ9 BU9 BV9 BX9 BZ9 HT9 HN9
                      go_wp2_with fail
                      go_round
                      case rel => exact ⟨k + 1, sb, hlt, by simp, rfl, HFin⟩
                      case measure => simp [intOf]; omega
                  · have hse1 : stream.toList.isEmpty = false := by
                      cases q : stream.toList
                      · exact absurd q hse
                      · rfl
                    obtain ⟨eb, eoff, rfl, heb, hec⟩ := HeL.out j hlt2
                    have hne := l8 eb rfl
                    obtain ⟨y, hy⟩ : ∃ y, L[j] = y := ⟨_, rfl⟩
                    rw [hy] at hec
                    have hel : ∀ i, wl.cell? ⟨eb, eoff + j * 8 + i, none⟩ = w8.cell? ⟨eb, eoff + j * 8 + i, none⟩ := fun i => hOl.cell heb (by simp; omega)
                    have e0 : wl.cell? ⟨eb, eoff + j * 8, none⟩ = some (.int .i64 y.ev.id) := (hel 0).trans (hec 0 (by omega))
                    have e1 : wl.cell? ⟨eb, eoff + j * 8 + 1, none⟩ = some (.string y.ev.type) := (hel 1).trans (hec 1 (by omega))
                    have e2 : wl.cell? ⟨eb, eoff + j * 8 + 2, none⟩ = some (.string y.ev.data) := (hel 2).trans (hec 2 (by omega))
                    have e3 : wl.cell? ⟨eb, eoff + j * 8 + 3, none⟩ = some (.float .f64 y.ev.value) := (hel 3).trans (hec 3 (by omega))
                    have e4 : wl.cell? ⟨eb, eoff + j * 8 + 4, none⟩ = some (.string y.stream) := (hel 4).trans (hec 4 (by omega))
                    have e5 : wl.cell? ⟨eb, eoff + j * 8 + 5, none⟩ = some (.int .i64 y.version) := (hel 5).trans (hec 5 (by omega))
                    have e6 : wl.cell? ⟨eb, eoff + j * 8 + 6, none⟩ = some (.int .i64 y.position) := (hel 6).trans (hec 6 (by omega))
                    have e7 : wl.cell? ⟨eb, eoff + j * 8 + 7, none⟩ = some (.int .i64 y.time) := (hel 7).trans (hec 7 (by omega))
                    have hws := Lib.hid (wantAt_succ hse ver L hlt2)
                    have e9 := IntWalk.i64_in ((j : Int) + 1) ⟨by omega, by omega⟩
                    obtain ⟨u, hu⟩ : ∃ u, (wantAt stream ver (L.take j)).getD StoredR.zero = u := ⟨_, rfl⟩
                    obtain ⟨ub, hub⟩ : ∃ ub, (wantAt stream ver (L.take j)).isSome = ub := ⟨_, rfl⟩
                    rw [hub]
                    rw [hu] at hbl
                    by_cases hv : y.version = ver
                    · have hvb : (y.version == ver) = true := by simp [hv]
                      have z0 := fun i => hbl.cell i
                      have zf := fun i => hbl.free i
                      have hOs := fun u0 u1 u2 u3 u4 u5 u6 u7 => (((((((hOl.setCell (p := ⟨b32, 0, none⟩) (.inl (by simp)) u0).setCell (p := ⟨b32, 1, none⟩) (.inl (by simp)) u1).setCell (p := ⟨b32, 2, none⟩) (.inl (by simp)) u2).setCell (p := ⟨b32, 3, none⟩) (.inl (by simp)) u3).setCell (p := ⟨b32, 4, none⟩) (.inl (by simp)) u4).setCell (p := ⟨b32, 5, none⟩) (.inl (by simp)) u5).setCell (p := ⟨b32, 6, none⟩) (.inl (by simp)) u6).setCell (p := ⟨b32, 7, none⟩) (.inl (by simp)) u7
                      have hBs := fun u0 u1 u2 u3 u4 u5 u6 u7 => (((((((hbl.set 0 u0).set 1 u1).set 2 u2).set 3 u3).set 4 u4).set 5 u5).set 6 u6).set 7 u7
                      have HO := Lib.hid hOs
                      have HB := Lib.hid hBs
                      have Hwy := Lib.hid (show wantAt stream ver (L.take (j + 1)) = some y from by rw [hws.out, hy, if_pos hv])
                      clear hOs hBs hec hel hu hub hbl hOl hl hws hy hv
                      unfold stC at z0
                      go_wp2_with fail
                      go_round
                      case rel => exact ⟨j + 1, hlt2, by simp, by rw [Hwy.out]; rfl, Lib.hid ⟨HO.out _ _ _ _ _ _ _ _, by rw [Hwy.out]; exact HB.out _ _ _ _ _ _ _ _⟩⟩
                      case measure => simp [intOf]; omega
                    · have hvb : (y.version == ver) = false := by simp [hv]
                      have Hwy := Lib.hid (show wantAt stream ver (L.take (j + 1)) = wantAt stream ver (L.take j) from by rw [hws.out, hy, if_neg hv])
                      have hbl2 := Lib.hid hbl
                      have HU := Lib.hid hu
                      have HUb := Lib.hid hub
                      clear hec hel hu hub hbl hl hws hy hv
                      go_wp2_with fail
                      go_round
                      case rel => exact ⟨j + 1, hlt2, by simp, by rw [Hwy.out, HUb.out], Lib.hid ⟨hOl, by rw [Hwy.out, HU.out]; exact hbl2.out⟩⟩
                      case measure => simp [intOf]; omega
                · have hwx : wantAt stream ver (L.take j) = wantAt stream ver L := by rw [List.take_of_length_le (by omega)]
                  as_aux_lemma =>
                    have hq1 : (wantAt stream ver (L.take j)).isSome = is := by rw [hwx]; exact HIs.out
                    have hq2 : (wantAt stream ver (L.take j)).getD StoredR.zero = xo := by rw [hwx]; exact HXo.out
                    rw [hq1]
                    rw [hq2] at hbl
                    have htr := T8.out.turnX hOl (by simp)
                    have HT9 := Lib.hid htr.1
                    have HN9 := Lib.hid (htr.2.slc HNm8.out (fun y hy => .inr (by have := HNE.out y hy; simp at this ⊢; simp [this])))
                    have P9 := Lib.hid (P8.out.only hOl (fun y hy q => by simp at q; have := m1 y hy; omega))
                    have Q9 := Lib.hid (Q8.out.only hOl (fun y hy q => by simp at q; have := m2 y hy; omega))
                    have U9 := Lib.hid (U8.out.only hOl (fun y hy q => by simp at q; have := m3 y hy; omega))
                    have V9 := Lib.hid (V8.out.only hOl (fun y hy q => by simp at q; have := m4 y hy; omega))
                    have BP9 := Lib.hid (hOl.blk BP8.out (by simp; omega))
                    have BQ9 := Lib.hid (hOl.blk BQ8.out (by simp; omega))
                    have BU9 := Lib.hid (hOl.blk BU8.out (by simp; omega))
                    have BV9 := Lib.hid (hOl.blk BV8.out (by simp; omega))
                    have BX9 := Lib.hid (hOl.blk BX8.out (by simp; omega))
                    have BZ9 := Lib.hid hbl
                    have HSS := Lib.hid (fun (W : World) => r7sameS_any xo xo W)
                    rw [sameS_refl] at HSS
                    have gp := fun i => BP9.out.cell i
                    have gq := fun i => BQ9.out.cell i
                    clear htr hbl hOl hwx hq1 hq2 P8 Q8 U8 V8 BP8 BQ8 BU8 BV8 BX8 T8 HNm8 m1 m2 m3 m4 hl
                    go_wp2_with fail
                    refine (r7page_refl P9.out Q9.out pn pe).mono ?_
                    rintro e v1 ⟨rfl, i1⟩
                    have gu := fun i => (i1.blk BU9.out (by simp)).cell i
                    have gv := fun i => (i1.blk BV9.out (by simp)).cell i
                    clear gp gq
                    go_wp2_with fail
                    refine (r7page_refl (U9.out.only0 i1) (V9.out.only0 i1) un ue).mono ?_
                    rintro e v2 ⟨rfl, i2⟩
                    have gx := fun i => ((i1.trans i2).blk BX9.out (by simp)).cell i
                    have gz := fun i => ((i1.trans i2).blk BZ9.out (by simp)).cell i
                    unfold stC at gz
                    clear gu gv
                    go_wp2_with fail
                    refine (HSS.out v2).mono ?_
                    rintro e v3 ⟨rfl, i3⟩
                    have i13 := (i1.trans i2).trans i3
                    have HFin := Lib.hid (show RoundAt w v3 [g6] sb rb kb (.slice (some ⟨g6, 0, none⟩) us.length cN) us (k + 1) from ⟨⟨mb, H1, Hk4, s2, r2, (HT9.out.keep0 i13).less (by simp) (by simp), HL2.out⟩, HN9.out.only0 i13, HNE.out⟩)
                    clear gx gz HSS P9 Q9 U9 V9 BP9 BQ9 BU9 BV9 BX9 BZ9 HT9 HN9
                    go_wp2_with fail
                    go_round
                    case rel => exact ⟨k + 1, sb, hlt, by simp, rfl, HFin⟩
                    case measure => simp [intOf]; omega
end Go.Proofs.YtikboecmcbcghaaGreat
/- ModelPlays: the walk as the row wants it. -/
set_option linter.unusedVariables false
namespace Go.Proofs.YtikboecmcbcghaaGreat
open Go.RowKit Go Go.Sort
theorem playsW (v1 : Value) (l : List CmdV) (stream : ByteArray) (hst : stream.size ≤ maxLen) (fr : Int) (h1 : (Lit.int .i64 fr).wf = true) (n : Int) (h2 : (Lit.int .i64 n).wf = true) (ver : Int) (h3 : (Lit.int .i64 ver).wf = true) (back : Bool) (W : World)
    (x0 : Slc W 8 v1 l.length (l.flatMap CmdV.cells)) (y0 : ∀ o ∈ l, o.Ok W ∧ o.cells.length = 8) (z0 : ∀ g, v1.ownBlock = some g → g < W.heap.size ∨ l = []) :
    Calls Tryz.prog 3 #[v1, .string stream, .int .i64 fr, .int .i64 n, .int .i64 ver, .bool back] W fun e W' => e = .returned (.bool true) ∧ Only [] W W' :=
  plays_go W v1 l stream fr n ver back (CmdsAt.of x0 y0 z0) hst
end Go.Proofs.YtikboecmcbcghaaGreat
