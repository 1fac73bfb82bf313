/- Contract: the laws' walk over all pages. -/
import Derived.Test.YtefkhkbkengniaaMpg3
import Derived.Deep.DeepCutAuto
set_option linter.unusedVariables false
set_option linter.unusedSimpArgs false
namespace Go.Proofs.Ytefkhkbkengniaa
open Go.RowKit
theorem run_append_nothing {P : Program} (w : World) (t e ty : TypeId) (A : Option Addr) (size n cap c : Nat) (ht : P.underlying t = some (.slice e)) (hs : (Go.sizeOf e).run P w = .ok size w) (hnc : n ≤ cap) :
    (Builtin.append_ #[t, t] ty #[.slice A n cap, .slice none 0 c]).run P w = .ok (.slice A n cap) w := by
  cases A <;> simp [Builtin.append_, run_underlying ht, hs, hnc, Builtin.lenOf, Builtin.firstCells, storeCells]
def MS.pageOf (s : MS) (stream : ByteArray) (n at_ : Int) : PageR × Int := if stream.toList = [] then forwardBy StoredR.position s.seenAll at_ n else s.readF stream at_ n
theorem seenL_few {s : MS} {N : Nat} (hs : s.Ok N) (hN : N ≤ 100000) (n : ByteArray) : (s.seenL n).length ≤ 1000000 := by
  have hx := (hs.xok n).few
  have hal := hs.all
  unfold MS.seenL
  split
  · simp
  · simp; omega
theorem readF_few {s : MS} {N : Nat} (hs : s.Ok N) (hN : N ≤ 100000) (n : ByteArray) (f k : Int) : (s.readF n f k).1.events.length ≤ 1000000 := by
  unfold MS.readF
  split
  · simp [PageR.zero]
  split
  · simp [PageR.zero]
  split
  · simp [PageR.zero]
  · have := forwardBy_few StoredR.version (s.seenL n) f k
    have := seenL_few hs hN n
    omega
theorem cells_one (l : List StoredR) : ∀ u ∈ l.flatMap StoredR.cells, u.oneCell' = true := by
  intro u hu
  obtain ⟨x, _, hx⟩ := List.mem_flatMap.1 hu
  simp [StoredR.cells, EventR.cells] at hx
  rcases hx with rfl | rfl | rfl | rfl | rfl | rfl | rfl | rfl <;> rfl
section
variable {a w : World} {R E : List Nat} {sb mb N : Nat} {s : MS}
set_option maxRecDepth 100000 in
set_option maxHeartbeats 4000000 in
theorem walk_any (h : HasS a w R E sb mb s N) (hN : N ≤ 100000) (stream : ByteArray) (hst : stream.size ≤ maxLen) (n : Int) :
    Calls Try.prog 26 #[.pointer (some ⟨sb, 0, none⟩), .string stream, .int .i64 n] w fun e w' => ∃ v, e = .returned v ∧ w'.ownsRow w.heap.size 48 8 v (walkP (s.pageOf stream n) 300 0).length ((walkP (s.pageOf stream n) 300 0).flatMap StoredR.cells) ∧ Only [] w w' := by
  obtain ⟨j0, hj, hy0, hy1, hy2⟩ := info_parts infoSt
  have hal := h.ok.all
  have hfA : ∀ f, (forwardBy StoredR.position s.seenAll f n).1.events.length ≤ 1000000 := fun f => by
    have h1 := forwardBy_few StoredR.position s.seenAll f n
    have h2 : s.seenAll.length ≤ s.all.length := List.length_filter_le _ _
    omega
  have hfR := fun f => readF_few h.ok hN stream f n
  obtain ⟨L, hL⟩ : ∃ L, L = walkP (s.pageOf stream n) 300 0 := ⟨_, rfl⟩
  rw [← hL]
  have HL := Lib.hid hL
  clear hL
  go_enter Try.func26, Try.ntmps26
  go_wp2
  go_loopw [7, 8, 9] (fun o at_ i wr => ∃ (k : Nat) (f : Int) (acc : List StoredR), k ≤ 300 ∧ i = .int .i64 k ∧ at_ = .int .i64 f ∧ acc.length ≤ k * 1000000 ∧ Hid (L = acc ++ walkP (s.pageOf stream n) (300 - k) f) ∧ Only [] w wr ∧ wr.ownsRow w.heap.size 48 8 o acc.length (acc.flatMap StoredR.cells)) (fun _ _ i _ => 300 - (intOf i).toNat)
  case atStart => exact ⟨0, 0, [], by omega, rfl, rfl, by simp, HL, Only.refl _ _, World.ownsRow_nil _ _ _ _⟩
  case round =>
    obtain ⟨k, f, acc, hk, rfl, rfl, hac, hT, hO, hown⟩ := hrel
    by_cases hlt : k < 300
    · have hA := has_all (h.keep hO) hN f n
      have hfa := hfA f
      have hfr := hfR f
      have hRd := fun (W : World) (hW : Only [] wr W) => has_read (h.keep (hO.trans hW)) hN stream hst f n
      obtain ⟨m, hm⟩ : ∃ m, 300 - k = m + 1 := ⟨299 - k, by omega⟩
      have hst : 300 - (k + 1) = m := by omega
      have hT2 : L = acc ++ (if (s.pageOf stream n f).2 = 0 then (s.pageOf stream n f).1.events ++ (if (s.pageOf stream n f).1.isEnd then [] else walkP (s.pageOf stream n) m (s.pageOf stream n f).1.next) else []) := by
        rw [hT.out, hm]
        rfl
      obtain ⟨Ao, co, rfl, hco1, hco2⟩ := own_form hown
      by_cases hemp : stream.toList = []
      · have hpg : s.pageOf stream n f = forwardBy StoredR.position s.seenAll f n := by unfold MS.pageOf; rw [if_pos hemp]
        rw [hpg] at hT2
        obtain ⟨r, hr⟩ : ∃ r, r = forwardBy StoredR.position s.seenAll f n := ⟨_, rfl⟩
        rw [← hr] at hT2 hA hfa
        obtain ⟨⟨evs, nx, en⟩, err⟩ := r
        dsimp only at hT2 hA hfa
        clear hr hpg hRd hT hfr hfA hfR
        have HA := Lib.hid hA
        clear hA
        go_wp2_with fail
        refine HA.out.mono ?_
        rintro e w1 ⟨v1, rfl, hown1, ho1⟩
        have hlw1 := ho1.size
        have hO1 := hO.trans ho1
        have hw1 := own_only hown ho1 (by simp)
        have hAo := hown.lt
        have hpn : ∀ g, (Value.slice Ao acc.length co).ownBlock = some g → g ≠ w1.heap.size := fun g hg => by have := hAo g hg; omega
        rcases own_blk hown1 with ⟨rfl, rfl⟩ | ⟨g, cap, cs, rest, rfl, hbg, hB, hnc, hcm, hsz, hcs⟩
        · go_upto_region 9 with (fail)
          obtain ⟨W3, hW3⟩ : ∃ W3, w1.alloc (.cells #[.slice none 0 0, .int .i64 nx, .bool en] 60) = W3 := ⟨_, rfl⟩
          obtain ⟨pb, hpb⟩ : ∃ pb, w1.heap.size = pb := ⟨_, rfl⟩
          have hO3 : Only [] w W3 := by rw [← hW3]; exact hO1.alloc _
          have hown3 := own_only hw1 ((Only.refl [] w1).alloc (.cells #[.slice none 0 0, .int .i64 nx, .bool en] 60)) (by simp)
          have HB3 := Blk.new w1 60 #[.slice none 0 0, .int .i64 nx, .bool en]
          have hpn3 := hpn
          have HW3 := Lib.hid hW3
          rw [hW3, hpb] at HB3
          rw [hW3] at hown3
          rw [hpb] at hpn3
          rw [hW3, hpb]
          clear hW3 hpb hown hw1 hO1 hO hpn hAo hlw1
          have d0 := HB3.cell 0
          have d1 := HB3.cell 1
          have d2 := HB3.cell 2
          by_cases herr : err = 0
          · subst herr
            have happ := fun ty => run_append_nothing W3 45 48 ty Ao 8 acc.length co 0 Try.underlying45 (sizeStV _) hco1
            simp only [List.nil_append, if_true] at hT2
            cases en with
            | true =>
              have HN : Hid (L = acc) := by unfold Hid; rw [hT2]; simp
              clear hT2 happ
              cases Ao with
              | none =>
                go_wp2
                go_ret
                exact ⟨_, rfl, by rw [HN.out]; exact hown3, hO3⟩
              | some ad =>
                go_wp2
                go_ret
                exact ⟨_, rfl, by rw [HN.out]; exact hown3, hO3⟩
            | false =>
              have HN : Hid (L = acc ++ walkP (s.pageOf stream n) (300 - (k + 1)) nx) := by unfold Hid; rw [hT2, hst]; simp
              clear hT2 happ
              cases Ao with
              | none =>
                go_wp2
                exact ⟨⟨k + 1, nx, acc, hlt, by simp, rfl, Nat.le_trans hac (Nat.mul_le_mul_right _ (Nat.le_succ k)), HN, hO3, hown3⟩, by simp [intOf]; omega⟩
              | some ad =>
                go_wp2
                exact ⟨⟨k + 1, nx, acc, hlt, by simp, rfl, Nat.le_trans hac (Nat.mul_le_mul_right _ (Nat.le_succ k)), HN, hO3, hown3⟩, by simp [intOf]; omega⟩
          · have HN : Hid (L = acc) := by unfold Hid; rw [hT2, if_neg herr, List.append_nil]
            have herb : (err != 0) = true := by rw [bne_iff_ne]; exact herr
            clear hT2
            go_wp2
            go_ret
            exact ⟨_, rfl, by rw [HN.out]; exact hown3, hO3⟩
        · go_upto_region 9 with (fail)
          obtain ⟨W3, hW3⟩ : ∃ W3, w1.alloc (.cells #[.slice (some ⟨g, 0, none⟩) evs.length cap, .int .i64 nx, .bool en] 60) = W3 := ⟨_, rfl⟩
          obtain ⟨pb, hpb⟩ : ∃ pb, w1.heap.size = pb := ⟨_, rfl⟩
          have hO3 : Only [] w W3 := by rw [← hW3]; exact hO1.alloc _
          have hown3 := own_only hw1 ((Only.refl [] w1).alloc (.cells #[.slice (some ⟨g, 0, none⟩) evs.length cap, .int .i64 nx, .bool en] 60)) (by simp)
          have HB3 := Blk.new w1 60 #[.slice (some ⟨g, 0, none⟩) evs.length cap, .int .i64 nx, .bool en]
          have hpn3 := hpn
          have HW3 := Lib.hid hW3
          rw [hW3, hpb] at HB3
          rw [hW3] at hown3
          rw [hpb] at hpn3
          rw [hW3, hpb]
          clear hW3 hpb hown hw1 hO1 hO hpn hAo hlw1
          have HBg := ((Only.refl [] w1).alloc (.cells #[.slice (some ⟨g, 0, none⟩) evs.length cap, .int .i64 nx, .bool en] 60)).blk hB (by simp)
          rw [HW3.out] at HBg
          have d0 := HB3.cell 0
          by_cases herr : err = 0
          · subst herr
            simp only [if_true] at hT2
            have HT3 := Lib.hid hT2
            have hsz3 := hO3.size
            clear hT2
            go_wp2_with (at_builtin; refine wpList_append_own _ rfl (.tmp 36) (.tmp 38) 45 rfl w.heap.size 48 j0 (.agg #[.int .i64 0, .string ⟨#[]⟩, .string ⟨#[]⟩, .float .f64 0, .string ⟨#[]⟩, .int .i64 0, .int .i64 0, .int .i64 0]) 8 88 Try.underlying45 hj hy0 hy1 hy2 rfl (by decide) (.slice Ao acc.length co) acc.length _ rfl hown3 ⟨g, 0, none⟩ evs.length cap (evs.flatMap StoredR.cells) rfl (flat_len StoredR.cells 8 evs (fun _ _ => rfl)) ?c1 (cells_one evs) ?c3 ?c4 ?c5 ?_)
            case c1 =>
              intro q u hu
              have hq : q < (evs.flatMap StoredR.cells).length := (List.getElem?_eq_some_iff.1 hu).1
              rw [show ((⟨g, 0, none⟩ : Addr).add q) = ⟨g, q, none⟩ by simp [Addr.add]; omega, HBg.cell q, ← Array.getElem?_toList, hcs, List.getElem?_append_left hq]
              exact hu
            case c3 => unfold maxLen; omega
            case c4 => omega
            case c5 => exact hsz3
            intro v' w4 hown4 hgrow _
            have hO4 : Only [] w w4 := hO3.grown hgrow (fun i hi => .inr (hown3.lt i hi).1)
            have hO34 : Only (Value.slice Ao acc.length co).ownBlock.toList W3 w4 := (Only.refl _ W3).grown hgrow (fun i hi => .inl (by simp [hi]))
            have HB4 := hO34.blk HB3 (fun q => by simp at q; exact hpn3 _ q rfl)
            have e1 := HB4.cell 1
            have e2 := HB4.cell 2
            have hown5 : w4.ownsRow w.heap.size 48 8 v' (acc ++ evs).length ((acc ++ evs).flatMap StoredR.cells) := by
              rw [List.flatMap_append, List.length_append]
              exact hown4
            clear hgrow hown4 hown3 hO34 HB4 HB3 HBg d0 hB hcs
            cases en with
            | true =>
              have HN : Hid (L = acc ++ evs) := by unfold Hid; rw [HT3.out]; simp
              go_wp2
              go_ret
              exact ⟨_, rfl, by rw [HN.out]; exact hown5, hO4⟩
            | false =>
              have HN : Hid (L = (acc ++ evs) ++ walkP (s.pageOf stream n) (300 - (k + 1)) nx) := by unfold Hid; rw [HT3.out, hst]; simp
              go_wp2
              exact ⟨⟨k + 1, nx, acc ++ evs, hlt, by simp, rfl, by simp; omega, HN, hO4, hown5⟩, by simp [intOf]; omega⟩
          · have HN : Hid (L = acc) := by unfold Hid; rw [hT2, if_neg herr, List.append_nil]
            have herb : (err != 0) = true := by rw [bne_iff_ne]; exact herr
            clear hT2
            go_wp2
            go_ret
            exact ⟨_, rfl, by rw [HN.out]; exact hown3, hO3⟩
      · have hpg : s.pageOf stream n f = s.readF stream f n := by unfold MS.pageOf; rw [if_neg hemp]
        rw [hpg] at hT2
        obtain ⟨r, hr⟩ : ∃ r, r = s.readF stream f n := ⟨_, rfl⟩
        rw [← hr] at hT2 hRd hfr
        obtain ⟨r0, hr0⟩ : ∃ r0, r0 = forwardBy StoredR.position s.seenAll f n := ⟨_, rfl⟩
        rw [← hr0] at hA hfa
        obtain ⟨⟨evs, nx, en⟩, err⟩ := r
        obtain ⟨⟨evs0, nx0, en0⟩, err0⟩ := r0
        dsimp only at hT2 hA hfa hRd hfr
        clear hr hr0 hpg hT hfA hfR hfa
        have HA := Lib.hid hA
        have HR := Lib.hid hRd
        clear hA hRd
        go_wp2_with fail
        refine HA.out.mono ?_
        rintro e w0 ⟨v0, rfl, hown0, ho0⟩
        obtain ⟨A0, cap0, rfl, _, _⟩ := own_form hown0
        clear hown0
        have hemb : stream.toList.isEmpty = false := by rw [List.isEmpty_eq_false_iff]; exact hemp
        go_wp2_with fail
        refine (HR.out _ (ho0.alloc _)).mono ?_
        rintro e w1 ⟨v1, rfl, hown1, ho1⟩
        have hO1 := (hO.trans (ho0.alloc (.cells #[.slice A0 evs0.length cap0, .int .i64 nx0, .bool en0] 60))).trans ho1
        have hw1 := own_only hown ((ho0.alloc (.cells #[.slice A0 evs0.length cap0, .int .i64 nx0, .bool en0] 60)).trans ho1) (by simp)
        have hAo := hown.lt
        have hlw0 := ho0.size
        have hpn : ∀ g, (Value.slice Ao acc.length co).ownBlock = some g → g ≠ w0.heap.size := fun g hg => by have := hAo g hg; omega
        have HBx := ho1.blk (Blk.new w0 60 #[.slice A0 evs0.length cap0, .int .i64 nx0, .bool en0]) (by simp)
        have hpc := fun i => HBx.cell i
        have hpf := fun i => HBx.free i
        rcases own_blk hown1 with ⟨rfl, rfl⟩ | ⟨g, cap, cs, rest, rfl, hbg, hB, hnc, hcm, hsz, hcs⟩
        · go_upto_region 9 with (fail)
          obtain ⟨W3, hW3⟩ : ∃ W3, ((w1.setCell ⟨w0.heap.size, 0, none⟩ (.slice none 0 0)).setCell ⟨w0.heap.size, 1, none⟩ (.int .i64 nx)).setCell ⟨w0.heap.size, 2, none⟩ (.bool en) = W3 := ⟨_, rfl⟩
          have hO3 : Only [] w W3 := by
            rw [← hW3]
            iterate 3 (refine Only.setCell ?_ (.inr (by have := hO.size; simp; omega)) _)
            exact hO1
          have hown3 : W3.ownsRow w.heap.size 48 8 (.slice Ao acc.length co) acc.length (acc.flatMap StoredR.cells) := by
            rw [← hW3]
            refine own_only hw1 (S := [w0.heap.size]) ?_ (fun g hg => by simpa using hpn g hg)
            iterate 3 (refine Only.setCell ?_ (.inl (by simp)) _)
            exact Only.refl _ _
          have HB3 : Blk W3 w0.heap.size 60 #[.slice none 0 0, .int .i64 nx, .bool en] := by
            rw [← hW3]
            exact ((HBx.set 0 _).set 1 _).set 2 _
          have HW3 := Lib.hid hW3
          rw [hW3]
          clear hpc hpf HBx hW3 hown hw1 hO1 hO hAo hlw0
          obtain ⟨pb, hpb⟩ : ∃ pb, w0.heap.size = pb := ⟨_, rfl⟩
          rw [hpb] at HB3
          have hpn3 := hpn
          rw [hpb] at hpn3
          rw [hpb]
          clear hpn
          have d0 := HB3.cell 0
          have d1 := HB3.cell 1
          have d2 := HB3.cell 2
          by_cases herr : err = 0
          · subst herr
            have happ := fun ty => run_append_nothing W3 45 48 ty Ao 8 acc.length co 0 Try.underlying45 (sizeStV _) hco1
            simp only [List.nil_append, if_true] at hT2
            cases en with
            | true =>
              have HN : Hid (L = acc) := by unfold Hid; rw [hT2]; simp
              clear hT2 happ
              cases Ao with
              | none =>
                go_wp2
                go_ret
                exact ⟨_, rfl, by rw [HN.out]; exact hown3, hO3⟩
              | some ad =>
                go_wp2
                go_ret
                exact ⟨_, rfl, by rw [HN.out]; exact hown3, hO3⟩
            | false =>
              have HN : Hid (L = acc ++ walkP (s.pageOf stream n) (300 - (k + 1)) nx) := by unfold Hid; rw [hT2, hst]; simp
              clear hT2 happ
              cases Ao with
              | none =>
                go_wp2
                exact ⟨⟨k + 1, nx, acc, hlt, by simp, rfl, Nat.le_trans hac (Nat.mul_le_mul_right _ (Nat.le_succ k)), HN, hO3, hown3⟩, by simp [intOf]; omega⟩
              | some ad =>
                go_wp2
                exact ⟨⟨k + 1, nx, acc, hlt, by simp, rfl, Nat.le_trans hac (Nat.mul_le_mul_right _ (Nat.le_succ k)), HN, hO3, hown3⟩, by simp [intOf]; omega⟩
          · have HN : Hid (L = acc) := by unfold Hid; rw [hT2, if_neg herr, List.append_nil]
            have herb : (err != 0) = true := by rw [bne_iff_ne]; exact herr
            clear hT2
            go_wp2
            go_ret
            exact ⟨_, rfl, by rw [HN.out]; exact hown3, hO3⟩
        · have hgp : g ≠ w0.heap.size := by simp at hbg; omega
          go_upto_region 9 with (fail)
          obtain ⟨W3, hW3⟩ : ∃ W3, ((w1.setCell ⟨w0.heap.size, 0, none⟩ (.slice (some ⟨g, 0, none⟩) evs.length cap)).setCell ⟨w0.heap.size, 1, none⟩ (.int .i64 nx)).setCell ⟨w0.heap.size, 2, none⟩ (.bool en) = W3 := ⟨_, rfl⟩
          have hO3 : Only [] w W3 := by
            rw [← hW3]
            iterate 3 (refine Only.setCell ?_ (.inr (by have := hO.size; simp; omega)) _)
            exact hO1
          have hown3 : W3.ownsRow w.heap.size 48 8 (.slice Ao acc.length co) acc.length (acc.flatMap StoredR.cells) := by
            rw [← hW3]
            refine own_only hw1 (S := [w0.heap.size]) ?_ (fun g hg => by simpa using hpn g hg)
            iterate 3 (refine Only.setCell ?_ (.inl (by simp)) _)
            exact Only.refl _ _
          have HB3 : Blk W3 w0.heap.size 60 #[.slice (some ⟨g, 0, none⟩) evs.length cap, .int .i64 nx, .bool en] := by
            rw [← hW3]
            exact ((HBx.set 0 _).set 1 _).set 2 _
          have HW3 := Lib.hid hW3
          rw [hW3]
          clear hpc hpf HBx hW3 hown hw1 hO1 hO hAo hlw0
          obtain ⟨pb, hpb⟩ : ∃ pb, w0.heap.size = pb := ⟨_, rfl⟩
          rw [hpb] at HB3
          have hpn3 := hpn
          rw [hpb] at hpn3
          rw [hpb]
          clear hpn
          have HBg : Blk W3 g 48 cs := by
            rw [← HW3.out]
            exact ((hB.of_eq (Below.heap_setCell _ _ _ _ hgp)).of_eq (Below.heap_setCell _ _ _ _ hgp)).of_eq (Below.heap_setCell _ _ _ _ hgp)
          have d0 := HB3.cell 0
          by_cases herr : err = 0
          · subst herr
            simp only [if_true] at hT2
            have HT3 := Lib.hid hT2
            have hsz3 := hO3.size
            clear hT2
            go_wp2_with (at_builtin; refine wpList_append_own _ rfl (.tmp 36) (.tmp 38) 45 rfl w.heap.size 48 j0 (.agg #[.int .i64 0, .string ⟨#[]⟩, .string ⟨#[]⟩, .float .f64 0, .string ⟨#[]⟩, .int .i64 0, .int .i64 0, .int .i64 0]) 8 88 Try.underlying45 hj hy0 hy1 hy2 rfl (by decide) (.slice Ao acc.length co) acc.length _ rfl hown3 ⟨g, 0, none⟩ evs.length cap (evs.flatMap StoredR.cells) rfl (flat_len StoredR.cells 8 evs (fun _ _ => rfl)) ?c1 (cells_one evs) ?c3 ?c4 ?c5 ?_)
            case c1 =>
              intro q u hu
              have hq : q < (evs.flatMap StoredR.cells).length := (List.getElem?_eq_some_iff.1 hu).1
              rw [show ((⟨g, 0, none⟩ : Addr).add q) = ⟨g, q, none⟩ by simp [Addr.add]; omega, HBg.cell q, ← Array.getElem?_toList, hcs, List.getElem?_append_left hq]
              exact hu
            case c3 => unfold maxLen; omega
            case c4 => omega
            case c5 => exact hsz3
            intro v' w4 hown4 hgrow _
            have hO4 : Only [] w w4 := hO3.grown hgrow (fun i hi => .inr (hown3.lt i hi).1)
            have hO34 : Only (Value.slice Ao acc.length co).ownBlock.toList W3 w4 := (Only.refl _ W3).grown hgrow (fun i hi => .inl (by simp [hi]))
            have HB4 := hO34.blk HB3 (fun q => by simp at q; exact hpn3 _ q rfl)
            have e1 := HB4.cell 1
            have e2 := HB4.cell 2
            have hown5 : w4.ownsRow w.heap.size 48 8 v' (acc ++ evs).length ((acc ++ evs).flatMap StoredR.cells) := by
              rw [List.flatMap_append, List.length_append]
              exact hown4
            clear hgrow hown4 hown3 hO34 HB4 HB3 HBg d0 hB hcs
            cases en with
            | true =>
              have HN : Hid (L = acc ++ evs) := by unfold Hid; rw [HT3.out]; simp
              go_wp2
              go_ret
              exact ⟨_, rfl, by rw [HN.out]; exact hown5, hO4⟩
            | false =>
              have HN : Hid (L = (acc ++ evs) ++ walkP (s.pageOf stream n) (300 - (k + 1)) nx) := by unfold Hid; rw [HT3.out, hst]; simp
              go_wp2
              exact ⟨⟨k + 1, nx, acc ++ evs, hlt, by simp, rfl, by simp; omega, HN, hO4, hown5⟩, by simp [intOf]; omega⟩
          · have HN : Hid (L = acc) := by unfold Hid; rw [hT2, if_neg herr, List.append_nil]
            have herb : (err != 0) = true := by rw [bne_iff_ne]; exact herr
            clear hT2
            go_wp2
            go_ret
            exact ⟨_, rfl, by rw [HN.out]; exact hown3, hO3⟩
    · have hke : k = 300 := by omega
      subst hke
      have hR : L = acc := by rw [hT.out]; simp [walkP]
      have HR := Lib.hid hR
      clear hR hfA hfR hT
      go_wp2
      go_ret
      exact ⟨_, rfl, by rw [HR.out]; exact hown, hO⟩
end
end Go.Proofs.Ytefkhkbkengniaa
