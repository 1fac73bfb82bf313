/- Proved here: contracts of functions and plain laws, part 30 of one proof. Conditions: each theorem names its own. -/
import Derived.Test.YteinoiicnmemhaaGreatDoorZ18
import Derived.Test.YteinoiicnmemhaaGreatDoorZ29
set_option linter.unusedSimpArgs false
set_option linter.unusedVariables false
namespace Go.Proofs.YteinoiicnmemhaaGreatDoor
section
open Go.RowKit
theorem readOk_is (n : ByteArray) (f k : Int) : (nameOk n && decide (0 ≤ f) && decide (1 ≤ k) && decide (k ≤ 100)) = MS.readOk n f k := rfl
section
variable {w : World} {M : List Nat} {sb mb N : Nat} {av : Value} {pf : ByteArray → Value} {s : MS}
set_option maxRecDepth 100000 in
set_option maxHeartbeats 4000000 in
theorem readB_any (h : StAt w M sb mb av pf s) (hs : s.Ok N) (hN : N ≤ 100000) (n : ByteArray) (hn : n.size ≤ maxLen) (f k : Int) (hv : ∀ e ∈ s.seenL n, 0 ≤ e.version ∧ e.version ≤ 1000000000) :
    Calls Tryz.prog 80 #[.pointer (some ⟨sb, 0, none⟩), .string n, .int .i64 f, .int .i64 k, .bool true] w (PageRet w (s.readP n f k true)) := by
  obtain ⟨A, cap, hpv, hcm, hf⟩ := findv h n
  have HF := Lib.hid hf
  have HS := Lib.hid (fun W => stream_any n W hn)
  have hx := hs.xok n
  have hal := hs.all
  have hlb : (s.seenL n).length ≤ 1000000 := by
    unfold MS.seenL
    have := hx.few
    split
    · simp
    · simp; omega
  unfold maxLen at hcm
  have hfew := hx.few
  clear hf hpv hx
  cases hok : MS.readOk n f k with
  | false =>
    have hR : s.readP n f k true = (PageR.zero, 1) := by unfold MS.readP; rw [readOk_is, if_pos hok]
    rw [hR]
    clear hR
    cases hnm : nameOk n with
    | false =>
      rw [hnm] at HS
      clear hok hnm
      go_enter Tryz.func80, Tryz.ntmps80
      go_wp2_with (go_at_call 52; refine (HS.out _).mono ?_; rintro e w' ⟨rfl, rfl⟩)
      exact bodyPost_ret (v := .tuple #[.agg #[.slice none 0 0, .int .i64 0, .bool false], .int .i64 1]) (by simp [results, Tryz.results80, go_sem]) rfl ⟨_, rfl, World.ownsRow_nil _ _ _ _, (Only.refl [] w).alloc _⟩
    | true =>
      rw [hnm] at HS
      simp only [MS.readOk, hnm, Bool.true_and, Bool.and_eq_false_iff, decide_eq_false_iff_not] at hok
      clear hnm
      by_cases h1 : f < 0
      · clear hok
        go_enter Tryz.func80, Tryz.ntmps80
        go_wp2_with (go_at_call 52; refine (HS.out _).mono ?_; rintro e w' ⟨rfl, rfl⟩)
        exact bodyPost_ret (v := .tuple #[.agg #[.slice none 0 0, .int .i64 0, .bool false], .int .i64 1]) (by simp [results, Tryz.results80, go_sem]) rfl ⟨_, rfl, World.ownsRow_nil _ _ _ _, (Only.refl [] w).alloc _⟩
      · by_cases h2 : k < 1
        · clear hok
          go_enter Tryz.func80, Tryz.ntmps80
          go_wp2_with (go_at_call 52; refine (HS.out _).mono ?_; rintro e w' ⟨rfl, rfl⟩)
          exact bodyPost_ret (v := .tuple #[.agg #[.slice none 0 0, .int .i64 0, .bool false], .int .i64 1]) (by simp [results, Tryz.results80, go_sem]) rfl ⟨_, rfl, World.ownsRow_nil _ _ _ _, (Only.refl [] w).alloc _⟩
        · have h3 : k > 100 := by omega
          clear hok
          go_enter Tryz.func80, Tryz.ntmps80
          go_wp2_with (go_at_call 52; refine (HS.out _).mono ?_; rintro e w' ⟨rfl, rfl⟩)
          exact bodyPost_ret (v := .tuple #[.agg #[.slice none 0 0, .int .i64 0, .bool false], .int .i64 1]) (by simp [results, Tryz.results80, go_sem]) rfl ⟨_, rfl, World.ownsRow_nil _ _ _ _, (Only.refl [] w).alloc _⟩
  | true =>
    simp only [MS.readOk, Bool.and_eq_true, decide_eq_true_eq] at hok
    obtain ⟨⟨⟨hnm, h1⟩, h2⟩, h3⟩ := hok
    rw [hnm] at HS
    have hok : MS.readOk n f k = true := by simp [MS.readOk, hnm, h1, h2, h3]
    cases hd : (s.find n).deleted with
    | true =>
      have hR : s.readP n f k true = (PageR.zero, 23) := by unfold MS.readP; rw [readOk_is, if_neg (by rw [hok]; decide), if_pos hd]
      rw [hR]
      rw [hd] at HF
      clear hR hok hnm hd
      go_enter Tryz.func80, Tryz.ntmps80
      go_wp2_with (first
        | (go_at_call 52; refine (HS.out _).mono ?_; rintro e w' ⟨rfl, rfl⟩)
        | (go_at_call 21; refine (HF.out _ ((Only.refl _ _).alloc _)).mono ?_; rintro e w1 ⟨rfl, ho1⟩
           have hf1 := fun o i => (((Only.refl [] w1).alloc o).blk (ho1.blk (Blk.new w 57 _) (by simp)) (by simp)).free i
           have hc1 := fun o i => (((Only.refl [] w1).alloc o).blk (ho1.blk (Blk.new w 57 _) (by simp)) (by simp)).cell i))
      refine bodyPost_ret (v := .tuple #[.agg #[.slice none 0 0, .int .i64 0, .bool false], .int .i64 23]) (by simp [results, Tryz.results80, go_sem, hc1]) rfl ⟨_, rfl, World.ownsRow_nil _ _ _ _, ?hw⟩
      case hw =>
        iterate 3 (refine Only.setCell ?_ (.inr (Nat.le_refl _)) _)
        exact (((Only.refl [] w).alloc _).trans ho1).alloc _
    | false =>
      rw [hd] at HF
      by_cases h0 : (s.find n).places.length = 0
      · have hR : s.readP n f k true = (PageR.zero, 8) := by unfold MS.readP; rw [readOk_is, if_neg (by rw [hok]; decide), if_neg (by rw [hd]; decide), if_pos h0]
        rw [hR]
        rw [h0] at HF
        clear hR hok hnm hd h0
        go_enter Tryz.func80, Tryz.ntmps80
        go_wp2_with (first
          | (go_at_call 52; refine (HS.out _).mono ?_; rintro e w' ⟨rfl, rfl⟩)
          | (go_at_call 21; refine (HF.out _ ((Only.refl _ _).alloc _)).mono ?_; rintro e w1 ⟨rfl, ho1⟩
             have hf1 := fun o i => (((Only.refl [] w1).alloc o).blk (ho1.blk (Blk.new w 57 _) (by simp)) (by simp)).free i
             have hc1 := fun o i => (((Only.refl [] w1).alloc o).blk (ho1.blk (Blk.new w 57 _) (by simp)) (by simp)).cell i))
        refine bodyPost_ret (v := .tuple #[.agg #[.slice none 0 0, .int .i64 0, .bool false], .int .i64 8]) (by simp [results, Tryz.results80, go_sem, hc1]) rfl ⟨_, rfl, World.ownsRow_nil _ _ _ _, ?hw⟩
        case hw =>
          iterate 3 (refine Only.setCell ?_ (.inr (Nat.le_refl _)) _)
          exact (((Only.refl [] w).alloc _).trans ho1).alloc _
      · have hR : s.readP n f k true = pageBy StoredR.version (s.seenL n) f k true := by unfold MS.readP; rw [readOk_is, if_neg (by rw [hok]; decide), if_neg (by rw [hd]; decide), if_neg h0]
        rw [hR]
        have h0b : (((s.find n).places.length : Int) == 0) = false := by rw [beq_eq_false_iff_ne]; omega
        have HSn := Lib.hid (fun (W : World) (hw : Only [] w W) => seenL_any (h.only0 hw) hs hN n)
        have HFw := Lib.hid (fun (W : World) (v : Value) (hl : Slc W 8 v (s.seenL n).length ((s.seenL n).flatMap StoredR.cells)) => backwardV_any (f := f) (n := k) hl hlb hv)
        obtain ⟨r, hr⟩ : ∃ r, r = pageBy StoredR.version (s.seenL n) f k true := ⟨_, rfl⟩
        rw [← hr] at HFw ⊢
        obtain ⟨⟨revs, rnx, rend⟩, rerr⟩ := r
        clear hR hok hnm hd h0 hlb hv hr
        go_enter Tryz.func80, Tryz.ntmps80
        go_wp2_with (first
          | (go_at_call 52; refine (HS.out _).mono ?_; rintro e w' ⟨rfl, rfl⟩)
          | (go_at_call 21; refine (HF.out _ ((Only.refl _ _).alloc _)).mono ?_; rintro e w1 ⟨rfl, ho1⟩)
          | (go_at_call 116; refine (HSn.out _ ((((Only.refl _ _).alloc _).trans ho1).alloc _)).mono ?_; rintro e w2 ⟨v2, rfl, hown2, ho2⟩)
          | (go_at_call 114; refine (HFw.out _ _ (Slc.of_own hown2).1).mono ?_; rintro e w3 ⟨v3, rfl, hown3, ho3⟩; obtain ⟨A3, cap3, rfl, _, _⟩ := own_form hown3
             have hp := ho3.blk (ho2.blk (((Only.refl [] w1).alloc _).blk (ho1.blk (Blk.new w 57 _) (by simp)) (by simp)) (by simp)) (by simp)
             have hpc := fun i => hp.cell i
             have hpf := fun i => hp.free i))
        have hsz : w.heap.size < w2.heap.size := by have q1 := ho1.size; have q2 := ho2.size; simp at q1 q2; omega
        refine bodyPost_ret (v := .tuple #[.agg #[.slice A3 revs.length cap3, .int .i64 rnx, .bool rend], .int .i64 rerr]) (by simp [results, Tryz.results80, go_sem, hpc]) rfl ⟨_, rfl, ?own, ?hw⟩
        case own =>
          refine own_only (own_base hown3 (by omega)) (S := [w.heap.size]) ?_ (fun g hg => by have := (hown3.lt g hg).1; simp; omega)
          iterate 3 (refine Only.setCell ?_ (.inl (by simp)) _)
          exact Only.refl _ _
        case hw =>
          iterate 3 (refine Only.setCell ?_ (.inr (Nat.le_refl _)) _)
          exact (((((Only.refl [] w).alloc _).trans ho1).alloc _).trans ho2).trans ho3
end
set_option maxRecDepth 100000 in
set_option maxHeartbeats 1000000 in
theorem backward_any {w : World} {v : Value} {l : List StoredR} {f n : Int} (hl : Slc w 8 v l.length (l.flatMap StoredR.cells)) (hb : l.length ≤ 1000000) (hk : ∀ s ∈ l, 0 ≤ s.position ∧ s.position ≤ 1000000000) :
    Calls Tryz.prog 112 #[v, .int .i64 f, .int .i64 n] w (PageRet w (pageBy StoredR.position l f n true)) := by
  have HFw := Lib.hid (fun (W : World) (hW : Only [] w W) => backwardP_any (f := f) (n := n) (hl.only0 hW) hb hk)
  obtain ⟨r, hr⟩ : ∃ r, r = pageBy StoredR.position l f n true := ⟨_, rfl⟩
  rw [← hr] at HFw ⊢
  obtain ⟨⟨revs, rnx, rend⟩, rerr⟩ := r
  clear hr hl hk
  go_enter Tryz.func112, Tryz.ntmps112
  go_wp2_with (go_at_call 114; refine (HFw.out _ ((Only.refl _ _).alloc _)).mono ?_; rintro e w3 ⟨v3, rfl, hown3, ho3⟩; obtain ⟨A3, cap3, rfl, _, _⟩ := own_form hown3
               have hp := ho3.blk (Blk.new w 57 _) (by simp)
               have hpc := fun i => hp.cell i
               have hpf := fun i => hp.free i)
  have hsz : w.heap.size < w3.heap.size := by have q1 := ho3.size; simp at q1; omega
  refine bodyPost_ret (v := .tuple #[.agg #[.slice A3 revs.length cap3, .int .i64 rnx, .bool rend], .int .i64 rerr]) (by simp [results, Tryz.results112, go_sem, hpc]) rfl ⟨_, rfl, ?own, ?hw⟩
  case own =>
    refine own_only (own_base hown3 (by simp)) (S := [w.heap.size]) ?_ (fun g hg => by have := (hown3.lt g hg).1; simp at this ⊢; omega)
    iterate 3 (refine Only.setCell ?_ (.inl (by simp)) _)
    exact Only.refl _ _
  case hw =>
    iterate 3 (refine Only.setCell ?_ (.inr (Nat.le_refl _)) _)
    exact ((Only.refl [] w).alloc _).trans ho3
section
variable {a w : World} {R E : List Nat} {sb mb N : Nat} {s : MS}
set_option maxRecDepth 100000 in
set_option maxHeartbeats 2000000 in
theorem has_allB (h : HasS a w R E sb mb s N) (hN : N ≤ 100000) (f n : Int) :
    Calls Tryz.prog 79 #[.pointer (some ⟨sb, 0, none⟩), .int .i64 f, .int .i64 n, .bool true] w (PageRet w (pageBy StoredR.position s.seenAll f n true)) := by
  have hlen : s.all.length ≤ 1000000 := by have := h.ok.all; omega
  have hsl : s.seenAll.length ≤ 1000000 := by
    have : s.seenAll.length ≤ s.all.length := List.length_filter_le _ _
    omega
  have hfil : s.all.filter (fun x => !(!s.seenAt x.position)) = s.seenAll := by
    unfold MS.seenAll
    congr 1
    funext x
    simp
  have hpos : ∀ e ∈ s.seenAll, 0 ≤ e.position ∧ e.position ≤ 1000000000 := fun e he => by
    obtain ⟨i, hi, rfl⟩ := List.mem_iff_getElem.1 (List.mem_filter.1 he).1
    rw [h.inv.pos i hi]
    omega
  obtain ⟨W0, hW0⟩ : ∃ W0, W0 = (w.alloc (.cells #[.pointer (some ⟨sb, 0, none⟩)] 25)).alloc (.cells #[.slice none 0 0, .int .i64 0, .bool false] 57) := ⟨_, rfl⟩
  have hO0 : Only [] w W0 := by rw [hW0]; exact ((Only.refl [] w).alloc _).alloc _
  have hb1 : Blk W0 w.heap.size 25 #[.pointer (some ⟨sb, 0, none⟩)] := by rw [hW0]; exact ((Only.refl [] _).alloc _).blk (Blk.new w _ _) (by simp)
  have hb2 : Blk W0 (w.heap.size + 1) 57 #[.slice none 0 0, .int .i64 0, .bool false] := by
    rw [hW0]
    have := Blk.new (w.alloc (.cells #[.pointer (some ⟨sb, 0, none⟩)] 25)) 57 #[.slice none 0 0, .int .i64 0, .bool false]
    simpa using this
  have hsz0 : W0.heap.size = w.heap.size + 2 := by rw [hW0]; simp
  have hc0 := hb1.cell 0
  have h0 := h.keep hO0
  have HE := Lib.hid (has_every h0 hN)
  have HFo := Lib.hid (fun (W : World) (v : Value) (hl : Slc W 8 v s.seenAll.length (s.seenAll.flatMap StoredR.cells)) => backward_any (f := f) (n := n) hl hsl hpos)
  obtain ⟨r, hr⟩ : ∃ r, r = pageBy StoredR.position s.seenAll f n true := ⟨_, rfl⟩
  rw [← hr] at HFo ⊢
  obtain ⟨⟨revs, rnx, rend⟩, rerr⟩ := r
  clear hr hpos
  have HW := Lib.hid hW0
  clear hW0
  go_enter Tryz.func79, Tryz.ntmps79
  go_wp2_with fail
  rw [← HW.out]
  refine HE.out.mono ?_
  rintro e w1 ⟨v1, rfl, hown1, ho1⟩
  have h1 := h0.ownR ho1 hown1
  have hlt1 := hown1.lt
  obtain ⟨V1, hV1⟩ : ∃ V1, V1 = v1.ownBlock.toList := ⟨_, rfl⟩
  have hge : ∀ g ∈ V1, W0.heap.size ≤ g := fun g hg => (hlt1 g (by rw [hV1] at hg; simpa using hg)).1
  have n1 : w.heap.size ∉ V1 := fun q => by have := hge _ q; omega
  have n2 : w.heap.size + 1 ∉ V1 := fun q => by have := hge _ q; omega
  have hJ : Judges V1 w1 (.pointer (some ⟨w.heap.size, 0, none⟩)) (fun x => !s.seenAt x.position) := fun W hW x =>
    all1_any (h1.turn hW (fun g hg => by rw [hV1] at hg; simp at hg ⊢; exact .inl hg)) hN (hW.blk (ho1.blk hb1 (by simp)) n1) x
  rw [hV1] at hJ
  have hD := deleteSt_any hown1 hlen hJ
  rw [hfil, ← hV1] at hD
  have HD := Lib.hid hD
  have hb3 := ho1.blk hb2 (by simp)
  clear hD hJ h1 HE h0 hc0 hb1 hlt1 hown1
  go_wp2_with fail
  refine HD.out.mono ?_
  rintro e w2 ⟨v2, rfl, hown2, ho2⟩
  have hb4 := ho2.blk hb3 n2
  have hs2 := (Slc.of_own hown2).1
  have HF2 := Lib.hid (HFo.out w2 v2 hs2)
  clear hs2
  go_wp2_with (go_at_call 112; refine HF2.out.mono ?_; rintro e w3 ⟨v3, rfl, hown3, ho3⟩; obtain ⟨A3, cap3, rfl, _, _⟩ := own_form hown3
               have hp := ho3.blk hb4 (by simp)
               have hpc := fun i => hp.cell i
               have hpf := fun i => hp.free i)
  have z1 := ho1.size
  have z2 := ho2.size
  refine bodyPost_ret (v := .tuple #[.agg #[.slice A3 revs.length cap3, .int .i64 rnx, .bool rend], .int .i64 rerr]) (by simp [results, Tryz.results79, go_sem, hpc]) rfl ⟨_, rfl, ?own, ?hw⟩
  case own =>
    refine own_only (own_base hown3 (by omega)) (S := [w.heap.size + 1]) ?_ (fun g hg => by have := (hown3.lt g hg).1; simp; omega)
    iterate 3 (refine Only.setCell ?_ (.inl (by simp)) _)
    exact Only.refl _ _
  case hw =>
    iterate 3 (refine Only.setCell ?_ (.inr (by simp)) _)
    exact ((hO0.trans ho1).step ho2 (fun g hg => .inr (by have := hge g hg; omega))).trans ho3
end
end
end Go.Proofs.YteinoiicnmemhaaGreatDoor
