/- Contracts: Forward, All forward. -/
import Derived.Test.YtefkhkbkengniaaMpg2
import Derived.Test.YtefkhkbkengniaaMe1
set_option linter.unusedVariables false
set_option linter.unusedSimpArgs false
namespace Go.Proofs.Ytefkhkbkengniaa
open Go.RowKit
theorem fwdGo_few (key : StoredR → Int) (f n : Int) : ∀ (l acc : List StoredR) (nx : Int), (fwdGo key f n l acc nx).events.length ≤ acc.length + l.length
  | [], acc, nx => by simp [fwdGo]
  | s :: l, acc, nx => by
    unfold fwdGo
    split
    · have := fwdGo_few key f n l acc nx
      simp
      omega
    · split
      · simp
      · have := fwdGo_few key f n l (acc ++ [s]) (key s + 1)
        simp at this ⊢
        omega
theorem forwardBy_few (key : StoredR → Int) (l : List StoredR) (f n : Int) : (forwardBy key l f n).1.events.length ≤ l.length := by
  unfold forwardBy
  split
  · simp [PageR.zero]
  · have := fwdGo_few key f n l [] f
    simpa using this
set_option maxRecDepth 100000 in
set_option maxHeartbeats 1000000 in
theorem forward_any {w : World} {v : Value} {l : List StoredR} {f n : Int} (hl : Slc w 8 v l.length (l.flatMap StoredR.cells)) (hb : l.length ≤ 1000000) (hk : ∀ s ∈ l, 0 ≤ s.position ∧ s.position ≤ 1000000000) :
    Calls Try.prog 60 #[v, .int .i64 f, .int .i64 n] w (PageRet w (forwardBy StoredR.position l f n)) := by
  have HFw := Lib.hid (fun (W : World) (hW : Only [] w W) => forwardP_any (f := f) (n := n) (hl.only0 hW) hb hk)
  obtain ⟨r, hr⟩ : ∃ r, r = forwardBy StoredR.position l f n := ⟨_, rfl⟩
  rw [← hr] at HFw ⊢
  obtain ⟨⟨revs, rnx, rend⟩, rerr⟩ := r
  clear hr hl hk
  go_enter Try.func60, Try.ntmps60
  go_wp2_with (go_at_call 50; refine (HFw.out _ ((Only.refl _ _).alloc _)).mono ?_; rintro e w3 ⟨v3, rfl, hown3, ho3⟩; obtain ⟨A3, cap3, rfl, _, _⟩ := own_form hown3
               have hp := ho3.blk (Blk.new w 60 _) (by simp)
               have hpc := fun i => hp.cell i
               have hpf := fun i => hp.free i)
  have hsz : w.heap.size < w3.heap.size := by have q1 := ho3.size; simp at q1; omega
  refine bodyPost_ret (v := .tuple #[.agg #[.slice A3 revs.length cap3, .int .i64 rnx, .bool rend], .int .i64 rerr]) (by simp [results, Try.results60, go_sem, hpc]) rfl ⟨_, rfl, ?own, ?hw⟩
  case own =>
    refine own_only (own_base hown3 (by simp)) (S := [w.heap.size]) ?_ (fun g hg => by have := (hown3.lt g hg).1; simp at this ⊢; omega)
    iterate 3 (refine Only.setCell ?_ (.inl (by simp)) _)
    exact Only.refl _ _
  case hw =>
    iterate 3 (refine Only.setCell ?_ (.inr (Nat.le_refl _)) _)
    exact ((Only.refl [] w).alloc _).trans ho3
section
variable {a w : World} {R E : List Nat} {sb mb N : Nat} {s : MS}
set_option maxRecDepth 100000 in
theorem all1_any {hb : Nat} (h : HasS a w R E sb mb s N) (hN : N ≤ 100000) (hB : Blk w hb 25 #[.pointer (some ⟨sb, 0, none⟩)]) (x : StoredR) :
    Calls Try.prog 58 #[.agg #[.int .i64 x.ev.id, .string x.ev.type, .string x.ev.data, .float .f64 x.ev.value, .string x.stream, .int .i64 x.version, .int .i64 x.position, .int .i64 x.time], .pointer (some ⟨hb, 0, none⟩)] w
      fun e w' => e = .returned (.bool (!s.seenAt x.position)) ∧ Only [] w w' := by
  have HS := Lib.hid (fun (W : World) (hW : Only [] w W) => has_seen (h.keep hW) hN x.position)
  have k0 := fun o => (((Only.refl [] w).alloc o).blk hB (by simp)).cell 0
  clear h hB
  go_enter Try.func58, Try.ntmps58
  go_wp2_with (go_at_call 24; refine (HS.out _ ((Only.refl _ _).alloc _)).mono ?_; rintro e w1 ⟨rfl, ho1⟩)
  go_ret
  exact ⟨rfl, ((Only.refl [] w).alloc _).trans ho1⟩
set_option maxRecDepth 100000 in
set_option maxHeartbeats 2000000 in
theorem has_all (h : HasS a w R E sb mb s N) (hN : N ≤ 100000) (f n : Int) :
    Calls Try.prog 32 #[.pointer (some ⟨sb, 0, none⟩), .int .i64 f, .int .i64 n, .bool false] w (PageRet w (forwardBy StoredR.position s.seenAll f n)) := by
  have hlen : s.all.length ≤ 1000000 := by have := h.ok.all; omega
  have hsl : s.seenAll.length ≤ 1000000 := by
    have : s.seenAll.length ≤ s.all.length := List.length_filter_le _ _
    omega
  have hfil : s.all.filter (fun x => !(!s.seenAt x.position)) = s.seenAll := by
    unfold MS.seenAll
    congr 1
    funext x
    simp
  have hpos : ∀ e ∈ s.seenAll, 0 ≤ e.position ∧ e.position ≤ 1000000000 := fun e he => by
    obtain ⟨i, hi, rfl⟩ := List.mem_iff_getElem.1 (List.mem_filter.1 he).1
    rw [h.inv.pos i hi]
    omega
  obtain ⟨W0, hW0⟩ : ∃ W0, W0 = (w.alloc (.cells #[.pointer (some ⟨sb, 0, none⟩)] 25)).alloc (.cells #[.slice none 0 0, .int .i64 0, .bool false] 60) := ⟨_, rfl⟩
  have hO0 : Only [] w W0 := by rw [hW0]; exact ((Only.refl [] w).alloc _).alloc _
  have hb1 : Blk W0 w.heap.size 25 #[.pointer (some ⟨sb, 0, none⟩)] := by rw [hW0]; exact ((Only.refl [] _).alloc _).blk (Blk.new w _ _) (by simp)
  have hb2 : Blk W0 (w.heap.size + 1) 60 #[.slice none 0 0, .int .i64 0, .bool false] := by
    rw [hW0]
    have := Blk.new (w.alloc (.cells #[.pointer (some ⟨sb, 0, none⟩)] 25)) 60 #[.slice none 0 0, .int .i64 0, .bool false]
    simpa using this
  have hsz0 : W0.heap.size = w.heap.size + 2 := by rw [hW0]; simp
  have hc0 := hb1.cell 0
  have h0 := h.keep hO0
  have HE := Lib.hid (has_every h0 hN)
  have HFo := Lib.hid (fun (W : World) (v : Value) (hl : Slc W 8 v s.seenAll.length (s.seenAll.flatMap StoredR.cells)) => forward_any (f := f) (n := n) hl hsl hpos)
  obtain ⟨r, hr⟩ : ∃ r, r = forwardBy StoredR.position s.seenAll f n := ⟨_, rfl⟩
  rw [← hr] at HFo ⊢
  obtain ⟨⟨revs, rnx, rend⟩, rerr⟩ := r
  clear hr hpos
  have HW := Lib.hid hW0
  clear hW0
  go_enter Try.func32, Try.ntmps32
  go_wp2_with fail
  rw [← HW.out]
  refine HE.out.mono ?_
  rintro e w1 ⟨v1, rfl, hown1, ho1⟩
  have h1 := h0.ownR ho1 hown1
  have hlt1 := hown1.lt
  obtain ⟨V1, hV1⟩ : ∃ V1, V1 = v1.ownBlock.toList := ⟨_, rfl⟩
  have hge : ∀ g ∈ V1, W0.heap.size ≤ g := fun g hg => (hlt1 g (by rw [hV1] at hg; simpa using hg)).1
  have n1 : w.heap.size ∉ V1 := fun q => by have := hge _ q; omega
  have n2 : w.heap.size + 1 ∉ V1 := fun q => by have := hge _ q; omega
  have hJ : Judges V1 w1 (.pointer (some ⟨w.heap.size, 0, none⟩)) (fun x => !s.seenAt x.position) := fun W hW x =>
    all1_any (h1.turn hW (fun g hg => by rw [hV1] at hg; simp at hg ⊢; exact .inl hg)) hN (hW.blk (ho1.blk hb1 (by simp)) n1) x
  rw [hV1] at hJ
  have hD := deleteSt_any hown1 hlen hJ
  rw [hfil, ← hV1] at hD
  have HD := Lib.hid hD
  have hb3 := ho1.blk hb2 (by simp)
  clear hD hJ h1 HE h0 hc0 hb1 hlt1 hown1
  go_wp2_with fail
  refine HD.out.mono ?_
  rintro e w2 ⟨v2, rfl, hown2, ho2⟩
  have hb4 := ho2.blk hb3 n2
  have hs2 := (Slc.of_own hown2).1
  have HF2 := Lib.hid (HFo.out w2 v2 hs2)
  clear hs2
  go_wp2_with (go_at_call 60; refine HF2.out.mono ?_; rintro e w3 ⟨v3, rfl, hown3, ho3⟩; obtain ⟨A3, cap3, rfl, _, _⟩ := own_form hown3
               have hp := ho3.blk hb4 (by simp)
               have hpc := fun i => hp.cell i
               have hpf := fun i => hp.free i)
  have z1 := ho1.size
  have z2 := ho2.size
  refine bodyPost_ret (v := .tuple #[.agg #[.slice A3 revs.length cap3, .int .i64 rnx, .bool rend], .int .i64 rerr]) (by simp [results, Try.results32, go_sem, hpc]) rfl ⟨_, rfl, ?own, ?hw⟩
  case own =>
    refine own_only (own_base hown3 (by omega)) (S := [w.heap.size + 1]) ?_ (fun g hg => by have := (hown3.lt g hg).1; simp; omega)
    iterate 3 (refine Only.setCell ?_ (.inl (by simp)) _)
    exact Only.refl _ _
  case hw =>
    iterate 3 (refine Only.setCell ?_ (.inr (by simp)) _)
    exact ((hO0.trans ho1).step ho2 (fun g hg => .inr (by have := hge g hg; omega))).trans ho3
end
end Go.Proofs.Ytefkhkbkengniaa
