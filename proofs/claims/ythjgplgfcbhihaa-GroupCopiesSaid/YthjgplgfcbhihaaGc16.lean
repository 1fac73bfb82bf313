/- Contract: Copy. -/
import Derived.Test.YthjgplgfcbhihaaGi
import Derived.Test.YthjgplgfcbhihaaGv1
set_option linter.unusedVariables false
set_option linter.unusedSimpArgs false
namespace Go.Proofs.Ythjgplgfcbhihaa
open Go.RowKit Go Go.Sort Go.Lib Go.Shelf
theorem cloneMF_any {w : World} {b : Nat} {kv : List (ByteArray × Value)} (h : MapIs Value.string w b kv) :
    Calls Try.prog 39 #[.map (some b)] w fun e w' => ∃ m, e = .returned (.map (some m)) ∧ MapIs Value.string w' m kv ∧ w.heap.size ≤ m ∧ m < w'.heap.size ∧ Only [] w w' := by
  obtain ⟨es, clock, hb, hs, hm⟩ := h
  refine (AnyW.maps_Clone Try.cloneMF b es clock w hb).mono fun e w' ⟨he, hw⟩ => ?_
  subst hw
  exact ⟨_, he, ⟨es, clock, heap_alloc_new w _, hs, hm⟩, Nat.le_refl _, by simp, (Only.refl _ w).alloc _⟩
theorem cloneMT_any {w : World} {b : Nat} {kv : List (Int × Value)} (h : MapIs (Value.int .i64) w b kv) :
    Calls Try.prog 40 #[.map (some b)] w fun e w' => ∃ m, e = .returned (.map (some m)) ∧ MapIs (Value.int .i64) w' m kv ∧ w.heap.size ≤ m ∧ m < w'.heap.size ∧ Only [] w w' := by
  obtain ⟨es, clock, hb, hs, hm⟩ := h
  refine (AnyW.maps_Clone Try.cloneMT b es clock w hb).mono fun e w' ⟨he, hw⟩ => ?_
  subst hw
  exact ⟨_, he, ⟨es, clock, heap_alloc_new w _, hs, hm⟩, Nat.le_refl _, by simp, (Only.refl _ w).alloc _⟩
theorem Rows.fresh_only {w w' : World} {L : List (Value × List Int)} {S : List Nat} {m : Nat} (h : Rows w L) (hf : ∀ b ∈ blocksOf L, m ≤ b) (k : Only S w w') (hS : ∀ b ∈ S, b < m) : Rows w' L :=
  h.only k (fun b hb q => by have := hf b hb; have := hS b q; omega)
theorem blocksOf_cons {v : Value} {xs : List Int} {L : List (Value × List Int)} {m : Nat} (h1 : ∀ b, v.ownBlock = some b → m ≤ b) (h2 : ∀ b ∈ blocksOf L, m ≤ b) : ∀ b ∈ blocksOf ((v, xs) :: L), m ≤ b := fun b hb => by
  obtain ⟨p, hp, hq⟩ := mem_blocksOf.1 hb
  rcases List.mem_cons.1 hp with rfl | hp
  · exact h1 b hq
  · exact h2 b (mem_blocksOf.2 ⟨p, hp, hq⟩)
theorem IterIs.ne_blk {κ : Type} [DecidableEq κ] {enc : κ → Value} {w : World} {r b g : Nat} {kv left : List (κ × Value)} {t : TypeId} {cs : Array Value} (h : IterIs enc w r b kv left) (hg : Blk w g t cs) : r ≠ g := by
  obtain ⟨es, clock, since, seen, c0, h1, h2, h3, h4, h5⟩ := h
  intro e
  subst e
  unfold Blk at hg
  rw [h4] at hg
  cases hg
section
variable {w : World} {gb fb tb N : Nat} {vw vp va vs : Value} {pf : ByteArray → Value} {g : GS}
/-- The cells of a group's block. -/
def gcells (g : GS) (vw : Value) (fb : Nat) (vp va vs : Value) (tb : Nat) : Array Value := #[.int .i64 g.from_, .int .i64 g.buffer, .int .i64 g.retries, .int .i64 g.next, vw, .map (some fb), vp, va, vs, .map (some tb)]
set_option maxRecDepth 100000 in
set_option maxHeartbeats 2000000 in
theorem copy_any (h : GAt w gb fb tb vw vp va vs pf g) (hok : g.Ok N) (hN : N ≤ 10000) :
    Calls Try.prog 24 #[.pointer (some ⟨gb, 0, none⟩)] w fun e w' => ∃ cb fb' tb' vw' vp' va' vs' pf', e = .returned (.pointer (some ⟨cb, 0, none⟩)) ∧
      GAt w' cb fb' tb' vw' vp' va' vs' pf' g ∧ (∀ b ∈ hG cb fb' tb' (rowsOf vw' vp' va' vs' pf' g), w.heap.size ≤ b) ∧ Only [] w w' := by
  have hlw := hok.len hok.wa
  have hlp := hok.len hok.pa
  have hla := hok.len hok.ac
  have hls := hok.len hok.sk
  have HClw := Lib.hid (fun (W : World) (hW : Only [] w W) => clone_any (h.only0 hW).ownW.slc (by omega))
  have HClp := Lib.hid (fun (W : World) (hW : Only [] w W) => clone_any (h.only0 hW).ownP.slc (by omega))
  have HCla := Lib.hid (fun (W : World) (hW : Only [] w W) => clone_any (h.only0 hW).ownA.slc (by omega))
  have HCls := Lib.hid (fun (W : World) (hW : Only [] w W) => clone_any (h.only0 hW).ownS.slc (by omega))
  obtain ⟨Aw, cw, rfl, _, _⟩ := own_form h.ownW
  obtain ⟨Ap, cp, rfl, _, _⟩ := own_form h.ownP
  obtain ⟨Aa, ca, rfl, _, _⟩ := own_form h.ownA
  obtain ⟨As, cs, rfl, _, _⟩ := own_form h.ownS
  have hB := h.blk
  have hc := fun i => hB.cell i
  have hf := fun i => hB.free i
  have hgl := hB.lt
  go_enter Try.func24, Try.ntmps24
  go_wp2_with fail
  obtain ⟨W1, hW1⟩ : ∃ W1, W1 = w.alloc (.cells #[.int .i64 g.from_, .int .i64 g.buffer, .int .i64 g.retries, .int .i64 g.next, .slice Aw g.waiting.length cw, .map (some fb), .slice Ap g.parked.length cp, .slice Aa g.acked.length ca, .slice As g.skipped.length cs, .map (some tb)] 53) := ⟨_, rfl⟩
  have hO0 : Only [] w W1 := by rw [hW1]; exact (Only.refl [] w).alloc _
  have hCb : Blk W1 w.heap.size 53 #[.int .i64 g.from_, .int .i64 g.buffer, .int .i64 g.retries, .int .i64 g.next, .slice Aw g.waiting.length cw, .map (some fb), .slice Ap g.parked.length cp, .slice Aa g.acked.length ca, .slice As g.skipped.length cs, .map (some tb)] := by rw [hW1]; exact Blk.new w _ _
  rw [← hW1]
  obtain ⟨cb, hcb⟩ : ∃ cb, cb = w.heap.size := ⟨_, rfl⟩
  rw [← hcb] at hCb ⊢
  have Hcb := Lib.hid hcb
  have hcl := hCb.lt
  clear hW1 hcb hc hf
  have hGB := hO0.blk hB (by simp)
  have k4 := Within.cell (S := []) (hGB.cell 4 : W1.cell? ⟨gb, 4, none⟩ = some (.slice Aw g.waiting.length cw)) (by simp)
  have k6 := Within.cell (S := []) (hGB.cell 6 : W1.cell? ⟨gb, 6, none⟩ = some (.slice Ap g.parked.length cp)) (by simp)
  have HX := Lib.hid (fun (W : World) (hW : Only [] W1 W) => HClw.out W (hO0.trans hW))
  have HY := Lib.hid (fun (W : World) (hW : Only [] W1 W) => HClp.out W (hO0.trans hW))
  have hR1 : Rows W1 [] ∧ ∀ b ∈ blocksOf [], w.heap.size + 1 ≤ b := ⟨Rows.nil W1, fun b hb => by simp [blocksOf] at hb⟩
  refine wp_region_stages (C := fun W => ∃ p : Within [] W1, W = p.W) [([0, 1, 2, 3, 5, 6, 7, 8], [4, 9])] [10, 11, 12, 13] (by kernel_rfl) (by kernel_rfl) (by intro c d u a w h; cases d <;> exact h) ⟨⟨_, (Only.refl _ _).drew⟩, rfl⟩ ?_
  refine stagesFirst ?_
  show wpQuiet _ _ _ _ [_, _, _, _, _, _, _, _] _
  repeat (go_big_quiet_step (fail))
  refine wpQuiet_nil ?_
  show wpList _ _ _ [_] _ _
  go_wp2_with (go_at_call 36; refine (HX.out _ (Only.refl _ _).drew).mono ?_; rintro e w2x ⟨v2x, rfl, ho2, hf2, hk2⟩; obtain ⟨A2x, c2x, rfl, _, _⟩ := own_form ho2)
  have hO2 : Only [] W1 w2x := (Only.refl [] W1).drew.trans hk2
  refine check_of (S := []) hO2 ?_
  show wpList _ _ _ [_] _ _
  go_wp2_with (go_at_call 36; refine (HY.out _ hO2).mono ?_; rintro e w3x ⟨v3x, rfl, ho3, hf3, hk3⟩; obtain ⟨A3x, c3x, rfl, _, _⟩ := own_form ho3)
  have hO3 : Only [] W1 w3x := hO2.trans hk3
  refine check_of (S := []) hO3 ?_
  have hz0 := hO0.size
  have hz2 := hO2.size
  have hR2 := hR1.1.add hO2 ho2 (fun b hb => (by have := hf2 b hb; exact this))
  have hF2 := blocksOf_cons (xs := g.waiting) (m := w.heap.size + 1) (fun b hb => (by have q : W1.heap.size ≤ b := hf2 b hb; have := hCb.lt; have := Hcb.out; omega)) hR1.2
  have hR3 := hR2.add hk3 ho3 hf3
  have hF3 := blocksOf_cons (xs := g.parked) (m := w.heap.size + 1) (fun b hb => (by have q : w2x.heap.size ≤ b := hf3 b hb; have := hCb.lt; have := Hcb.out; omega)) hF2
  have hB3 := hO3.blk hCb (by simp)
  have e1 : w3x.cell? ⟨cb, 4, none⟩ = some (.slice Aw g.waiting.length cw) := hB3.cell 4
  have e2 : w3x.cell? ⟨cb, 6, none⟩ = some (.slice Ap g.parked.length cp) := hB3.cell 6
  have ef := fun j => hB3.free j
  refine stagesEnd ?_
  show wpList _ _ _ [_, _, _, _] _ _
  clear ho2 ho3 hR2 hF2
  go_wp2_with fail
  obtain ⟨Wx, hW⟩ : ∃ W, W = (w3x.setCell ⟨cb, 4, none⟩ (.slice A2x g.waiting.length c2x)).setCell ⟨cb, 6, none⟩ (.slice A3x g.parked.length c3x) := ⟨_, rfl⟩
  have hS : Only [cb] w3x Wx := by rw [hW]; exact ((Only.refl _ _).setCell (.inl (by simp)) _).setCell (.inl (by simp)) _
  have hOx : Only [] w Wx := (hO0.trans hO3).step hS (fun b hb => .inr (by have := Hcb.out; simp at hb; omega))
  have hCbx : Blk Wx cb 53 #[.int .i64 g.from_, .int .i64 g.buffer, .int .i64 g.retries, .int .i64 g.next, .slice A2x g.waiting.length c2x, .map (some fb), .slice A3x g.parked.length c3x, .slice Aa g.acked.length ca, .slice As g.skipped.length cs, .map (some tb)] := by rw [hW]; exact (hB3.set 4 _).set 6 _
  have hRx := And.intro (hR3.fresh_only hF3 hS (fun b hb => by have := Hcb.out; simp at hb; omega)) hF3
  rw [← hW]
  clear hW hS hR3 hF3 hB3 e1 e2 ef hO2 hO3 hk2 hk3 hf2 hf3 hz0 hz2
  clear k4 k6 HX HY hCb hR1 hO0 hGB
  have hGB := hOx.blk hB (by simp)
  have k7 := Within.cell (S := []) (hGB.cell 7 : Wx.cell? ⟨gb, 7, none⟩ = some (.slice Aa g.acked.length ca)) (by simp)
  have k8 := Within.cell (S := []) (hGB.cell 8 : Wx.cell? ⟨gb, 8, none⟩ = some (.slice As g.skipped.length cs)) (by simp)
  have HX := Lib.hid (fun (W : World) (hW : Only [] Wx W) => HCla.out W (hOx.trans hW))
  have HY := Lib.hid (fun (W : World) (hW : Only [] Wx W) => HCls.out W (hOx.trans hW))
  refine wp_region_stages (C := fun W => ∃ p : Within [] Wx, W = p.W) [([0, 1, 2, 3, 5, 6, 7, 8], [4, 9])] [10, 11, 12, 13] (by kernel_rfl) (by kernel_rfl) (by intro c d u a w h; cases d <;> exact h) ⟨⟨_, (Only.refl _ _).drew⟩, rfl⟩ ?_
  refine stagesFirst ?_
  show wpQuiet _ _ _ _ [_, _, _, _, _, _, _, _] _
  repeat (go_big_quiet_step (fail))
  refine wpQuiet_nil ?_
  show wpList _ _ _ [_] _ _
  go_wp2_with (go_at_call 36; refine (HX.out _ (Only.refl _ _).drew).mono ?_; rintro e w2y ⟨v2y, rfl, ho2, hf2, hk2⟩; obtain ⟨A2y, c2y, rfl, _, _⟩ := own_form ho2)
  have hO2 : Only [] Wx w2y := (Only.refl [] Wx).drew.trans hk2
  refine check_of (S := []) hO2 ?_
  show wpList _ _ _ [_] _ _
  go_wp2_with (go_at_call 36; refine (HY.out _ hO2).mono ?_; rintro e w3y ⟨v3y, rfl, ho3, hf3, hk3⟩; obtain ⟨A3y, c3y, rfl, _, _⟩ := own_form ho3)
  have hO3 : Only [] Wx w3y := hO2.trans hk3
  refine check_of (S := []) hO3 ?_
  have hz0 := hOx.size
  have hz2 := hO2.size
  have hR2 := hRx.1.add hO2 ho2 (fun b hb => (by have := hf2 b hb; exact this))
  have hF2 := blocksOf_cons (xs := g.acked) (m := w.heap.size + 1) (fun b hb => (by have q : Wx.heap.size ≤ b := hf2 b hb; have := hCbx.lt; have := Hcb.out; omega)) hRx.2
  have hR3 := hR2.add hk3 ho3 hf3
  have hF3 := blocksOf_cons (xs := g.skipped) (m := w.heap.size + 1) (fun b hb => (by have q : w2y.heap.size ≤ b := hf3 b hb; have := hCbx.lt; have := Hcb.out; omega)) hF2
  have hB3 := hO3.blk hCbx (by simp)
  have e1 : w3y.cell? ⟨cb, 7, none⟩ = some (.slice Aa g.acked.length ca) := hB3.cell 7
  have e2 : w3y.cell? ⟨cb, 8, none⟩ = some (.slice As g.skipped.length cs) := hB3.cell 8
  have ef := fun j => hB3.free j
  refine stagesEnd ?_
  show wpList _ _ _ [_, _, _, _] _ _
  clear ho2 ho3 hR2 hF2
  go_wp2_with fail
  obtain ⟨Wy, hW⟩ : ∃ W, W = (w3y.setCell ⟨cb, 7, none⟩ (.slice A2y g.acked.length c2y)).setCell ⟨cb, 8, none⟩ (.slice A3y g.skipped.length c3y) := ⟨_, rfl⟩
  have hS : Only [cb] w3y Wy := by rw [hW]; exact ((Only.refl _ _).setCell (.inl (by simp)) _).setCell (.inl (by simp)) _
  have hOy : Only [] w Wy := (hOx.trans hO3).step hS (fun b hb => .inr (by have := Hcb.out; simp at hb; omega))
  have hCby : Blk Wy cb 53 #[.int .i64 g.from_, .int .i64 g.buffer, .int .i64 g.retries, .int .i64 g.next, .slice A2x g.waiting.length c2x, .map (some fb), .slice A3x g.parked.length c3x, .slice A2y g.acked.length c2y, .slice A3y g.skipped.length c3y, .map (some tb)] := by rw [hW]; exact (hB3.set 7 _).set 8 _
  have hRy := And.intro (hR3.fresh_only hF3 hS (fun b hb => by have := Hcb.out; simp at hb; omega)) hF3
  rw [← hW]
  clear hW hS hR3 hF3 hB3 e1 e2 ef hO2 hO3 hk2 hk3 hf2 hf3 hz0 hz2
  clear k7 k8 HX HY hCbx hRx hOx hGB
  have hGB := hOy.blk hB (by simp)
  have k5 := Within.cell (S := []) (hGB.cell 5 : Wy.cell? ⟨gb, 5, none⟩ = some (.map (some fb))) (by simp)
  have k9 := Within.cell (S := []) (hGB.cell 9 : Wy.cell? ⟨gb, 9, none⟩ = some (.map (some tb))) (by simp)
  have HMF := Lib.hid (fun (W : World) (hW : Only [] Wy W) => cloneMF_any ((h.flight.only (hOy.trans hW) (by simp))))
  have HMT := Lib.hid (fun (W : World) (hW : Only [] Wy W) => cloneMT_any ((h.tries.only (hOy.trans hW) (by simp))))
  refine wp_region_stages (C := fun W => ∃ p : Within [] Wy, W = p.W) [([0, 1, 2, 3, 5, 6, 7, 8], [4, 9])] [10, 11, 12, 13] (by kernel_rfl) (by kernel_rfl) (by intro c d u a w h; cases d <;> exact h) ⟨⟨_, (Only.refl _ _).drew⟩, rfl⟩ ?_
  refine stagesFirst ?_
  show wpQuiet _ _ _ _ [_, _, _, _, _, _, _, _] _
  repeat (go_big_quiet_step (fail))
  refine wpQuiet_nil ?_
  show wpList _ _ _ [_] _ _
  go_wp2_with (go_at_call 39; refine (HMF.out _ (Only.refl _ _).drew).mono ?_; rintro e w5 ⟨fc, rfl, hm5, hl5, hu5, hk5⟩)
  have hl5' : Wy.heap.size ≤ fc := hl5
  have hO5 : Only [] Wy w5 := (Only.refl [] Wy).drew.trans hk5
  refine check_of (S := []) hO5 ?_
  show wpList _ _ _ [_] _ _
  go_wp2_with (go_at_call 40; refine (HMT.out _ hO5).mono ?_; rintro e w6 ⟨tc, rfl, hm6, hl6, hu6, hO56⟩)
  have hO6 : Only [] Wy w6 := hO5.trans hO56
  have hm56 := hm5.only hO56 (by simp)
  have hB6 := hO6.blk hCby (by simp)
  have e1 : w6.cell? ⟨cb, 5, none⟩ = some (.map (some fb)) := hB6.cell 5
  have e2 : w6.cell? ⟨cb, 9, none⟩ = some (.map (some tb)) := hB6.cell 9
  have ef := fun j => hB6.free j
  refine check_of (S := []) hO6 ?_
  refine stagesEnd ?_
  show wpList _ _ _ [_, _, _, _] _ _
  have hzy := hOy.size
  have hcly := hCby.lt
  have HF : Hid (cb < fc ∧ fc < tc ∧ w.heap.size ≤ fc) := ⟨by omega, by omega, by omega⟩
  have hWz : Only [cb] w6 ((w6.setCell ⟨cb, 5, none⟩ (.map (some fc))).setCell ⟨cb, 9, none⟩ (.map (some tc))) := ((Only.refl _ _).setCell (.inl (by simp)) _).setCell (.inl (by simp)) _
  have hCbz : Blk ((w6.setCell ⟨cb, 5, none⟩ (.map (some fc))).setCell ⟨cb, 9, none⟩ (.map (some tc))) cb 53 #[.int .i64 g.from_, .int .i64 g.buffer, .int .i64 g.retries, .int .i64 g.next, .slice A2x g.waiting.length c2x, .map (some fc), .slice A3x g.parked.length c3x, .slice A2y g.acked.length c2y, .slice A3y g.skipped.length c3y, .map (some tc)] := (hB6.set 5 _).set 9 _
  have hne1 : fc ≠ cb := by have := HF.out; omega
  have hne2 : tc ≠ cb := by have := HF.out; omega
  have hmFz := hm56.only hWz (by simp; exact hne1)
  have hmTz := hm6.only hWz (by simp; exact hne2)
  have hRz := And.intro ((hRy.1.only0 hO6).fresh_only hRy.2 hWz (fun b hb => by have := Hcb.out; simp at hb; omega)) hRy.2
  have hOz : Only [] w ((w6.setCell ⟨cb, 5, none⟩ (.map (some fc))).setCell ⟨cb, 9, none⟩ (.map (some tc))) := (hOy.trans hO6).step hWz (fun b hb => .inr (by have := Hcb.out; simp at hb; omega))
  have HCz := Lib.hid hCbz
  have HFz := Lib.hid hmFz
  have HTz := Lib.hid hmTz
  have HRz := Lib.hid hRz
  have HOz := Lib.hid hOz
  clear hCbz hmFz hmTz hRz hOz hWz hB6 hm56 hm6 hm5 hRy hOy hCby hO5 hO6 hO56 hl5 hl5' hu5 hl6 hu6 hk5 hGB k5 k9 hne1 hne2
  go_wp2_with (at_range; refine wpList_range_is rfl 50 rfl Try.underlying50 rfl HFz.out ?_; intro o' hit)
  have HIt := Lib.hid hit
  clear hit
  go_frame
  obtain ⟨Wz, hW⟩ : ∃ W, W = ((w6.setCell ⟨cb, 5, none⟩ (.map (some fc))).setCell ⟨cb, 9, none⟩ (.map (some tc))) := ⟨_, rfl⟩
  rw [← hW] at HCz HFz HTz HRz HOz HIt ⊢
  clear hW
  obtain ⟨base, hbase⟩ : ∃ base : List (Value × List Int), base = [(.slice A3y g.skipped.length c3y, g.skipped), (.slice A2y g.acked.length c2y, g.acked), (.slice A3x g.parked.length c3x, g.parked), (.slice A2x g.waiting.length c2x, g.waiting)] := ⟨_, rfl⟩
  have hRzz := HRz.out
  rw [← hbase] at hRzz
  have HRz := Lib.hid hRzz
  have HBase := Lib.hid hbase
  clear hRzz hbase
  have hHF := HF.out
  have hzr := HOz.out.size
  have hcz := HCz.out.lt
  have hfz := HFz.out.lt
  have htz := HTz.out.lt
  obtain ⟨r, hr⟩ : ∃ r, r = Wz.heap.size := ⟨_, rfl⟩
  have hr2 : cb < r ∧ fc < r ∧ tc < r ∧ w.heap.size ≤ r := by rw [hr]; exact ⟨hcz, hfz, htz, hzr⟩
  have hIt := HIt.out
  rw [← hr] at hIt ⊢
  have HIt2 := Lib.hid hIt
  have HAl : Hid (Only [] Wz (Wz.alloc o')) := (Only.refl [] Wz).alloc _
  clear hr hIt HIt
  go_loopw [] (fun wr => ∃ (left done : List (ByteArray × List Int)) (nv : ByteArray → Value), (done ++ left).Perm g.flight ∧
      IterIs Value.string wr r fc (fvl nv g.flight) (fvl pf left) ∧
      (Rows wr (done.map (fun p => (nv p.1, p.2)) ++ base) ∧
        ∀ b ∈ blocksOf (done.map (fun p => (nv p.1, p.2)) ++ base), w.heap.size + 1 ≤ b) ∧
      Blk wr cb 53 #[.int .i64 g.from_, .int .i64 g.buffer, .int .i64 g.retries, .int .i64 g.next, .slice A2x g.waiting.length c2x, .map (some fc), .slice A3x g.parked.length c3x, .slice A2y g.acked.length c2y, .slice A3y g.skipped.length c3y, .map (some tc)] ∧
      MapIs (Value.int .i64) wr tc (g.tries.map fun p => (p.1, Value.int .i64 p.2)) ∧ Only [] w wr) (fun wr => wr.rangeLeft fc r)
  case atStart =>
    refine ⟨g.flight, [], pf, by simp, by simpa [fvl] using HIt2.out, ?_, HAl.out.blk HCz.out (by simp), HTz.out.only HAl.out (by simp), HOz.out.trans HAl.out⟩
    exact ⟨HRz.out.1.only0 HAl.out, HRz.out.2⟩
  case round =>
    obtain ⟨left, done, nv, hperm, hi, hrows, hblk, hmt, ho⟩ := hrel
    have hnod : ((done ++ left).map (·.1)).Nodup := (hperm.map (fun p : ByteArray × List Int => p.1)).nodup_iff.2 h.nod
    have HR := Lib.hid hrows
    have HP := Lib.hid hperm
    have HM := Lib.hid hmt
    have HB := Lib.hid hblk
    have d5 : wr.cell? ⟨cb, 5, none⟩ = some (.map (some fc)) := hblk.cell 5
    clear hrows hperm hmt hblk
    go_wp2_with (at_next; refine wpList_next_fl rfl rfl rfl hi ?_ ?_)
    · intro h0
      have HI := Lib.hid hi
      clear hi
      go_wp2
      go_ret
      have hp := HP.out
      rw [h0, List.append_nil] at hp
      have hrw := HR.out
      have hrp : (done.map (fun p : ByteArray × List Int => (nv p.1, p.2)) ++ base).Perm (rowsOf (.slice A2x g.waiting.length c2x) (.slice A3x g.parked.length c3x) (.slice A2y g.acked.length c2y) (.slice A3y g.skipped.length c3y) nv g) := by
        unfold rowsOf
        rw [HBase.out]
        refine List.perm_append_comm.trans ?_
        have h4 : ∀ (a b c d : Value × List Int) (M : List (Value × List Int)), ([a, b, c, d] ++ M).Perm (d :: c :: b :: a :: M) := fun a b c d M => by
          have := (List.reverse_perm [a, b, c, d]).append_right M
          exact this.symm
        refine (h4 _ _ _ _ _).trans ?_
        exact ((((hp.map _).cons _).cons _).cons _).cons _
      refine ⟨cb, fc, tc, _, _, _, _, nv, rfl, ⟨HB.out, HI.out.map, HM.out, hrw.1.perm hrp, by omega⟩, fun b hb => ?_, ho⟩
      have := Hcb.out
      rcases mem_hG.1 hb with q | q | q | q
      · omega
      · omega
      · omega
      · have h5 := hrw.2 b (by
          obtain ⟨p, hp2, hq⟩ := mem_blocksOf.1 q
          exact mem_blocksOf.2 ⟨p, hrp.mem_iff.2 hp2, hq⟩)
        omega
    · intro l1 qn ql l2 w' hsp hi' ho' hen
      have hq : (qn, ql) ∈ g.flight := HP.out.mem_iff.1 (by rw [hsp]; simp)
      have hql : ql.length ≤ 1000 * N := hok.len (hok.fl _ hq)
      obtain ⟨Aq, cq, hpq, _, _⟩ := own_form (h.row hq)
      have HCq := Lib.hid (fun (W : World) (hW : Only [] w W) => clone_any ((h.only0 hW).row hq).slc (by show ql.length ≤ 1000000000; omega))
      have hrne : cb ≠ r := by omega
      have ho7 : Only [] w w' := ho.step ho' (fun b hb => .inr (by simp at hb; omega))
      have d5' : w'.cell? ⟨cb, 5, none⟩ = some (.map (some fc)) := (ho'.blk HB.out (by simp; exact hrne)).cell 5
      have hmu := hi'.left_eq
      have hmu0 := hi.left_eq
      have HL : Hid ((fvl pf (l1 ++ l2)).length < wr.rangeLeft fc r) := by rw [Hid, hmu0, hsp]; simp [fvl]
      have hkq : qn ∉ done.map (·.1) ∧ qn ∉ (l1 ++ l2).map (·.1) := by
        rw [hsp] at hnod
        simp only [List.map_append, List.map_cons] at hnod ⊢
        obtain ⟨_, n2, n3⟩ := List.nodup_append.1 hnod
        obtain ⟨_, n5, n6⟩ := List.nodup_append.1 n2
        refine ⟨fun q => n3 qn q qn (by simp) rfl, fun q => ?_⟩
        rcases List.mem_append.1 q with q | q
        · exact n6 qn q qn (by simp) rfl
        · exact (List.nodup_cons.1 n5).1 q
      have hPerm : ((qn, ql) :: done ++ (l1 ++ l2)).Perm g.flight := by
        refine List.Perm.trans ?_ HP.out
        rw [hsp]
        have := (List.perm_middle (a := (qn, ql)) (l₁ := done ++ l1) (l₂ := l2)).symm
        simpa using this
      have hrows' := HR.out.1.only ho' (fun b hb q => by
        have e : b = r := by simpa using q
        subst e
        obtain ⟨p, hp, hq⟩ := mem_blocksOf.1 hb
        obtain ⟨cur, hcur⟩ := own_type (HR.out.1.own p hp) hq
        exact hi.ne_blk hcur rfl)
      have hmt' := HM.out.only ho' (by simp; omega)
      have hblk' := ho'.blk HB.out (by simp; exact hrne)
      have hi8 := fun (w8 : World) (k : Only [] w' w8) => hi'.only k (by simp) (by simp)
      simp only at hpq hen ⊢
      rw [hpq] at hen HCq ⊢
      have HPerm := Lib.hid hPerm
      have HKq := Lib.hid hkq
      have HRw := Lib.hid hrows'
      have HMt := Lib.hid hmt'
      have HBk := Lib.hid hblk'
      have HI8 := Lib.hid hi8
      have HO7 := Lib.hid ho7
      have Hq := Lib.hid hq
      have k5 := Within.cell (S := []) d5' (by simp)
      clear hmu hmu0 hsp hi hi' ho ho' hpq hPerm hkq hrows' hmt' hblk' hi8 hq hnod d5 HP HB HM hr2
      go_wp2_with fail
      refine wp_region_stages (C := fun W => ∃ p : Within [] w', W = p.W) [([0, 1, 2, 3], [4])] [5] (by kernel_rfl) (by kernel_rfl) (by intro c d u a w h; cases d <;> exact h) ⟨⟨_, (Only.refl _ _).drew⟩, rfl⟩ ?_
      refine stagesFirst ?_
      show wpQuiet _ _ _ _ [_, _, _, _] _
      repeat (go_big_quiet_step (fail))
      refine wpQuiet_nil ?_
      show wpList _ _ _ [_] _ _
      go_wp2_with (go_at_call 36; refine (HCq.out _ (HO7.out.drew)).mono ?_; rintro e w8 ⟨v8, rfl, ho8, hf8, hk8⟩; obtain ⟨A8, c8, rfl, _, _⟩ := own_form ho8)
      have hO8 : Only [] w' w8 := (Only.refl [] w').drew.trans hk8
      refine check_of (S := []) hO8 ?_
      have hi9 := HI8.out w8 hO8
      have hR8 := HRw.out.add hO8 ho8 (fun b hb => hf8 b hb)
      have hR8f := blocksOf_cons (xs := ql) (m := w.heap.size + 1) (fun b hb => (by have q : w'.heap.size ≤ b := hf8 b hb; have := HO7.out.size; have := Hcb.out; have := HBk.out.lt; omega)) HR.out.2
      have hm8 := HMt.out.only hO8 (by simp)
      have hb8 := hO8.blk HBk.out (by simp)
      have HI9 := Lib.hid hi9
      have HR8 := Lib.hid hR8
      have HR8f := Lib.hid hR8f
      have HM8 := Lib.hid hm8
      have HB8 := Lib.hid hb8
      clear hi9 hR8 hR8f hm8 hb8 ho8
      refine stagesEnd ?_
      show wpList _ _ _ [_] _ _
      refine wpList_update_iter rfl 50 rfl keyEnc_string Try.underlying50 Try.underlying9 qn (.slice A8 ql.length c8) rfl rfl rfl HI9.out ?_ ?_ ?_
      · unfold fvl
        rw [aget_mapk (fun k _ => nv k)]
        have : (aget g.flight qn).isSome = true := by
          cases hx : aget g.flight qn with
          | some _ => rfl
          | none => exact absurd (List.mem_map.2 ⟨(qn, ql), Hq.out, rfl⟩) (aget_none.1 hx)
        cases hx : aget g.flight qn with
        | some _ => rfl
        | none => rw [hx] at this; cases this
      · have := HKq.out.2
        unfold fvl
        rw [List.map_map]
        exact this
      · intro w9 hi9 hk9
        have hmq : qn ∈ g.flight.map (·.1) := List.mem_map.2 ⟨(qn, ql), Hq.out, rfl⟩
        have hput : aput (fvl nv g.flight) qn (.slice A8 ql.length c8) = fvl (fun a => if a = qn then .slice A8 ql.length c8 else nv a) g.flight := by
          have := aput_mapf nv (g.flight.map (fun p : ByteArray × List Int => p.1)) h.nod qn hmq (.slice A8 ql.length c8)
          rw [List.map_map, List.map_map] at this
          exact this
        rw [hput] at hi9
        have hdone : (((qn, ql) :: done).map (fun p => ((fun a => if a = qn then Value.slice A8 ql.length c8 else nv a) p.1, p.2)) ++ base) = (.slice A8 ql.length c8, ql) :: (done.map (fun p => (nv p.1, p.2)) ++ base) := by
          simp only [List.map_cons, if_pos, List.cons_append]
          refine congrArg _ (congrArg (· ++ base) (List.map_congr_left (fun p hp => ?_)))
          rw [if_neg (fun e => HKq.out.1 (List.mem_map.2 ⟨p, hp, e⟩))]
        have hmap8 : MapIs Value.string w8 fc (fvl nv g.flight) := HI9.out.map
        have hR9 : Rows w9 ((.slice A8 ql.length c8, ql) :: (done.map (fun p => (nv p.1, p.2)) ++ base)) := HR8.out.only hk9 (fun b hb q => by
          have e : b = fc := by simpa using q
          subst e
          obtain ⟨p, hp, hq⟩ := mem_blocksOf.1 hb
          obtain ⟨cur, hcur⟩ := own_type (HR8.out.own p hp) hq
          exact hmap8.ne_blk hcur rfl)
        have hcf : cb ≠ fc := by omega
        have htf : tc ≠ fc := by omega
        have hb9 := hk9.blk HB8.out (by simp; exact hcf)
        have hm9 := HM8.out.only hk9 (by simp; exact htf)
        have ho9 : Only [] w w9 := (HO7.out.trans hO8).step hk9 (fun b hb => .inr (by simp at hb; omega))
        have hml := hi9.left_eq
        have HML : Hid (w9.rangeLeft fc r < wr.rangeLeft fc r) := by rw [Hid, hml]; exact HL.out
        have HD9 := Lib.hid hdone
        clear hdone hml hput
        go_wp2
        go_roundw
        case rel =>
          refine ⟨l1 ++ l2, (qn, ql) :: done, HPerm.out, (fun a => if a = qn then .slice A8 ql.length c8 else nv a), hi9, ?_, ?_⟩
          · rw [HD9.out]
            exact hR9
          · rw [HD9.out]
            exact HR8f.out
        case measure => exact HML.out
end
end Go.Proofs.Ythjgplgfcbhihaa
