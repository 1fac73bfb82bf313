/- The law GroupCopies: a copy goes its own way; the same done to both is the same. -/
import Derived.Test.YthjgplgfcbhihaaGo4
set_option linter.unusedVariables false
set_option linter.unusedSimpArgs false
namespace Go.Proofs.Ythjgplgfcbhihaa
open Go.RowKit Go Go.Sort Go.Lib
theorem in_copy {a w : World} {H : List Nat} {gb N : Nat} {g : GS} (h : HasG a w H gb g N) (hN : N ≤ 1000) :
    Calls Try.prog 24 #[.pointer (some ⟨gb, 0, none⟩)] w fun e w' => ∃ cb H', e = .returned (.pointer (some ⟨cb, 0, none⟩)) ∧ HasG a w' H' cb g N ∧ Only [] w w' ∧ ∀ x ∈ H', w.heap.size ≤ x := by
  obtain ⟨⟨fb, tb, vw, vp, va, vs, pf, h1, rfl, hok, hnm⟩, ho, hab⟩ := h
  exact (copy_any h1 hok (by omega)).mono fun e w' ⟨cb, fb', tb', v1, v2, v3, v4, pf', e1, q1, q2, q3⟩ => ⟨cb, _, e1, ⟨⟨fb', tb', v1, v2, v3, v4, pf', q1, rfl, hok, hnm⟩, ho.trans q3, fun x hx => Nat.le_trans ho.size (q2 x hx)⟩, q3, q2⟩
theorem HasG.beside {a w w' : World} {H H1 H1' : List Nat} {gb N : Nat} {g : GS} (h : HasG a w H gb g N) (k : Stepped w w' H1 H1') (ha : ∀ b ∈ H1, a.heap.size ≤ b) (hd : ∀ b ∈ H, b ∉ H1) : HasG a w' H gb g N ∧ ∀ b ∈ H, b ∉ H1' := by
  obtain ⟨⟨S, hS, hSH⟩, hb⟩ := k
  refine ⟨⟨h.gin.keep hS (fun b q r => hd b q (hSH b r)), ((Stepped.of hS hSH hb).above h.only ha).1, h.above⟩, fun b q r => ?_⟩
  rcases hb b r with q1 | q1
  · exact hd b q q1
  · have := h.gin.lt b q
    omega
set_option maxRecDepth 100000 in
set_option maxHeartbeats 4000000 in
theorem copies_go (w : World) (v1 v2 : Value) (l m : List OpG) (h1 : OpsG w w v1 l) (h2 : OpsG w w v2 m) :
    Calls Try.prog 5 #[v1, v2] w fun e w' => e = .returned (.bool true) ∧ Only [] w w' := by
  have HL1 := Lib.hid (fun (W : World) (hw : Only [] w W) => (lightG_any (w := W) (v := v1) (l := l) ⟨slc_keep (a := w) hw (by simp) rfl h1.slc h1.own, fun g q => (h1.own g q).imp (fun r => Nat.lt_of_lt_of_le r hw.size) id, fun o ho => ⟨(h1.op o ho).1, slc_keep (a := w) hw (by simp) rfl (h1.op o ho).2.1 (h1.op o ho).2.2, fun g q => ((h1.op o ho).2.2 g q).imp (fun r => Nat.lt_of_lt_of_le r hw.size) id⟩⟩))
  have HL2 := Lib.hid (fun (W : World) (hw : Only [] w W) => (lightG_any (w := W) (v := v2) (l := m) ⟨slc_keep (a := w) hw (by simp) rfl h2.slc h2.own, fun g q => (h2.own g q).imp (fun r => Nat.lt_of_lt_of_le r hw.size) id, fun o ho => ⟨(h2.op o ho).1, slc_keep (a := w) hw (by simp) rfl (h2.op o ho).2.1 (h2.op o ho).2.2, fun g q => ((h2.op o ho).2.2 g q).imp (fun r => Nat.lt_of_lt_of_le r hw.size) id⟩⟩))
  have HAl := Lib.hid (fun W => alive_any W)
  have HNew := Lib.hid (fun (W : World) (hw : Only [] w W) => in_new w W hw 0 3 1 (by rfl))
  have HR1 := Lib.hid (fun (W : World) (hw : Only [] w W) (H : List Nat) (gb N : Nat) (g : GS) (hg : HasG w W H gb g N) => runG_any (l := l) hg (h1.keep0 hw))
  have HR2 := Lib.hid (fun (W : World) (hw : Only [] w W) (H : List Nat) (gb N : Nat) (g : GS) (hg : HasG w W H gb g N) => runG_any (l := m) hg (h2.keep0 hw))
  obtain ⟨A, cap, rfl, _⟩ := h1.slc.cell
  obtain ⟨A2, cap2, rfl, _⟩ := h2.slc.cell
  clear h1 h2
  go_enter Try.func5, Try.ntmps5
  go_wp2_with fail
  refine (HL1.out _ (Only.refl _ _)).mono ?_
  rintro e w1 ⟨⟨b1, rfl, hl1⟩, ho1⟩
  cases b1
  · go_wp2_with (go_at_call 7; refine (HAl.out _).mono ?_; rintro e w3 ⟨rfl, ho3⟩)
    go_ret
    exact ⟨rfl, ho1.trans ho3⟩
  go_wp2_with fail
  refine (HL2.out _ ho1).mono ?_
  rintro e w2 ⟨⟨b2, rfl, hl2⟩, ho2⟩
  have ho2 := ho1.trans ho2
  cases b2
  · go_wp2_with (go_at_call 7; refine (HAl.out _).mono ?_; rintro e w3 ⟨rfl, ho3⟩)
    go_ret
    exact ⟨rfl, ho2.trans ho3⟩
  have hsl : SmallG l := by first | exact hl1 rfl | exact hl1 trivial | exact hl1
  have hsm : SmallG m := by first | exact hl2 rfl | exact hl2 trivial | exact hl2
  have hl60 := hsl.1
  have hm60 := hsm.1
  clear hl1 hl2 HL1 HL2
  go_wp2_with fail
  refine (HNew.out _ ho2).mono ?_
  rintro e w3 ⟨gb, H3, rfl, hg3, _, _⟩
  go_wp2_with fail
  refine (HR1.out _ hg3.only _ _ _ _ hg3 (by omega) hsl).mono ?_
  rintro e w4 ⟨rfl, H4, hg4, _⟩
  obtain ⟨G, hG⟩ : ∃ G, G = runG (GS.new 0 3 1) l := ⟨_, rfl⟩
  obtain ⟨N, hN⟩ : ∃ N, N = 0 + l.length := ⟨_, rfl⟩
  have hN60 : N ≤ 60 := by omega
  rw [← hG, ← hN] at hg4
  clear hG hN hg3 HR1 HNew
  go_wp2_with fail
  refine (in_copy hg4 (by omega)).mono ?_
  rintro e w5 ⟨ab, Ha, rfl, ha5, k5, f5⟩
  have d5 : ∀ b ∈ H4, b ∉ Ha := fun b q r => by
    have := hg4.gin.lt b q
    have := f5 b r
    omega
  have hg5 := hg4.keep0 k5
  clear hg4
  go_wp2_with fail
  refine (in_copy hg5 (by omega)).mono ?_
  rintro e w6 ⟨bb, Hb, rfl, hb6, k6, f6⟩
  have d6 : ∀ b ∈ H4, b ∉ Hb := fun b q r => by
    have := hg5.gin.lt b q
    have := f6 b r
    omega
  have d6' : ∀ b ∈ Hb, b ∉ Ha := fun b q r => by
    have := ha5.gin.lt b r
    have := f6 b q
    omega
  have hg6 := hg5.keep0 k6
  have ha6 := ha5.keep0 k6
  clear hg5 ha5 k5 k6 f5 f6
  go_wp2_with fail
  refine (sameG_any ha6 hb6 (by omega) (by omega)).mono ?_
  rintro e w7 ⟨rfl, k7⟩
  have hg7 := hg6.keep0 k7
  have ha7 := ha6.keep0 k7
  have hb7 := hb6.keep0 k7
  clear hg6 ha6 hb6 k7
  go_wp2_with fail
  refine (HR2.out _ ha7.only _ _ _ _ ha7 (by omega) hsm).mono ?_
  rintro e w8 ⟨rfl, Ha8, ha8, k8⟩
  obtain ⟨hg8, e8⟩ := hg7.beside k8 ha7.above d5
  obtain ⟨hb8, e8'⟩ := hb7.beside k8 ha7.above d6'
  clear hg7 ha7 hb7 k8 d5 d6'
  go_wp2_with fail
  refine (sameG_any hg8 hb8 (by omega) (by omega)).mono ?_
  rintro e w9 ⟨rfl, k9⟩
  have ha9 := ha8.keep0 k9
  have hb9 := hb8.keep0 k9
  clear hg8 ha8 hb8 k9
  go_wp2_with fail
  refine (HR2.out _ hb9.only _ _ _ _ hb9 (by omega) hsm).mono ?_
  rintro e w10 ⟨rfl, Hb10, hb10, k10⟩
  obtain ⟨ha10, _⟩ := ha9.beside k10 hb9.above (fun b q r => e8' b r q)
  clear ha9 hb9 k10
  go_wp2_with fail
  refine (HAl.out _).mono ?_
  rintro e w11 ⟨rfl, k11⟩
  have ha11 := ha10.keep0 k11
  have hb11 := hb10.keep0 k11
  clear ha10 hb10
  go_wp2_with fail
  refine (sameG_any ha11 hb11 (by omega) (by omega)).mono ?_
  rintro e w12 ⟨rfl, k12⟩
  have hO := ha11.only.trans k12
  clear ha11 hb11
  go_wp2
  go_ret
  exact ⟨rfl, hO⟩
/-- What the row asks for. -/
theorem copiesW (v1 : Value) (l : List OpG) (v2 : Value) (m : List OpG) (W : World)
    (x0 : Slc W 4 v1 l.length (l.flatMap OpG.cells)) (y0 : ∀ o ∈ l, o.Ok W ∧ o.cells.length = 4) (z0 : ∀ g, v1.ownBlock = some g → g < W.heap.size ∨ l = [])
    (x1 : Slc W 4 v2 m.length (m.flatMap OpG.cells)) (y1 : ∀ o ∈ m, o.Ok W ∧ o.cells.length = 4) (z1 : ∀ g, v2.ownBlock = some g → g < W.heap.size ∨ m = []) :
    Calls Try.prog 5 #[v1, v2] W fun e W' => e = .returned (.bool true) ∧ Only [] W W' :=
  copies_go W v1 v2 l m (OpsG.of x0 y0 z0) (OpsG.of x1 y1 z1)
end Go.Proofs.Ythjgplgfcbhihaa
