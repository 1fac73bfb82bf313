/- Contract: forget. -/
import Derived.Test.YthjgplgfcbhihaaGc10
set_option linter.unusedVariables false
set_option linter.unusedSimpArgs false
namespace Go.Proofs.Ythjgplgfcbhihaa
open Go.RowKit Go Go.Sort Go.Lib
/-- Within, with one thing more that stays. -/
structure WithinE (S : List Nat) (E : World → Prop) (w : World) where
  W : World
  h : Only S w W
  e : E W
section
variable {P : Program} {Q : Exit → Act → World → Prop} {l : List Oper} {S : List Nat} {E : World → Prop}
theorem wp_region_inE {id : Nat} {a : Act} {w : World} (S H T1 T2 : List Nat) (E : World → Prop) (hE : E w.drew) (hm : P.follows .mixedOrders = true) (hB : planB .any l.toArray H T1 T2 = true) (hQ : ∀ c d u a w, Q (.panic c) (Act.put a d u) w → Q (.panic c) a w)
    (h : Nonempty (WithinE S E w) → wpQuiet P l.toArray (fun W => ∃ p : WithinE S E w, W = p.W) (fun a' => wpT1 P l.toArray (fun W => ∃ p : WithinE S E w, W = p.W) Q (opsAt l T1) (fun a w => wpList P l.toArray Q (opsAt l T2) a w) a' w.drew) (opsAt l H) a) : (Code.region id l.toArray true).wp P Q a w :=
  wp_region_plan H T1 T2 hm hB hQ ⟨⟨_, (Only.refl S w).drew, hE⟩, rfl⟩ (h ⟨⟨_, (Only.refl S w).drew, hE⟩⟩)
theorem WithinE.cell {w : World} {x : Addr} {v : Value} (hc : w.cell? x = some v) (hn : x.block ∉ S) (p : WithinE S E w) : p.W.cell? x = some v := (p.h.cell (block_lt_of_cell hc) hn).trans hc
theorem check_ofE {w w' : World} {K : Act → World → Prop} {a : Act} (hO : Only S w w') (hE : E w') (h : K a w') : CheckQ (fun W => ∃ p : WithinE S E w, W = p.W) Q K .normal a w' := ⟨⟨⟨w', hO, hE⟩, rfl⟩, h⟩
end
section
variable {w : World} {gb fb tb N : Nat} {vw vp va vs : Value} {pf : ByteArray → Value} {g : GS}
/-- Two rows turned, one behind the other, then both stored. -/
theorem GAt.setAS (h : GAt w gb fb tb vw vp va vs pf g) {w1 w2 : World} {va' vs' : Value} {la ls : List Int} (k : RowTo w va w1 va' la) (k2 : RowTo w1 vs w2 vs' ls) :
    GAt ((w2.setCell ⟨gb, 7, none⟩ va').setCell ⟨gb, 8, none⟩ vs') gb fb tb vw vp va' vs' pf { g with acked := la, skipped := ls } ∧
      Stepped w ((w2.setCell ⟨gb, 7, none⟩ va').setCell ⟨gb, 8, none⟩ vs') (hG gb fb tb (rowsOf vw vp va vs pf g)) (hG gb fb tb (rowsOf vw vp va' vs' pf { g with acked := la, skipped := ls })) := by
  have hva : ∀ b, va.ownBlock = some b → b ∈ blocksOf (rowsOf vw vp va vs pf g) := fun b hb => mem_blocksOf.2 ⟨(va, g.acked), by simp [rowsOf], hb⟩
  have hvs : ∀ b, vs.ownBlock = some b → b ∈ blocksOf (rowsOf vw vp va vs pf g) := fun b hb => mem_blocksOf.2 ⟨(vs, g.skipped), by simp [rowsOf], hb⟩
  have out : ∀ (v : Value), (∀ b, v.ownBlock = some b → b ∈ blocksOf (rowsOf vw vp va vs pf g)) → gb ∉ v.ownBlock.toList ∧ fb ∉ v.ownBlock.toList ∧ tb ∉ v.ownBlock.toList := fun v hv =>
    ⟨fun q => (h.rowne gb (hv gb (by simpa using q))).1 rfl, fun q => (h.rowne fb (hv fb (by simpa using q))).2.1 rfl, fun q => (h.rowne tb (hv tb (by simpa using q))).2.2 rfl⟩
  obtain ⟨a1, a2, a3⟩ := out va hva
  obtain ⟨s1, s2, s3⟩ := out vs hvs
  have hset : Only [gb] w2 ((w2.setCell ⟨gb, 7, none⟩ va').setCell ⟨gb, 8, none⟩ vs') := ((Only.refl _ w2).setCell (.inl (by simp)) _).setCell (.inl (by simp)) _
  have hr1 : Rows w1 (rowsOf vw vp va' vs pf { g with acked := la }) := ((h.rows.perm (rot3 _ _ _ _)).turn k).perm (rot3 _ _ _ _).symm
  have hr2 : Rows w2 (rowsOf vw vp va' vs' pf { g with acked := la, skipped := ls }) := ((hr1.perm (rot4 _ _ _ _ _)).turn k2).perm (rot4 _ _ _ _ _).symm
  have hB := k2.only.blk (k.only.blk h.blk a1) s1
  have hnf := h.nef
  have hnt := h.net
  refine ⟨⟨?_, ?_, ?_, ?_, h.ne⟩, ?_⟩
  · exact (hB.set 7 va').set 8 vs'
  · exact ((h.flight.only k.only a2).only k2.only s2).only hset (by simp; exact fun q => hnf q)
  · exact ((h.tries.only k.only a3).only k2.only s3).only hset (by simp; exact fun q => hnt q)
  · refine hr2.only hset (fun b hb q => ?_)
    have e : b = gb := by simpa using q
    subst e
    obtain ⟨p, hp, hq⟩ := mem_blocksOf.1 hb
    obtain ⟨cur, hcur⟩ := own_type (hr2.own p hp) hq
    exact hcur.other hB (by decide) rfl
  · refine Stepped.of (S := gb :: (va.ownBlock.toList ++ vs.ownBlock.toList)) ((((k.only.mono (fun b hb => by simp at hb ⊢; exact .inr (.inl hb))).trans (k2.only.mono (fun b hb => by simp at hb ⊢; exact .inr (.inr hb)))).setCell (.inl (by simp)) _).setCell (.inl (by simp)) _) (fun b hb => ?_) (fun b hb => ?_)
    · simp only [List.mem_cons, List.mem_append] at hb
      rcases hb with rfl | hb | hb
      · exact mem_hG.2 (.inl rfl)
      · exact mem_hG.2 (.inr (.inr (.inr (hva b (by simpa using hb)))))
      · exact mem_hG.2 (.inr (.inr (.inr (hvs b (by simpa using hb)))))
    · rcases mem_hG.1 hb with q | q | q | q
      · exact .inl (mem_hG.2 (.inl q))
      · exact .inl (mem_hG.2 (.inr (.inl q)))
      · exact .inl (mem_hG.2 (.inr (.inr (.inl q))))
      · obtain ⟨p, hp, hq⟩ := mem_blocksOf.1 q
        have hp' : p = (va', la) ∨ p = (vs', ls) ∨ p ∈ rowsOf vw vp va vs pf g := by
          simp only [rowsOf, List.mem_cons] at hp ⊢
          rcases hp with hp | hp | hp | hp | hp
          · simp [hp]
          · simp [hp]
          · simp [hp]
          · simp [hp]
          · exact .inr (.inr (.inr (.inr (.inr (.inr hp)))))
        rcases hp' with rfl | rfl | hp'
        · rcases k.blk b hq with q2 | q2
          · exact .inl (mem_hG.2 (.inr (.inr (.inr (hva b q2)))))
          · exact .inr q2
        · rcases k2.blk b hq with q2 | q2
          · exact .inl (mem_hG.2 (.inr (.inr (.inr (hvs b q2)))))
          · exact .inr (Nat.le_trans k.only.size q2)
        · exact .inl (mem_hG.2 (.inr (.inr (.inr (mem_blocksOf.2 ⟨p, hp', hq⟩)))))
theorem va_vs (h : GAt w gb fb tb vw vp va vs pf g) : ∀ b, vs.ownBlock = some b → b ∉ va.ownBlock.toList := fun b hb q => by
  have := (h.rows.perm (rot3 _ _ _ _)).apart b (by simpa using q)
  exact this (mem_blocksOf.2 ⟨(vs, g.skipped), by simp, hb⟩)
set_option maxRecDepth 100000 in
set_option maxHeartbeats 2000000 in
theorem forget_any (h : GAt w gb fb tb vw vp va vs pf g) (hok : g.Ok N) (hN : N ≤ 10000) :
    Calls Try.prog 38 #[.pointer (some ⟨gb, 0, none⟩)] w fun e w' => e = .returned (.tuple #[]) ∧ GOut w (hG gb fb tb (rowsOf vw vp va vs pf g)) gb fb tb g.forget w' := by
  have hac := hok.len hok.ac
  have hsk := hok.len hok.sk
  have hrow := h.rowne
  have hlth := h.lt
  have hrn := h.rows.nodup
  have HC := Lib.hid (ckpt_any h hok (by omega))
  have h7 : w.cell? ⟨gb, 7, none⟩ = some va := h.blk.cell 7
  have h8 : w.cell? ⟨gb, 8, none⟩ = some vs := h.blk.cell 8
  obtain ⟨c, hcE⟩ : ∃ c, c = g.checkpoint := ⟨_, rfl⟩
  rw [← hcE] at HC
  have HF : Hid (g.forget = { g with acked := g.acked.filter (fun x => !belowC c x), skipped := g.skipped.filter (fun x => !belowC c x) }) := by unfold Hid GS.forget belowC; rw [hcE]
  clear hcE
  obtain ⟨H, hH⟩ : ∃ H, H = hG gb fb tb (rowsOf vw vp va vs pf g) := ⟨_, rfl⟩
  rw [← hH]
  go_enter Try.func38, Try.ntmps38
  go_wp2_with (go_at_call 14; refine HC.out.mono ?_; rintro e w1 ⟨rfl, ho1⟩)
  obtain ⟨W, hW⟩ : ∃ W, W = w1.alloc (.cells #[.int .i64 c] 3) := ⟨_, rfl⟩
  have hO1 : Only [] w W := by rw [hW]; exact ho1.alloc _
  have hcB : W.cell? ⟨w1.heap.size, 0, none⟩ = some (.int .i64 c) := by rw [hW]; exact (Blk.new w1 3 #[.int .i64 c]).cell 0
  have hBne : ∀ b ∈ hG gb fb tb (rowsOf vw vp va vs pf g), b ≠ w1.heap.size := fun b hb => by have := hlth b hb; have := ho1.size; omega
  rw [← hW]
  have hD : Only [] w W.drew := hO1.drew
  have hA := h.only0 hD
  have hSt0 := Stepped.first0 hD (Stepped.refl W.drew (hG gb fb tb (rowsOf vw vp va vs pf g)))
  have hset := fun (w2 w3 : World) (v2 v3 : Value) (k2 : RowTo W.drew va w2 v2 (g.acked.filter (fun x => !belowC c x))) (k3 : RowTo w2 vs w3 v3 (g.skipped.filter (fun x => !belowC c x))) => hA.setAS k2 k3
  have hcD : W.drew.cell? ⟨w1.heap.size, 0, none⟩ = some (.int .i64 c) := hcB
  obtain ⟨B, hBB⟩ : ∃ B, B = w1.heap.size := ⟨_, rfl⟩
  rw [← hBB] at hBne hcB hcD ⊢
  have hBl : B < W.heap.size := block_lt_of_cell hcB
  clear hW hBB
  have hva : ∀ b, va.ownBlock = some b → b ∈ hG gb fb tb (rowsOf vw vp va vs pf g) := fun b hb => mem_hG.2 (.inr (.inr (.inr (mem_blocksOf.2 ⟨(va, g.acked), by simp [rowsOf], hb⟩))))
  have hvs : ∀ b, vs.ownBlock = some b → b ∈ hG gb fb tb (rowsOf vw vp va vs pf g) := fun b hb => mem_hG.2 (.inr (.inr (.inr (mem_blocksOf.2 ⟨(vs, g.skipped), by simp [rowsOf], hb⟩))))
  have hda := delC_any (w := W.drew) (B := B) c hA.ownA hcD (fun b hb => hBne b (hva b hb)) (by omega)
  have hnaB : B ∉ va.ownBlock.toList := fun q => hBne B (hva B (by simpa using q)) rfl
  have havs := va_vs h
  have hds := fun (w2 : World) (k2 : Only va.ownBlock.toList W.drew w2) => delC_any (w := w2) (B := B) c (hA.ownS.only k2 havs) ((k2.cell (by exact hBl) hnaB).trans hcD) (fun b hb => hBne b (hvs b hb)) (by omega)
  have hga : gb ∉ va.ownBlock.toList := fun q => (hrow gb (mem_blocksOf.2 ⟨(va, g.acked), by simp [rowsOf], by simpa using q⟩)).1 rfl
  have hgs : gb ∉ vs.ownBlock.toList := fun q => (hrow gb (mem_blocksOf.2 ⟨(vs, g.skipped), by simp [rowsOf], by simpa using q⟩)).1 rfl
  have hB0 := hA.blk
  obtain ⟨la, hla⟩ : ∃ l, l = g.acked.filter (fun x => !belowC c x) := ⟨_, rfl⟩
  obtain ⟨ls, hls⟩ : ∃ l, l = g.skipped.filter (fun x => !belowC c x) := ⟨_, rfl⟩
  rw [← hla] at hset hda HF
  rw [← hls] at hset hds HF
  rw [← hH] at hset hSt0
  have HDa := Lib.hid hda
  have HDs := Lib.hid hds
  have HSet := Lib.hid hset
  have e7 : W.drew.cell? ⟨gb, 7, none⟩ = some va := hA.blk.cell 7
  have e8 : W.drew.cell? ⟨gb, 8, none⟩ = some vs := hA.blk.cell 8
  obtain ⟨E, hE⟩ : ∃ E : World → Prop, E = fun W => W.cell? ⟨gb, 8, none⟩ = some vs := ⟨_, rfl⟩
  have hE1 : ∀ W, E W → W.cell? ⟨gb, 8, none⟩ = some vs := fun W h => by rw [hE] at h; exact h
  have hE2 : ∀ W : World, W.cell? ⟨gb, 8, none⟩ = some vs → E W := fun W h => by rw [hE]; exact h
  have D2 := fun p : WithinE (gb :: (va.ownBlock.toList ++ vs.ownBlock.toList)) E W => hE1 _ p.e
  obtain ⟨S, hS⟩ : ∃ S, S = gb :: (va.ownBlock.toList ++ vs.ownBlock.toList) := ⟨_, rfl⟩
  rw [← hS] at D2
  have hSg : gb ∈ S := by rw [hS]; simp
  have hSa : ∀ b ∈ va.ownBlock.toList, b ∈ S := fun b hb => by rw [hS]; simp at hb ⊢; exact .inr (.inl hb)
  have hSs : ∀ b ∈ vs.ownBlock.toList, b ∈ S := fun b hb => by rw [hS]; simp at hb ⊢; exact .inr (.inr hb)
  have HSt0 := Lib.hid hSt0
  clear hda hds hset hla hls hH hE hS hA hSt0 h7 h8 hcB
  refine wp_region_inE S [0, 1, 2, 3, 4, 6, 8, 9, 10, 11, 12] [5, 7, 13, 14, 15, 16] [17, 18, 19] E (hE2 _ e8) (by kernel_rfl) (by kernel_rfl) (by intro c d u a w h; cases d <;> exact h) ?_
  intro hne
  show wpQuiet _ _ _ _ [_, _, _, _, _, _, _, _, _, _, _] _
  repeat (go_big_quiet_step (fail))
  refine wpQuiet_nil ?_
  show wpList _ _ _ [_] _ _
  go_wp2_with fail
  refine check_ofE (S := S) (Only.refl _ _).drew (hE2 _ e8) ?_
  show wpList _ _ _ [_] _ _
  go_wp2_with (go_at_call 52; refine HDa.out.mono ?_; rintro e w2 ⟨v2, rfl, kr2⟩; have hB2 := kr2.only.blk hB0 hga)
  have f8 : w2.cell? ⟨gb, 8, none⟩ = some vs := hB2.cell 8
  have hO2 : Only S W w2 := (Only.refl S W).drew.trans (kr2.only.mono hSa)
  refine check_ofE (S := S) hO2 (hE2 _ f8) ?_
  show wpList _ _ _ [_] _ _
  go_wp2_with (go_at_call 52; refine (HDs.out _ kr2.only).mono ?_; rintro e w3 ⟨v3, rfl, kr3⟩; have hB3 := kr3.only.blk hB2 hgs)
  have g8 : w3.cell? ⟨gb, 8, none⟩ = some vs := hB3.cell 8
  have hO3 : Only S W w3 := hO2.trans (kr3.only.mono hSs)
  refine check_ofE (S := S) hO3 (hE2 _ g8) ?_
  have hres := HSet.out w2 w3 v2 v3 kr2 kr3
  obtain ⟨A2, c2, rfl, _, _⟩ := own_form kr2.own
  obtain ⟨A3, c3, rfl, _, _⟩ := own_form kr3.own
  have HRes := Lib.hid hres
  have g7 : w3.cell? ⟨gb, 7, none⟩ = some va := hB3.cell 7
  have gf := fun j => hB3.free j
  clear hres kr2 kr3 HSet HDa HDs
  show wpList _ _ _ [_] _ _
  go_wp2_with fail
  refine check_ofE (S := S) hO3 (hE2 _ g8) ?_
  show wpList _ _ _ [_] _ _
  go_wp2_with fail
  refine check_ofE (S := S) hO3 (hE2 _ g8) ?_
  show wpList _ _ _ [_] _ _
  go_wp2_with fail
  refine check_ofE (S := S) (hO3.setCell (.inl hSg) _) (hE2 _ ((hB3.set 7 _).cell 8)) ?_
  show wpList _ _ _ [_, _, _] _ _
  go_wp2
  go_end0
  have q := HRes.out
  rw [HF.out]
  exact ⟨rfl, _, _, _, _, _, q.1, HSt0.out.trans q.2⟩
end
end Go.Proofs.Ythjgplgfcbhihaa
