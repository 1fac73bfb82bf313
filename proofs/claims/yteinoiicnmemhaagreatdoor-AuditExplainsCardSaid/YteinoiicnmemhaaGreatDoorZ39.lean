/- Proved here: contracts of functions and plain laws, part 39 of one proof. Conditions: each theorem names its own. -/
import Derived.Test.YteinoiicnmemhaaGreatDoorZ17
import Derived.Test.YteinoiicnmemhaaGreatDoorZ23
import Derived.Test.YteinoiicnmemhaaGreatDoorZ38
set_option linter.unusedSimpArgs false
set_option linter.unusedVariables false
namespace Go.Proofs.YteinoiicnmemhaaGreatDoor
section
open Go.RowKit Go Go.Sort
/-- The names that a state's map holds: few, and short. -/
structure MS.Few (s : MS) (N : Nat) : Prop where
  len : s.m.length ≤ N
  short : ∀ p ∈ s.m, p.1.size ≤ 60
theorem few_new : MS.new.Few 0 := ⟨Nat.le_refl _, fun p hp => by cases hp⟩
theorem few_do {s : MS} {N : Nat} (h : s.Few N) (c : Cmd) : (s.do c).2.Few (N + 1) := by
  have hbase : ∀ t : MS, t.m = s.m → t.Few (N + 1) := fun t ht => ⟨by rw [ht]; exact Nat.le_succ_of_le h.len, by rw [ht]; exact h.short⟩
  by_cases hk : c.check = 0
  · by_cases hq : c.kind = 4 ∨ c.kind = 5
    · have e : (s.do c).2 = s.tick c.time := by
        unfold MS.do
        rw [if_neg (by simp [hk])]
        dsimp only
        rw [if_pos hq]
      rw [e]
      exact hbase _ rfl
    · have hn : nameOk c.stream = true := by
        unfold Cmd.check at hk
        split at hk
        · cases hk
        · rename_i q1
          split at hk
          · cases hk
          · rename_i q2
            cases hb : nameOk c.stream with
            | true => rfl
            | false => exact absurd ⟨by omega, hb⟩ q2
      have hsz : c.stream.size ≤ 60 := by
        simp [nameOk] at hn
        exact hn.1.2
      have hput : ∀ y, (aput s.m c.stream y).length ≤ N + 1 ∧ ∀ p ∈ aput s.m c.stream y, p.1.size ≤ 60 := fun y => by
        refine ⟨?_, fun p hp => ?_⟩
        · have := h.len
          rw [length_aput]
          split <;> omega
        · rcases aput_mem hp with rfl | hp
          · exact hsz
          · exact h.short p hp
      rcases do_shape s c with ⟨h1, _⟩ | ⟨y, h1, _⟩
      · exact hbase _ h1
      · exact ⟨by rw [h1]; exact (hput y).1, by rw [h1]; exact (hput y).2⟩
  · have e : (s.do c).2 = s := by
      unfold MS.do
      rw [if_pos (by simpa using hk)]
    rw [e]
    exact hbase _ rfl
section
variable {w w' : World} {M M' S : List Nat} {sb mb : Nat} {av : Value} {pf : ByteArray → Value} {s : MS}
theorem cloneMap_any {b : Nat} {kv : List (ByteArray × Value)} (h : MapIs Value.string w b kv) :
    Calls Tryz.prog 122 #[.map (some b)] w fun e w' => ∃ o, e = .returned (.map (some w.heap.size)) ∧ w' = w.alloc o ∧ MapIs Value.string w' w.heap.size kv := by
  obtain ⟨es, clock, hb, hs, hm⟩ := h
  refine (AnyW.maps_Clone Tryz.cloneM b es clock w hb).mono fun e w' ⟨he, hw⟩ => ?_
  subst hw
  exact ⟨_, he, rfl, es, clock, heap_alloc_new w _, hs, hm⟩
set_option maxRecDepth 100000 in
set_option maxHeartbeats 2000000 in
theorem copy_any (h : StAt w M sb mb av pf s) (hs : s.all.length ≤ 1000000) :
    Calls Tryz.prog 86 #[.pointer (some ⟨sb, 0, none⟩)] w fun e w' => ∃ sb' mb' av', e = .returned (.pointer (some ⟨sb', 0, none⟩)) ∧ StAt w' (hM sb' mb' av' ++ M) sb' mb' av' pf s ∧ (∀ g ∈ hM sb' mb' av', w.heap.size ≤ g ∧ g < w'.heap.size) ∧ Only [] w w' := by
  have hsl := (Slc.of_own h.own).1
  obtain ⟨A2, cap2, rfl, hnc2, hcm2, hel2⟩ := h.cell
  unfold maxLen at hcm2
  have hlb := h.blk.lt
  have c0 : w.cell? ⟨sb, 0, none⟩ = some (.slice A2 s.all.length cap2) := h.blk.cell 0
  have c1 : w.cell? ⟨sb, 1, none⟩ = some (.map (some mb)) := h.blk.cell 1
  have c2 : w.cell? ⟨sb, 2, none⟩ = some (.int .i64 s.done) := h.blk.cell 2
  have c3 : w.cell? ⟨sb, 3, none⟩ = some (.int .i64 s.now) := h.blk.cell 3
  have k0 := Kept.cell (a := w) (R := []) c0 (.inl hlb)
  have k1 := Kept.cell (a := w) (R := []) c1 (.inl hlb)
  have k2 := Kept.cell (a := w) (R := []) c2 (.inl hlb)
  have k3 := Kept.cell (a := w) (R := []) c3 (.inl hlb)
  have HC := Lib.hid (fun (W : World) (hW : Only [] w W) => cloneS_any (hsl.only0 hW) (by omega))
  have HM := Lib.hid (fun (W : World) (hW : Only [] w W) => cloneMap_any (h.map.only hW (by simp)))
  clear hel2 c0 c1 c2 c3 hsl
  go_enter Tryz.func86, Tryz.ntmps86
  go_wp2_with fail
  refine wp_region_stages (C := fun W => ∃ p : Kept w [] w, W = p.W) [([0, 1, 2, 3, 5, 6, 7, 8, 10, 11, 12, 13, 14, 15, 16, 17], [4, 9, 18, 19])] [20] (by kernel_rfl) (by kernel_rfl) (by intro c d u a w h; cases d <;> exact h) ⟨⟨_, (Keeps.refl _ _ _).drew⟩, rfl⟩ ?_
  refine stagesFirst ?_
  show wpQuiet _ _ _ _ [_, _, _, _, _, _, _, _, _, _, _, _, _, _, _, _] _
  repeat (go_big_quiet_step (fail))
  refine wpQuiet_nil ?_
  show wpList _ _ _ [_] _ _
  go_wp2_with (go_at_call 121; refine (HC.out _ (Only.refl _ _).drew).mono ?_; rintro e w2 ⟨v2, rfl, hown2, ho2⟩; obtain ⟨A3, cap3, rfl, _, _⟩ := own_form hown2)
  have hK : Keeps w [] w w2 := (Keeps.refl _ _ _).drew.then0 ho2
  refine check_kept hK ?_
  show wpList _ _ _ [_] _ _
  go_wp2_with (go_at_call 122; refine (HM.out _ ((Only.refl _ _).drew.trans ho2)).mono ?_; rintro e w3 ⟨o3, rfl, rfl, hm3⟩)
  refine check_kept (hK.alloc _) ?_
  show wpList _ _ _ [_] _ _
  go_wp2_with fail
  refine check_kept (hK.alloc _) ?_
  show wpList _ _ _ [_] _ _
  go_wp2_with fail
  refine check_kept ((hK.alloc _).alloc _) ?_
  refine stagesEnd ?_
  show wpList _ _ _ [_] _ _
  go_wp2
  go_ret
  have hO2 : Only [] w w2 := (Only.refl [] w).drew.trans ho2
  have hO3 : Only [] w (w2.alloc o3) := hO2.alloc o3
  have hz2 : w.heap.size ≤ w2.heap.size := hO2.size
  have hown3 : ((w2.alloc o3).alloc (.cells #[.slice A3 s.all.length cap3, .map (some w2.heap.size), .int .i64 s.done, .int .i64 s.now] 72)).ownsRow w.heap.size 92 8 (.slice A3 s.all.length cap3) s.all.length (s.all.flatMap StoredR.cells) :=
    own_only hown2 (((Only.refl [] w2).alloc _).alloc _) (by simp)
  have hfr : ∀ g ∈ hM (w2.heap.size + 1) w2.heap.size (.slice A3 s.all.length cap3), w.heap.size ≤ g ∧ g < w2.heap.size + 2 := by
    intro g hg
    simp only [hM, List.mem_cons, Option.mem_toList] at hg
    rcases hg with rfl | rfl | hg
    · omega
    · omega
    · have := hown2.lt g hg
      simp at this
      omega
  refine ⟨w2.heap.size + 1, w2.heap.size, .slice A3 s.all.length cap3, by simp, ?_, fun g hg => ?_, hO3.alloc _⟩
  · refine ⟨?_, own_base hown3 (Nat.zero_le _), hm3.only ((Only.refl [] _).alloc _) (by simp), fun n x hx => ?_, ⟨by simp [hM], by simp [hM], fun g hg => List.mem_append_left _ (by simp only [hM, List.mem_cons, Option.mem_toList]; exact .inr (.inr hg))⟩, fun g hg => ?_⟩
    · have := Blk.new (w2.alloc o3) 72 #[.slice A3 s.all.length cap3, .map (some w2.heap.size), .int .i64 s.done, .int .i64 s.now]
      simpa using this
    · refine ((h.pl n x hx).ext (M' := hM (w2.heap.size + 1) w2.heap.size (.slice A3 s.all.length cap3) ++ M) fun g hg => ?_).only0 (hO3.alloc _)
      rcases List.mem_append.1 hg with q | q
      · exact .inr (hfr g q).1
      · exact .inl q
    · rcases List.mem_append.1 hg with q | q
      · have := hfr g q
        simp
        omega
      · have := h.mlt g q
        simp
        omega
  · have := hfr g hg
    simp
    omega
end
end
section
open Go.RowKit Go Go.Sort
theorem stagesDone3 {P : Program} {C : World → Prop} {Q : Exit → Act → World → Prop} {l : List Oper} {a : Act} {w : World} (h : Q .normal a w) : wpT1 P l.toArray C Q (opsAt l []) (wpStages P l C Q (fun a w => wpList P l.toArray Q (opsAt l []) a w) []) a w := h
section
variable {w : World} {M1 M2 : List Nat} {sb1 mb1 sb2 mb2 N : Nat} {av1 av2 : Value} {pf1 pf2 : ByteArray → Value} {s : MS}
end
end
section
open Go.RowKit Go Go.MapKept Go.Maps Go.WideMaps Go.Sort
/-! ## plain -/
def MS.sameX (s t : MS) (n : ByteArray) : Bool := decide (s.floorS n = t.floorS n) && decide ((s.find n).deleted = (t.find n).deleted) && decide ((s.find n).mt.maxCount = (t.find n).mt.maxCount) && decide ((s.find n).mt.maxAge = (t.find n).mt.maxAge) && decide ((s.find n).mt.before = (t.find n).mt.before)
/-- When two states are the same. -/
def MS.sameQ (s t : MS) : Bool := decide (s.done = t.done) && decide (s.now = t.now) && sameLQ s.all t.all && (s.m.map (·.1) ++ t.m.map (·.1)).all (MS.sameX s t)
theorem all_mem {α : Type} {l m : List α} (h : ∀ x, x ∈ l ↔ x ∈ m) (f : α → Bool) : l.all f = m.all f := by
  rw [Bool.eq_iff_iff, List.all_eq_true, List.all_eq_true]
  exact ⟨fun q x hx => q x ((h x).2 hx), fun q x hx => q x ((h x).1 hx)⟩
theorem sameQ_refl (s : MS) : s.sameQ s = true := by
  unfold MS.sameQ
  rw [sameLQ_refl]
  simp [MS.sameX]
section
set_option maxHeartbeats 1000000 in
theorem collectP_any {w : World} {Bm b : Nat} {kv : List (ByteArray × Value)} (hc : w.cell? ⟨Bm, 0, none⟩ = some (.map (some b))) (h : MapIs Value.string w b kv) (hn : kv.length ≤ 1000000) (hs : ∀ p ∈ kv, p.1.size ≤ maxLen) :
    Calls Tryz.prog 35 #[.func (.func 75) #[] #[.pointer (some ⟨Bm, 0, none⟩)]] w fun e w' => ∃ v, ∃ ns : List ByteArray, e = .returned v ∧ w'.ownsRow w.heap.size 9 1 v ns.length (strs ns) ∧ ns.Perm (kv.map (·.1)) ∧ Only [] w w' := by
  obtain ⟨D0, hown, hperm, hsz⟩ := h.owns (P := Tryz.prog) (k := 9) Tryz.underlying9 (by unfold maxLen; omega) hs
  have hBm : Bm < w.heap.size := block_lt_of_cell hc
  have hseq : SeqGives Fence.wide 3 Tryz.prog 75 #[.pointer (some ⟨Bm, 0, none⟩)] encStr (fun ss => ss.Perm (strKeys D0)) (Maps.size D0) w :=
    AnyZ.keys_gives (ρ := Tryz.keys36_ren) { Tryz.keys36 with } Fence.wide _ trivial rfl (by omega) Bm b kv.length D0 _ hBm hc hown
  have hcol := callsIn_wide.1 (AnyZ.collect_in Tryz.collectK Fence.wide 5 trivial trivial rfl (by omega) 75 #[.pointer (some ⟨Bm, 0, none⟩)] trivial (enters_of Tryz.func75 (by kernel_rfl) rfl) _ _ (by rw [hsz]; unfold maxLen; omega) (by rw [hsz]; omega) w hseq)
  refine hcol.mono ?_
  rintro e w' ⟨v, ss, rfl, hS, hrow, _, hb⟩
  refine ⟨v, ss.map fun x => ⟨x.toArray⟩, rfl, ?_, ?_, Only.of_below hb (Nat.le_refl _)⟩
  · rw [strs_of] at hrow
    rw [List.length_map]
    exact hrow
  · have := (hS.trans hperm).map (fun x : List UInt8 => (⟨x.toArray⟩ : ByteArray))
    rw [List.map_map] at this
    exact this
end
section
variable {w : World} {M1 M2 : List Nat} {sb1 mb1 sb2 mb2 N N2 : Nat} {av1 av2 : Value} {pf1 pf2 : ByteArray → Value} {s t : MS}
theorem concatL_any {g : Nat} {v1 v2 : Value} {ns ms : List ByteArray} (hB : Blk w g 96 #[v1, v2]) (h1 : Slc w 1 v1 ns.length (strs ns)) (h2 : Slc w 1 v2 ms.length (strs ms)) (b1 : ns.length ≤ 1000000) (b2 : ms.length ≤ 1000000) :
    Calls Tryz.prog 34 #[.slice (some ⟨g, 0, none⟩) 2 2] w fun e w' => ∃ v, ∃ l : List ByteArray, e = .returned v ∧ w'.ownsRow w.heap.size 9 1 v l.length (strs l) ∧ Hid (l = ns ++ ms) ∧ l.length ≤ 2000000 ∧ Only [] w w' :=
  (concatS_any hB h1 h2 b1 b2).mono fun e w' ⟨v, q1, q2, q3⟩ => ⟨v, _, q1, q2, Lib.hid rfl, by rw [List.length_append]; omega, q3⟩
set_option maxRecDepth 100000 in
set_option maxHeartbeats 4000000 in
theorem sameQ_any (h1 : StAt w M1 sb1 mb1 av1 pf1 s) (h2 : StAt w M2 sb2 mb2 av2 pf2 t) (hs : s.Ok N) (hf : s.Few N) (hN : N ≤ 100000) (ht : t.Ok N2) (hf2 : t.Few N2) (hN2 : N2 ≤ 100000) :
    Calls Tryz.prog 12 #[.pointer (some ⟨sb1, 0, none⟩), .pointer (some ⟨sb2, 0, none⟩)] w fun e w' => e = .returned (.bool (s.sameQ t)) ∧ Only [] w w' := by
  have hal := hs.all
  have hal2 := ht.all
  have hml := hf.len
  have hml2 := hf2.len
  have hsl1 := (Slc.of_own h1.own).1
  have hsl2 := (Slc.of_own h2.own).1
  obtain ⟨A1, cap1, rfl, hnc1, hcm1, _⟩ := h1.cell
  obtain ⟨A2, cap2, rfl, hnc2, hcm2, _⟩ := h2.cell
  unfold maxLen at hcm1 hcm2
  have hb1 := h1.blk.lt
  have hb2 := h2.blk.lt
  have k0 := Kept.cell (a := w) (R := []) (h1.blk.cell 0) (.inl hb1)
  have k1 := Kept.cell (a := w) (R := []) (h1.blk.cell 1) (.inl hb1)
  have k2 := Kept.cell (a := w) (R := []) (h1.blk.cell 2) (.inl hb1)
  have k3 := Kept.cell (a := w) (R := []) (h1.blk.cell 3) (.inl hb1)
  have l0 := Kept.cell (a := w) (R := []) (h2.blk.cell 0) (.inl hb2)
  have l1 := Kept.cell (a := w) (R := []) (h2.blk.cell 1) (.inl hb2)
  have l2 := Kept.cell (a := w) (R := []) (h2.blk.cell 2) (.inl hb2)
  have l3 := Kept.cell (a := w) (R := []) (h2.blk.cell 3) (.inl hb2)
  have HEq := Lib.hid (fun (W : World) (hW : Only [] w W) => eqStQ_any (hsl1.only0 hW) (hsl2.only0 hW) (by omega) (by omega))
  have hkv : ∀ (u : MS) (K : Nat), u.Few K → ∀ (pf : ByteArray → Value), (∀ p ∈ u.m.map (fun p => (p.1, p.2.val (pf p.1))), p.1.size ≤ maxLen) := fun u K hu pf p hp => by
    obtain ⟨q, hq, rfl⟩ := List.mem_map.1 hp
    have := hu.short q hq
    unfold maxLen
    show q.1.size ≤ _
    omega
  have HC1 := Lib.hid (fun (W : World) (Bm : Nat) (hW : Only [] w W) (hc : W.cell? ⟨Bm, 0, none⟩ = some (.map (some mb1))) => collectP_any hc (h1.map.only hW (by simp)) (by simp; omega) (hkv s N hf pf1))
  have HC2 := Lib.hid (fun (W : World) (Bm : Nat) (hW : Only [] w W) (hc : W.cell? ⟨Bm, 0, none⟩ = some (.map (some mb2))) => collectP_any hc (h2.map.only hW (by simp)) (by simp; omega) (hkv t N2 hf2 pf2))
  have HF1 := Lib.hid (fun (W : World) (hW : Only [] w W) (n : ByteArray) => floorS_any (h1.only0 hW) hs hN n)
  have HF2 := Lib.hid (fun (W : World) (hW : Only [] w W) (n : ByteArray) => floorS_any (h2.only0 hW) ht hN2 n)
  have HD1 := Lib.hid (fun (W : World) (hW : Only [] w W) (n : ByteArray) => deletedS_any (h1.only0 hW) n)
  have HD2 := Lib.hid (fun (W : World) (hW : Only [] w W) (n : ByteArray) => deletedS_any (h2.only0 hW) n)
  have HM1 := Lib.hid (fun (W : World) (hW : Only [] w W) (n : ByteArray) => metaOfS_any (h1.only0 hW) n)
  have HM2 := Lib.hid (fun (W : World) (hW : Only [] w W) (n : ByteArray) => metaOfS_any (h2.only0 hW) n)
  have hkl1 : (s.m.map (fun p => (p.1, p.2.val (pf1 p.1)))).length ≤ 1000000 := by simp; omega
  have hkl2 : (t.m.map (fun p => (p.1, p.2.val (pf2 p.1)))).length ≤ 1000000 := by simp; omega
  clear hsl1 hsl2 hkv
  by_cases bd0 : s.done = t.done
  case neg =>
    have HR : Hid (s.sameQ t = false) := by unfold Hid MS.sameQ; rw [decide_eq_false bd0]; rfl
    have bd : (s.done != t.done) = true := by rw [bne_iff_ne]; exact bd0
    clear bd0 HC1 HC2 HF1 HF2 HD1 HD2 HM1 HM2 HEq
    go_enter Tryz.func12, Tryz.ntmps12
    go_wp2_with fail
    refine wp_region_stages (C := fun W => ∃ p : Kept w [] w, W = p.W) [([0, 1, 2, 3, 4, 5, 6, 7, 8, 9, 10, 11, 12, 13, 14, 15, 16, 17, 18, 19, 20, 21, 22, 23, 24, 25, 26, 27, 28], [])] [29, 30, 31] (by kernel_rfl) (by kernel_rfl) (by intro c d u a w h; cases d <;> exact h) ⟨⟨_, (Keeps.refl _ _ _).drew⟩, rfl⟩ ?_
    refine stagesFirst ?_
    show wpQuiet _ _ _ _ [_, _, _, _, _, _, _, _, _, _, _, _, _, _, _, _, _, _, _, _, _, _, _, _, _, _, _, _, _] _
    repeat (go_big_quiet_step (fail))
    refine wpQuiet_nil ?_
    refine stagesEnd ?_
    show wpList _ _ _ [_, _, _] _ _
    go_wp2
    go_ret
    exact ⟨ret_b (by rw [HR.out]), (Only.refl [] w).drew⟩
  by_cases bn0 : s.now = t.now
  case neg =>
    have HR : Hid (s.sameQ t = false) := by unfold Hid MS.sameQ; rw [decide_eq_false bn0]; simp
    have bd : (s.done != t.done) = false := by rw [bd0]; simp
    have bn : (s.now != t.now) = true := by rw [bne_iff_ne]; exact bn0
    clear bd0 bn0 HC1 HC2 HF1 HF2 HD1 HD2 HM1 HM2 HEq
    go_enter Tryz.func12, Tryz.ntmps12
    go_wp2_with fail
    refine wp_region_stages (C := fun W => ∃ p : Kept w [] w, W = p.W) [([0, 1, 2, 3, 4, 5, 6, 7, 8, 9, 10, 11, 12, 13, 14, 15, 16, 17, 18, 19, 20, 21, 22, 23, 24, 25, 26, 27, 28], [])] [29, 30, 31] (by kernel_rfl) (by kernel_rfl) (by intro c d u a w h; cases d <;> exact h) ⟨⟨_, (Keeps.refl _ _ _).drew⟩, rfl⟩ ?_
    refine stagesFirst ?_
    show wpQuiet _ _ _ _ [_, _, _, _, _, _, _, _, _, _, _, _, _, _, _, _, _, _, _, _, _, _, _, _, _, _, _, _, _] _
    repeat (go_big_quiet_step (fail))
    refine wpQuiet_nil ?_
    refine stagesEnd ?_
    show wpList _ _ _ [_, _, _] _ _
    go_wp2
    go_ret
    exact ⟨ret_b (by rw [HR.out]), (Only.refl [] w).drew⟩
  have bd : (s.done != t.done) = false := by rw [bd0]; simp
  have bn : (s.now != t.now) = false := by rw [bn0]; simp
  cases hq : sameLQ s.all t.all with
  | false =>
    have HR : Hid (s.sameQ t = false) := by unfold Hid MS.sameQ; rw [hq]; simp
    rw [hq] at HEq
    clear bd0 bn0 hq HC1 HC2 HF1 HF2 HD1 HD2 HM1 HM2
    go_enter Tryz.func12, Tryz.ntmps12
    go_wp2_with fail
    refine wp_region_stages (C := fun W => ∃ p : Kept w [] w, W = p.W) [([0, 1, 2, 3, 4, 5, 6, 7, 8, 9, 10, 11, 12, 13, 14, 15, 16, 17, 18, 19, 20, 21, 22, 23, 24, 25, 26, 27, 28], [])] [29, 30, 31] (by kernel_rfl) (by kernel_rfl) (by intro c d u a w h; cases d <;> exact h) ⟨⟨_, (Keeps.refl _ _ _).drew⟩, rfl⟩ ?_
    refine stagesFirst ?_
    show wpQuiet _ _ _ _ [_, _, _, _, _, _, _, _, _, _, _, _, _, _, _, _, _, _, _, _, _, _, _, _, _, _, _, _, _] _
    repeat (go_big_quiet_step (fail))
    refine wpQuiet_nil ?_
    refine stagesEnd ?_
    show wpList _ _ _ [_, _, _] _ _
    go_wp2_with (go_at_call 32; refine (HEq.out _ (Only.refl _ _).drew).mono ?_; rintro e w2 ⟨rfl, ho2⟩)
    go_ret
    exact ⟨ret_b (by rw [HR.out]), (Only.refl [] w).drew.trans ho2⟩
  | true =>
  have HR : Hid (s.sameQ t = (s.m.map (·.1) ++ t.m.map (·.1)).all (MS.sameX s t)) := by unfold Hid MS.sameQ; rw [hq, decide_eq_true bd0, decide_eq_true bn0]; rfl
  rw [hq] at HEq
  clear bd0 bn0 hq
  go_enter Tryz.func12, Tryz.ntmps12
  go_wp2_with fail
  refine wp_region_stages (C := fun W => ∃ p : Kept w [] w, W = p.W) [([0, 1, 2, 3, 4, 5, 6, 7, 8, 9, 10, 11, 12, 13, 14, 15, 16, 17, 18, 19, 20, 21, 22, 23, 24, 25, 26, 27, 28], [])] [29, 30, 31] (by kernel_rfl) (by kernel_rfl) (by intro c d u a w h; cases d <;> exact h) ⟨⟨_, (Keeps.refl _ _ _).drew⟩, rfl⟩ ?_
  refine stagesFirst ?_
  show wpQuiet _ _ _ _ [_, _, _, _, _, _, _, _, _, _, _, _, _, _, _, _, _, _, _, _, _, _, _, _, _, _, _, _, _] _
  repeat (go_big_quiet_step (fail))
  refine wpQuiet_nil ?_
  refine stagesEnd ?_
  show wpList _ _ _ [_, _, _] _ _
  skip
  go_wp2_with (go_at_call 32; refine (HEq.out _ (Only.refl _ _).drew).mono ?_; rintro e w2 ⟨rfl, ho2⟩)
  have hO2 : Only [] w w2 := (Only.refl [] w).drew.trans ho2
  have hlt2 : ∀ b, b < w.heap.size → b < w2.heap.size := fun b hb => Nat.lt_of_lt_of_le hb hO2.size
  have hx1 : w2.cell? ⟨sb1, 1, none⟩ = some (.map (some mb1)) := (hO2.blk h1.blk (by simp)).cell 1
  have hx2 : w2.cell? ⟨sb2, 1, none⟩ = some (.map (some mb2)) := (hO2.blk h2.blk (by simp)).cell 1
  have m1 := Kept.cell (a := w2) (R := []) hx1 (.inl (hlt2 _ hb1))
  have m2 := Kept.cell (a := w2) (R := []) hx2 (.inl (hlt2 _ hb2))
  clear k0 k1 k2 k3 l0 l1 l2 l3 HEq hx1 hx2 bd bn
  refine wp_region_stages (C := fun W => ∃ p : Kept w2 [] w2, W = p.W) [([0, 1, 2, 3, 6, 7, 8, 9, 15], [4, 5, 10, 11, 12, 13, 14])] [] (by kernel_rfl) (by kernel_rfl) (by intro c d u a w h; cases d <;> exact h) ⟨⟨_, (Keeps.refl _ _ _).drew⟩, rfl⟩ ?_
  refine stagesFirst ?_
  show wpQuiet _ _ _ _ [_, _, _, _, _, _, _, _, _] _
  repeat (go_big_quiet_step (fail))
  refine wpQuiet_nil ?_
  show wpList _ _ _ [_] _ _
  have hO3 : Only [] w w2.drew := hO2.drew
  obtain ⟨w3, hw3⟩ : ∃ w3, w3 = w2.drew := ⟨_, rfl⟩
  have hK3 : Keeps w2 [] w2 w3 := by rw [hw3]; exact (Keeps.refl _ _ _).drew
  rw [← hw3] at hO3 ⊢
  clear hw3
  go_wp2_with (go_at_call 36; refine (keysM_any _ _).mono ?_; rintro e w4 ⟨rfl, rfl⟩)
  have hO4 := hO3.alloc (.cells #[.map (some mb1)] 70)
  have hc4 : (w3.alloc (.cells #[.map (some mb1)] 70)).cell? ⟨w3.heap.size, 0, none⟩ = some (.map (some mb1)) := (Blk.new w3 70 #[.map (some mb1)]).cell 0
  have hK4 := hK3.alloc (.cells #[.map (some mb1)] 70)
  refine check_kept hK4 ?_
  show wpList _ _ _ [_] _ _
  go_wp2_with (go_at_call 35; refine (HC1.out _ _ hO4 hc4).mono ?_; rintro e w5 ⟨v5, ns1, rfl, hown5, hp5, ho5⟩; obtain ⟨A5, cap5, rfl, _, _⟩ := own_form hown5)
  have hO5 := hO4.trans ho5
  have hK5 := hK4.then0 ho5
  refine check_kept hK5 ?_
  show wpList _ _ _ [_] _ _
  go_wp2_with (go_at_call 36; refine (keysM_any _ _).mono ?_; rintro e w6 ⟨rfl, rfl⟩)
  have hO6 := hO5.alloc (.cells #[.map (some mb2)] 70)
  have hc6 : (w5.alloc (.cells #[.map (some mb2)] 70)).cell? ⟨w5.heap.size, 0, none⟩ = some (.map (some mb2)) := (Blk.new w5 70 #[.map (some mb2)]).cell 0
  have hK6 := hK5.alloc (.cells #[.map (some mb2)] 70)
  refine check_kept hK6 ?_
  show wpList _ _ _ [_] _ _
  go_wp2_with (go_at_call 35; refine (HC2.out _ _ hO6 hc6).mono ?_; rintro e w7 ⟨v7, ns2, rfl, hown7, hp7, ho7⟩; obtain ⟨A7, cap7, rfl, _, _⟩ := own_form hown7)
  have hO7 := hO6.trans ho7
  have hK7 := hK6.then0 ho7
  refine check_kept hK7 ?_
  show wpList _ _ _ [_] _ _
  go_wp2_with fail
  have hO8 := hO7.alloc (.cells #[.slice A5 ns1.length cap5, .slice A7 ns2.length cap7] 96)
  have hK8 := hK7.alloc (.cells #[.slice A5 ns1.length cap5, .slice A7 ns2.length cap7] 96)
  have hs5 := ((Slc.of_own hown5).1.only0 ((((Only.refl [] w5).alloc (.cells #[.map (some mb2)] 70)).trans ho7).alloc (.cells #[.slice A5 ns1.length cap5, .slice A7 ns2.length cap7] 96)))
  have hs7 := ((Slc.of_own hown7).1.only0 ((Only.refl [] w7).alloc (.cells #[.slice A5 ns1.length cap5, .slice A7 ns2.length cap7] 96)))
  have hB8 := Blk.new w7 96 #[.slice A5 ns1.length cap5, .slice A7 ns2.length cap7]
  have hl5 : ns1.length ≤ 1000000 := by rw [hp5.length_eq]; simp; omega
  have hl7 : ns2.length ≤ 1000000 := by rw [hp7.length_eq]; simp; omega
  have HCc := Lib.hid (concatL_any hB8 hs5 hs7 (by omega) (by omega))
  have HR2 : Hid (s.sameQ t = (ns1 ++ ns2).all (MS.sameX s t)) := by
    unfold Hid
    rw [HR.out]
    refine all_mem (fun x => ?_) _
    simp only [List.mem_append]
    rw [hp5.mem_iff, hp7.mem_iff, List.map_map, List.map_map]
    rfl
  clear HR hp5 hp7
  clear hs5 hs7 hB8 hown5 hown7 hc4 hc6 HC1 HC2 m1 m2
  refine check_kept hK8 ?_
  show wpList _ _ _ [_] _ _
  go_wp2_with (go_at_call 34; refine HCc.out.mono ?_; rintro e w9 ⟨v9, ns, rfl, hown9, hns, hlen, ho9⟩; obtain ⟨A9, cap9, rfl, _, _⟩ := own_form hown9)
  have hO9 := hO8.trans ho9
  refine check_kept (hK8.then0 ho9) ?_
  show wpList _ _ _ [_] _ _
  go_wp2_with fail
  refine check_kept (hK8.then0 ho9) ?_
  refine stagesDone3 ?_
  rw [← hns.out] at HR2
  clear hns
  have hs9 := (Slc.of_own hown9).1
  obtain ⟨_, _, e9, hnc9, hcm9, hel9⟩ := hs9.openS
  injection e9 with e91 e92 e93
  subst e91 e93
  unfold maxLen at hcm9
  clear hs9 hown9 HCc hK3 hK4 hK5 hK6 hK7 hK8 hl5 hl7
  go_wp2_with fail
  go_loopw [66] (fun i wr => ∃ k : Nat, k ≤ ns.length ∧ i = .int .i64 k ∧ Hid (s.sameQ t = (ns.drop k).all (MS.sameX s t)) ∧ Only [] w wr ∧ Only [] w9 wr) (fun i _ => ns.length - (intOf i).toNat)
  case atStart => exact ⟨0, Nat.zero_le _, rfl, HR2, hO9, Only.refl _ _⟩
  case round =>
    obtain ⟨k, hk, rfl, hT, hO, hO99⟩ := hrel
    by_cases hlt : k < ns.length
    · obtain ⟨b, off, rfl, hbb, hcc⟩ := hel9 k hlt
      have c0 := (hO99.cell hbb (by simp)).trans hcc
      have hd : (ns.drop k).all (MS.sameX s t) = (s.sameX t ns[k] && (ns.drop (k + 1)).all (MS.sameX s t)) := by rw [List.drop_eq_getElem_cons hlt]; rfl
      obtain ⟨n, hn⟩ : ∃ n, n = ns[k] := ⟨_, rfl⟩
      rw [← hn] at c0 hd
      have F1 := Lib.hid (fun (W : World) (hW : Only [] wr W) => HF1.out W (hO.trans hW) n)
      have F2 := Lib.hid (fun (W : World) (hW : Only [] wr W) => HF2.out W (hO.trans hW) n)
      have D1 := Lib.hid (fun (W : World) (hW : Only [] wr W) => HD1.out W (hO.trans hW) n)
      have D2 := Lib.hid (fun (W : World) (hW : Only [] wr W) => HD2.out W (hO.trans hW) n)
      have G1 := Lib.hid (fun (W : World) (hW : Only [] wr W) => HM1.out W (hO.trans hW) n)
      have G2 := Lib.hid (fun (W : World) (hW : Only [] wr W) => HM2.out W (hO.trans hW) n)
      have hX : s.sameX t n = (decide (s.floorS n = t.floorS n) && decide ((s.find n).deleted = (t.find n).deleted) && decide ((s.find n).mt.maxCount = (t.find n).mt.maxCount) && decide ((s.find n).mt.maxAge = (t.find n).mt.maxAge) && decide ((s.find n).mt.before = (t.find n).mt.before)) := rfl
      obtain ⟨fo, hfo⟩ : ∃ fo, fo = s.floorS n := ⟨_, rfl⟩
      obtain ⟨dl, hdl⟩ : ∃ dl, dl = (s.find n).deleted := ⟨_, rfl⟩
      obtain ⟨mt, hmt⟩ : ∃ mt, mt = (s.find n).mt := ⟨_, rfl⟩
      obtain ⟨fo2, hfo2⟩ : ∃ fo, fo = t.floorS n := ⟨_, rfl⟩
      obtain ⟨dl2, hdl2⟩ : ∃ dl, dl = (t.find n).deleted := ⟨_, rfl⟩
      obtain ⟨mt2, hmt2⟩ : ∃ mt, mt = (t.find n).mt := ⟨_, rfl⟩
      rw [← hfo] at F1 hX
      rw [← hfo2] at F2 hX
      rw [← hdl] at D1 hX
      rw [← hdl2] at D2 hX
      rw [← hmt] at G1 hX
      rw [← hmt2] at G2 hX
      obtain ⟨g1, g2, g3⟩ := mt
      obtain ⟨i1, i2, i3⟩ := mt2
      simp only [MetaR.val] at G1 G2
      dsimp only at hX
      have HX := Lib.hid hX
      have HDr := Lib.hid hd
      clear hel9 hcc hn hfo hdl hmt hfo2 hdl2 hmt2 HF1 HF2 HD1 HD2 HM1 HM2 hX hd HR2
      by_cases e1 : fo = fo2
      case neg =>
        have HN : Hid (s.sameQ t = false) := by unfold Hid; rw [hT.out, HDr.out, HX.out, decide_eq_false e1]; rfl
        have q1 : (fo != fo2) = true := by rw [bne_iff_ne]; exact e1
        clear e1 hT HDr HX
        go_wp2_with fail
        refine (F1.out _ (Only.refl _ _)).mono ?_
        rintro e wa ⟨rfl, hoa⟩
        go_wp2_with fail
        refine (F2.out _ hoa).mono ?_
        rintro e wb ⟨rfl, hob⟩
        have o2 := hoa.trans hob
        go_wp2_with fail
        go_ret
        exact ⟨ret_b (by rw [HN.out]), hO.trans o2⟩
      by_cases e2 : dl = dl2
      case neg =>
        have HN : Hid (s.sameQ t = false) := by unfold Hid; rw [hT.out, HDr.out, HX.out, decide_eq_false e2]; simp
        have q1 : (fo != fo2) = false := by rw [e1]; simp
        clear hT HDr HX
        cases dl <;> cases dl2
        case false.false => exact absurd rfl e2
        case true.true => exact absurd rfl e2
        all_goals
          clear e1 e2
          go_wp2_with fail
          refine (F1.out _ (Only.refl _ _)).mono ?_
          rintro e wa ⟨rfl, hoa⟩
          go_wp2_with fail
          refine (F2.out _ hoa).mono ?_
          rintro e wb ⟨rfl, hob⟩
          have o2 := hoa.trans hob
          go_wp2_with fail
          refine (D1.out _ o2).mono ?_
          rintro e wc ⟨rfl, hoc⟩
          have o3 := o2.trans hoc
          go_wp2_with fail
          refine (D2.out _ o3).mono ?_
          rintro e wd ⟨rfl, hod⟩
          have o4 := o3.trans hod
          go_wp2_with fail
          go_ret
          exact ⟨ret_b (by rw [HN.out]), hO.trans o4⟩
      have q1 : (fo != fo2) = false := by rw [e1]; simp
      have q2 : (dl != dl) = false := by simp
      subst e2
      by_cases e3 : g1 = i1 ∧ g2 = i2 ∧ g3 = i3
      case pos =>
        have HN : Hid (s.sameQ t = (ns.drop (k + 1)).all (MS.sameX s t)) := by
          unfold Hid
          rw [hT.out, HDr.out, HX.out, decide_eq_true e1, decide_eq_true e3.1, decide_eq_true e3.2.1, decide_eq_true e3.2.2]
          simp
        obtain ⟨rfl, rfl, rfl⟩ := e3
        clear e1 hT HDr HX
        go_wp2_with fail
        refine (F1.out _ (Only.refl _ _)).mono ?_
        rintro e wa ⟨rfl, hoa⟩
        go_wp2_with fail
        refine (F2.out _ hoa).mono ?_
        rintro e wb ⟨rfl, hob⟩
        have o2 := hoa.trans hob
        go_wp2_with fail
        refine (D1.out _ o2).mono ?_
        rintro e wc ⟨rfl, hoc⟩
        have o3 := o2.trans hoc
        go_wp2_with fail
        refine (D2.out _ o3).mono ?_
        rintro e wd ⟨rfl, hod⟩
        have o4 := o3.trans hod
        go_wp2_with fail
        refine (G1.out _ o4).mono ?_
        rintro e we ⟨rfl, hoe⟩
        have o5 := o4.trans hoe
        go_wp2_with fail
        refine (G2.out _ o5).mono ?_
        rintro e wf ⟨rfl, hof⟩
        have o6 := o5.trans hof
        go_wp2_with fail
        exact ⟨⟨k + 1, hlt, by simp, HN, hO.trans o6, hO99.trans o6⟩, by simp [intOf]; omega⟩
      case neg =>
        have HN : Hid (s.sameQ t = false) := by
          unfold Hid
          rw [hT.out, HDr.out, HX.out]
          by_cases z1 : g1 = i1
          · by_cases z2 : g2 = i2
            · rw [decide_eq_false (fun z3 => e3 ⟨z1, z2, z3⟩)]; simp
            · rw [decide_eq_false z2]; simp
          · rw [decide_eq_false z1]; simp
        have E3 := Lib.hid e3
        clear e1 e3 hT HDr HX
        go_wp2_with fail
        refine (F1.out _ (Only.refl _ _)).mono ?_
        rintro e wa ⟨rfl, hoa⟩
        go_wp2_with fail
        refine (F2.out _ hoa).mono ?_
        rintro e wb ⟨rfl, hob⟩
        have o2 := hoa.trans hob
        go_wp2_with fail
        refine (D1.out _ o2).mono ?_
        rintro e wc ⟨rfl, hoc⟩
        have o3 := o2.trans hoc
        go_wp2_with fail
        refine (D2.out _ o3).mono ?_
        rintro e wd ⟨rfl, hod⟩
        have o4 := o3.trans hod
        go_wp2_with fail
        refine (G1.out _ o4).mono ?_
        rintro e we ⟨rfl, hoe⟩
        have o5 := o4.trans hoe
        go_wp2_with fail
        refine (G2.out _ o5).mono ?_
        rintro e wf ⟨rfl, hof⟩
        have o6 := o5.trans hof
        go_wp2_with fail
        all_goals first
          | exact absurd ⟨by assumption, by assumption, by assumption⟩ E3.out
          | (go_ret; exact ⟨ret_b (by rw [HN.out]), hO.trans o6⟩)
    · clear hel9
      have HN : Hid (s.sameQ t = true) := by
        unfold Hid
        rw [hT.out, List.drop_of_length_le (by omega)]
        rfl
      go_wp2
      go_ret
      exact ⟨ret_b (by rw [HN.out]), hO⟩
end
end
end Go.Proofs.YteinoiicnmemhaaGreatDoor
