/- Proved here: contracts of functions and plain laws, part 6 of one proof. Conditions: each theorem names its own. -/
import Derived.Test.YtpcemipfanimgaaGreatDoorP5
/- LinkWants: the walk. -/
set_option linter.unusedVariables false
set_option linter.unusedSimpArgs false
namespace Go.Proofs.YtpcemipfanimgaaGreatDoor
open Go Go.RowKit Go.Sort
section
variable {P : Program} {C : World → Prop} {Q : Exit → Act → World → Prop} {l : List Oper} {H A T2 : List Nat} {r : List (List Nat × List Nat)} {K : Act → World → Prop} {a : Act} {w : World}
theorem stages_nil (h : wpT1 P l.toArray C Q (opsAt l A) (wpStages P l C Q K r) a w) : wpStages P l C Q K (([], A) :: r) a w := wpQuiet_nil (P := P) (ops := l.toArray) (C := C) h
theorem stages_next (h : wpQuiet P l.toArray C (fun a' => wpT1 P l.toArray C Q (opsAt l A) (wpStages P l C Q K r) a' w) (opsAt l H) a) : wpT1 P l.toArray C Q (opsAt l []) (wpStages P l C Q K ((H, A) :: r)) a w := h
theorem stages_end (h : wpList P l.toArray Q (opsAt l T2) a w) : wpT1 P l.toArray C Q (opsAt l []) (wpStages P l C Q (fun a w => wpList P l.toArray Q (opsAt l T2) a w) []) a w := h
end
def StFits (x : StoredR) : Prop := x.stream.size ≤ maxLen ∧ x.ev.type.size ≤ maxLen ∧ x.ev.data.size ≤ maxLen
def StFew (x : StoredR) : Prop := x.stream.size ≤ 100 ∧ x.ev.type.size ≤ 100 ∧ x.ev.data.size ≤ 300
set_option maxRecDepth 100000 in
set_option maxHeartbeats 2000000 in
theorem few_any {w : World} {v : Value} {l : List StoredR} (few : Nat) (hf : few ≤ 1000) (h : Slc w 8 v l.length (l.flatMap StoredR.cells)) (hz : ∀ x ∈ l, StFits x) :
    Calls Tryz.prog 9 #[.int .i64 few, v] w fun e w' => RetB e (fun b => b = true → l.length ≤ few ∧ ∀ x ∈ l, StFew x) ∧ Only [] w w' := by
  obtain ⟨A, cap, rfl, hnc, hcm, hel⟩ := h.openE StoredR.cells (fun _ => rfl)
  unfold maxLen at hcm
  go_enter Tryz.func9, Tryz.ntmps9
  go_wp2
  go_loopw [5] (fun i wr => ∃ k : Nat, k ≤ few ∧ i = .int .i64 k ∧ Hid (∀ j (hj : j < l.length), j < k → StFew l[j]) ∧ Only [] w wr) (fun i _ => few - (intOf i).toNat)
  case atStart => exact ⟨0, by omega, rfl, fun j _ hj => absurd hj (Nat.not_lt_zero _), Only.refl _ _⟩
  case round =>
    obtain ⟨k, hk, rfl, hT, hO⟩ := hrel
    by_cases hlt : k < l.length
    · by_cases h20 : k < few
      · obtain ⟨b, off, rfl, hbb, hcc⟩ := hel k hlt
        obtain ⟨y, hy⟩ : ∃ y, y = l[k] := ⟨_, rfl⟩
        obtain ⟨hy1, hy2, hy3⟩ := hz y (by rw [hy]; exact List.getElem_mem hlt)
        unfold maxLen at hy1 hy2 hy3
        have HN : Hid (StFew y → ∀ j (hj : j < l.length), j < k + 1 → StFew l[j]) := fun hf j hj hjk => by
          by_cases q : j = k
          · subst q
            rw [← hy]
            exact hf
          · exact hT.out j hj (by omega)
        rw [← hy] at hcc
        have c1 : wr.cell? ⟨b, off + k * 8 + 1, none⟩ = some (.string y.ev.type) := (hO.cell hbb (by simp)).trans (hcc 1 (by omega))
        have c2 : wr.cell? ⟨b, off + k * 8 + 2, none⟩ = some (.string y.ev.data) := (hO.cell hbb (by simp)).trans (hcc 2 (by omega))
        have c4 : wr.cell? ⟨b, off + k * 8 + 4, none⟩ = some (.string y.stream) := (hO.cell hbb (by simp)).trans (hcc 4 (by omega))
        clear hcc hz hy hel h hT
        by_cases h1 : y.stream.size > 100
        · go_wp2
          go_ret
          exact ⟨⟨false, rfl, fun q => by cases q⟩, hO⟩
        · by_cases h2 : y.ev.type.size > 100
          · go_wp2
            go_ret
            exact ⟨⟨false, rfl, fun q => by cases q⟩, hO⟩
          · by_cases h3 : y.ev.data.size > 300
            · go_wp2
              go_ret
              exact ⟨⟨false, rfl, fun q => by cases q⟩, hO⟩
            · go_wp2
              exact ⟨⟨k + 1, by omega, by simp, HN.out ⟨by omega, by omega, by omega⟩, hO⟩, by simp [intOf]; omega⟩
      · clear hel hz
        have h2 : ¬ (l.length ≤ few) := by omega
        go_wp2
        go_ret
        exact ⟨⟨_, rfl, fun q => by simp at q <;> omega⟩, hO⟩
    · clear hel hz
      have h2 : l.length ≤ few := by omega
      have HT : Hid (∀ x ∈ l, StFew x) := fun x hx => by
        obtain ⟨j, hj, rfl⟩ := List.mem_iff_getElem.1 hx
        exact hT.out j hj (by omega)
      clear hT
      go_wp2
      go_ret
      exact ⟨⟨_, rfl, fun q => ⟨h2, HT.out⟩⟩, hO⟩
set_option maxRecDepth 100000 in
set_option maxHeartbeats 4000000 in
theorem wants_go (w : World) (t : ByteArray) (s : StoredR) (ht : t.size ≤ maxLen) (hs : StFits s) (hT : Tab w) :
    Calls Tryz.prog 3 #[.string t, s.val] w fun e w' => e = .returned (.bool true) ∧ Only [] w w' := by
  have hsf := stF
  have ht' := ht
  unfold maxLen at ht'
  have HA := Lib.hid (fun (W : World) (hW : Only [] w W) => alive25_any W (hT.only hW))
  have hO1 := (Only.refl [] w).alloc (.cells #[.int .i64 s.ev.id, .string s.ev.type, .string s.ev.data, .float .f64 s.ev.value, .string s.stream, .int .i64 s.version, .int .i64 s.position, .int .i64 s.time] 26)
  have hB := Blk.new w 26 #[.int .i64 s.ev.id, .string s.ev.type, .string s.ev.data, .float .f64 s.ev.value, .string s.stream, .int .i64 s.version, .int .i64 s.position, .int .i64 s.time]
  have hsl := slc_new1 (w := w.alloc (.cells #[.int .i64 s.ev.id, .string s.ev.type, .string s.ev.data, .float .f64 s.ev.value, .string s.stream, .int .i64 s.version, .int .i64 s.position, .int .i64 s.time] 26)) (e := 26) (size := 8) (cs := s.cells) rfl
  have HF := Lib.hid (few_any (l := [s]) 1 (by omega) (by simpa using hsl) (fun x hx => by rw [List.mem_singleton] at hx; rw [hx]; exact hs))
  have HW1 := Lib.hid (fun (W : World) (h2 : s.ev.type.size ≤ 100) => wants_any (w := W) t s hs.1 (by omega))
  have HW2 := Lib.hid (fun (W : World) => lwants_any (w := W) t s ht hs.1)
  unfold StoredR.val at HW1 HW2 ⊢
  simp only [StoredR.cells, EventR.cells, List.cons_append, List.nil_append, World.size_alloc] at HF
  rw [show ((1 : Nat) : Int) = 1 from rfl] at HF
  clear hsl hs
  by_cases h1 : t.size > 100
  · go_enter Tryz.func3, Tryz.ntmps3
    go_wp2_with (go_at_call 10; refine (HA.out _ hO1).mono ?_; rintro e w2 ⟨rfl, ho2⟩)
    go_ret
    exact ⟨rfl, hO1.trans ho2⟩
  · go_enter Tryz.func3, Tryz.ntmps3
    go_wp2_with fail
    refine HF.out.mono ?_
    rintro e w1 ⟨⟨b1, rfl, hb1⟩, ho1⟩
    have hO2 : Only [] w w1 := (hO1.alloc _).trans ho1
    cases b1 with
    | false =>
      clear hb1 HF
      go_wp2_with (go_at_call 10; refine (HA.out _ hO2).mono ?_; rintro e w2 ⟨rfl, ho2⟩)
      go_ret
      exact ⟨rfl, hO2.trans ho2⟩
    | true =>
      obtain ⟨_, h100⟩ := (hb1 rfl).2 s (by simp)
      have HW3 := Lib.hid (fun W => HW1.out W h100.1)
      have hB1 := ho1.blk (((Only.refl [] _).alloc (.cells #[.int .i64 s.ev.id, .string s.ev.type, .string s.ev.data, .float .f64 s.ev.value, .string s.stream, .int .i64 s.version, .int .i64 s.position, .int .i64 s.time] 26)).blk hB (by simp)) (by simp)
      rw [wants_eq] at HW3
      have HA2 := Lib.hid (HA.out _ hO2.drew)
      clear hb1 HF HW1 HA h100 hB
      go_wp2_with fail
      have c0 := Within.cell (S := []) (hB1.cell 0) (by simp)
      have c1 := Within.cell (S := []) (hB1.cell 1) (by simp)
      have c2 := Within.cell (S := []) (hB1.cell 2) (by simp)
      have c3 := Within.cell (S := []) (hB1.cell 3) (by simp)
      have c4 := Within.cell (S := []) (hB1.cell 4) (by simp)
      have c5 := Within.cell (S := []) (hB1.cell 5) (by simp)
      have c6 := Within.cell (S := []) (hB1.cell 6) (by simp)
      have c7 := Within.cell (S := []) (hB1.cell 7) (by simp)
      refine wp_region_stages (C := fun W => ∃ p : Within [] w1, W = p.W) [([], [0, 1]), ([2, 3, 5, 6], [4])] [7, 8, 9, 10] (by kernel_rfl) (by kernel_rfl) (by intro c d u a w h; cases d <;> exact h) ⟨⟨_, (Only.refl _ _).drew⟩, rfl⟩ ?_
      refine stages_nil ?_
      show wpList _ _ _ [_] _ _
      go_wp2_with (go_at_call 10; refine HA2.out.mono ?_; rintro e w2 ⟨rfl, ho2⟩)
      have hk2 : Only [] w1 w2 := (Only.refl [] w1).drew.trans ho2
      refine check_of (S := []) hk2 ?_
      show wpList _ _ _ [_] _ _
      go_wp2_with fail
      refine check_of (S := []) hk2 ?_
      refine stages_next ?_
      show wpQuiet _ _ _ _ [_, _, _, _] _
      try go_frame
      repeat (go_big_quiet_step (fail))
      refine wpQuiet_nil ?_
      clear c0 c1 c2 c3 c4 c5 c6 c7
      show wpList _ _ _ [_] _ _
      go_wp2_with (go_at_call 11; refine (HW3.out _).mono ?_; rintro e w3 ⟨rfl, ho3⟩)
      refine check_of (S := []) (hk2.trans ho3) ?_
      refine stages_end ?_
      show wpList _ _ _ [_, _, _, _] _ _
      go_wp2_with (go_at_call 12; refine (HW2.out _).mono ?_; rintro e w4 ⟨rfl, ho4⟩)
      go_ret
      exact ⟨by simp, ((hO2.trans hk2).trans ho3).trans ho4⟩
end Go.Proofs.YtpcemipfanimgaaGreatDoor
/- Opening an api.Stored; the table of powers of ten out of what the row lists. -/
set_option linter.unusedVariables false
set_option linter.unusedSimpArgs false
namespace Go.Proofs.YtpcemipfanimgaaGreatDoor
open Go.ChangeShapes Go.WideShapes Go.ChangeAt Go.RowKit Go.WideElems Go.ChangeMaps Go.Deep Go.Sort
theorem cellsSt : Tryz.prog.cellsOf 26 = 8 := by kernel_rfl
section
variable {H : Type} {enc : TypeId × Value → H} {W : World}
theorem open_st (n : Nat) (cs : List Value) (x : DataW H × List MemPlace) (h : DataW.trod enc Tryz.prog W 0 (fun _ => true) true n 26 cs = some x) (hlt : ∀ y ∈ x.2, y.block < W.heap.size) :
    ∃ s : StoredR, cs = s.cells ∧ StFits s := by
  obtain ⟨xs, m, _, hx, hl, hlen, hf⟩ := DataW.trod_struct Tryz.underlying26 h
  rw [cellsSt] at hl
  have g0 : DataW.trod enc Tryz.prog W 0 (fun _ => true) true m 24 ((cs.drop 0).take (Tryz.prog.cellsOf 24)) = xs[0]? := hf 0 _ rfl
  have g1 : DataW.trod enc Tryz.prog W 0 (fun _ => true) true m 9 ((cs.drop 4).take (Tryz.prog.cellsOf 9)) = xs[1]? := hf 1 _ rfl
  have g2 : DataW.trod enc Tryz.prog W 0 (fun _ => true) true m 3 ((cs.drop 5).take (Tryz.prog.cellsOf 3)) = xs[2]? := hf 2 _ rfl
  have g3 : DataW.trod enc Tryz.prog W 0 (fun _ => true) true m 3 ((cs.drop 6).take (Tryz.prog.cellsOf 3)) = xs[3]? := hf 3 _ rfl
  have g4 : DataW.trod enc Tryz.prog W 0 (fun _ => true) true m 3 ((cs.drop 7).take (Tryz.prog.cellsOf 3)) = xs[4]? := hf 4 _ rfl
  rw [cellsEv] at g0
  rw [cellsS] at g1
  rw [cellsI] at g2 g3 g4
  clear hf
  match xs, hlen with
  | [y0, y1, y2, y3, y4], _ =>
    simp only [List.getElem?_cons_zero, List.getElem?_cons_succ] at g0 g1 g2 g3 g4
    obtain ⟨e, c0, w0⟩ := open_ev _ _ _ g0 (fun y hy => hlt y (by rw [hx]; simp; left; exact hy))
    obtain ⟨s1, c1, _, w1⟩ := DataW.trod_string Tryz.underlying9 g1
    obtain ⟨k2, c2, _, _⟩ := DataW.trod_int Tryz.underlying3 g2
    obtain ⟨k3, c3, _, _⟩ := DataW.trod_int Tryz.underlying3 g3
    obtain ⟨k4, c4, _, _⟩ := DataW.trod_int Tryz.underlying3 g4
    refine ⟨⟨e, s1, k2, k3, k4⟩, ?_, w1, w0.1, w0.2⟩
    apply List.ext_getElem?
    intro i
    unfold StoredR.cells
    have a1 := one_at c1
    have a2 := one_at c2
    have a3 := one_at c3
    have a4 := one_at c4
    have b : ∀ j, j < 4 → cs[j]? = e.cells[j]? := fun j hj => by
      rw [← c0, List.getElem?_take, if_pos hj, List.getElem?_drop, Nat.zero_add]
    match i with
    | 0 => exact b 0 (by omega)
    | 1 => exact b 1 (by omega)
    | 2 => exact b 2 (by omega)
    | 3 => exact b 3 (by omega)
    | 4 => exact a1
    | 5 => exact a2
    | 6 => exact a3
    | 7 => exact a4
    | i + 8 => simp [EventR.cells]; omega
set_option maxRecDepth 100000 in
theorem open_stv {base : Nat} {v : Value} {d : DataW H} {ps : List MemPlace} (hval : Value.okWide Tryz.prog W .any base 26 v) (hd : DataW.Trod enc Tryz.prog W 0 (fun _ => true) true 26 v d ps) (hlt : ∀ x ∈ ps, x.block < W.heap.size) :
    ∃ s : StoredR, v = s.val ∧ StFits s := by
  obtain ⟨fuel, hf⟩ := hd
  obtain ⟨cs, rfl, _⟩ := okWide_struct Tryz.underlying26 hval
  obtain ⟨o, h1, h2⟩ := open_st _ _ _ hf hlt
  refine ⟨o, ?_, h2⟩
  have h3 : cs.toList = o.cells := by simpa [Value.cells] using h1
  have h4 : cs = o.cells.toArray := by rw [← h3]
  rw [h4]
  rfl
set_option maxRecDepth 100000 in
theorem open_sts {base : Nat} {v : Value} {d : DataW H} {ps : List MemPlace} (hval : Value.okWide Tryz.prog W .any base 28 v) (hd : DataW.Trod enc Tryz.prog W 0 (fun _ => true) true 28 v d ps) (hlt : ∀ x ∈ ps, x.block < W.heap.size) :
    ∃ os : List StoredR, Slc W 8 v os.length (os.flatMap StoredR.cells) ∧ (∀ o ∈ os, StFits o ∧ o.cells.length = 8) ∧ ∀ g, v.ownBlock = some g → g < W.heap.size ∨ os = [] :=
  open_rows Tryz.underlying28 cellsSt (by omega) StoredR.cells StFits open_st hval hd hlt
end
theorem wantsW (t : ByteArray) (ht : t.size ≤ maxLen) (s : StoredR) (W : World) (hT : Tab W) (hs : StFits s) :
    Calls Tryz.prog 3 #[.string t, s.val] W fun e W' => e = .returned (.bool true) ∧ Only [] W W' := wants_go W t s ht hs hT
end Go.Proofs.YtpcemipfanimgaaGreatDoor
/- Contracts: what the laws say that a target wants, all of it; a target that has just links. -/
set_option linter.unusedVariables false
set_option linter.unusedSimpArgs false
namespace Go.Proofs.YtpcemipfanimgaaGreatDoor
open Go Go.RowKit Go.Sort
theorem stored_one (l : List StoredR) : ∀ u ∈ l.flatMap StoredR.cells, u.oneCell' = true := by
  intro u hu
  obtain ⟨x, _, hx⟩ := List.mem_flatMap.1 hu
  simp [StoredR.cells, EventR.cells] at hx
  rcases hx with rfl | rfl | rfl | rfl | rfl | rfl | rfl | rfl <;> rfl
theorem app8 {W : World} {base : Nat} {v : Value} {l : List StoredR} (hown : W.ownsRow base 26 8 v l.length (l.flatMap StoredR.cells)) (hb : base ≤ W.heap.size) (hl : l.length ≤ 1000000) (x : StoredR) :
    ∃ A cap w', (Builtin.append_ #[28, 28] 28 #[v, .slice (some ⟨W.heap.size, 0, none⟩) 1 1]).run Tryz.prog (W.alloc (.cells #[.int .i64 x.ev.id, .string x.ev.type, .string x.ev.data, .float .f64 x.ev.value, .string x.stream, .int .i64 x.version, .int .i64 x.position, .int .i64 x.time] 26)) = .ok (.slice A (l.length + 1) cap) w' ∧ w'.ownsRow base 26 8 (.slice A (l.length + 1) cap) (l ++ [x]).length ((l ++ [x]).flatMap StoredR.cells) ∧ Only v.ownBlock.toList (W.alloc (.cells #[.int .i64 x.ev.id, .string x.ev.type, .string x.ev.data, .float .f64 x.ev.value, .string x.stream, .int .i64 x.version, .int .i64 x.position, .int .i64 x.time] 26)) w' := by
  obtain ⟨A, cap, w', h1, h2, h3, _⟩ := run_app (P := Tryz.prog) (w := W.alloc (.cells #[.int .i64 x.ev.id, .string x.ev.type, .string x.ev.data, .float .f64 x.ev.value, .string x.stream, .int .i64 x.version, .int .i64 x.position, .int .i64 x.time] 26)) 28 28 base 26 (.agg #[.int .i64 0, .string ⟨#[]⟩, .string ⟨#[]⟩, .float .f64 0, .string ⟨#[]⟩, .int .i64 0, .int .i64 0, .int .i64 0]) 8 88 Tryz.underlying28 infoSt rfl (by decide) (hown.alloc _) (slc_new1 (w := W) (e := 26) (size := 8) (cs := x.cells) rfl) (by simpa using stored_one [x]) (by omega) (by unfold maxLen; omega) (Nat.le_trans hb (by simp))
  refine ⟨A, cap, w', h1, ?_, h3⟩
  rw [List.length_append]
  simpa using h2
theorem plainK_succ (t : ByteArray) (l : List StoredR) {k : Nat} (h : k < l.length) : plainL t (l.take (k + 1)) = plainL t (l.take k) ++ if wantsL t l[k] = true then [l[k]] else [] := by
  unfold plainL
  rw [List.take_succ_eq_append_getElem h, List.filter_append]
  congr 1
  by_cases q : wantsL t l[k] = true
  · rw [if_pos q, List.filter_cons, if_pos q]
    rfl
  · rw [if_neg q, List.filter_cons, if_neg q]
    rfl
set_option maxRecDepth 100000 in
set_option maxHeartbeats 2000000 in
theorem plain_any {w : World} {v : Value} {l : List StoredR} (t : ByteArray) (ht : t.size ≤ maxLen) (h : Slc w 8 v l.length (l.flatMap StoredR.cells)) (hl : l.length ≤ 1000000) (hs : ∀ x ∈ l, x.stream.size ≤ maxLen) :
    Calls Tryz.prog 23 #[.string t, v] w fun e w' => ∃ v', e = .returned v' ∧ w'.ownsRow w.heap.size 26 8 v' (plainL t l).length ((plainL t l).flatMap StoredR.cells) ∧ Only [] w w' := by
  obtain ⟨A1, cap1, rfl, hnc1, hcm1, hel1⟩ := h.openE StoredR.cells (fun _ => rfl)
  unfold maxLen at hcm1
  have hsf := stF
  clear h
  go_enter Tryz.func23, Tryz.ntmps23
  go_wp2
  go_loopw [5, 6] (fun o i wr => ∃ (k : Nat) (A : Option Addr) (cap : Nat), k ≤ l.length ∧ i = .int .i64 k ∧ o = .slice A (plainL t (l.take k)).length cap ∧ wr.ownsRow w.heap.size 26 8 (.slice A (plainL t (l.take k)).length cap) (plainL t (l.take k)).length ((plainL t (l.take k)).flatMap StoredR.cells) ∧ Only [] w wr) (fun _ i _ => l.length - (intOf i).toNat)
  case atStart => exact ⟨0, none, 0, Nat.zero_le _, rfl, rfl, World.ownsRow_nil _ _ _ _, Only.refl _ _⟩
  case round =>
    obtain ⟨k, A, cap, hk, rfl, rfl, hown, hO⟩ := hrel
    have hfew : (plainL t (l.take k)).length ≤ k := Nat.le_trans (List.length_filter_le _ _) (by rw [List.length_take]; omega)
    by_cases hlt : k < l.length
    · obtain ⟨b, off, rfl, hbb, hcc⟩ := hel1 k hlt
      have hnx := plainK_succ t l hlt
      obtain ⟨x, hx⟩ : ∃ x, x = l[k] := ⟨_, rfl⟩
      have hxs := hs x (by rw [hx]; exact List.getElem_mem hlt)
      rw [← hx] at hcc hnx
      have g0 := hcc 0 (by omega)
      have c0 : wr.cell? ⟨b, off + k * 8, none⟩ = some (.int .i64 x.ev.id) := (hO.cell hbb (by simp)).trans (hcc 0 (by omega))
      have c1 : wr.cell? ⟨b, off + k * 8 + 1, none⟩ = some (.string x.ev.type) := (hO.cell hbb (by simp)).trans (hcc 1 (by omega))
      have c2 : wr.cell? ⟨b, off + k * 8 + 2, none⟩ = some (.string x.ev.data) := (hO.cell hbb (by simp)).trans (hcc 2 (by omega))
      have c3 : wr.cell? ⟨b, off + k * 8 + 3, none⟩ = some (.float .f64 x.ev.value) := (hO.cell hbb (by simp)).trans (hcc 3 (by omega))
      have c4 : wr.cell? ⟨b, off + k * 8 + 4, none⟩ = some (.string x.stream) := (hO.cell hbb (by simp)).trans (hcc 4 (by omega))
      have c5 : wr.cell? ⟨b, off + k * 8 + 5, none⟩ = some (.int .i64 x.version) := (hO.cell hbb (by simp)).trans (hcc 5 (by omega))
      have c6 : wr.cell? ⟨b, off + k * 8 + 6, none⟩ = some (.int .i64 x.position) := (hO.cell hbb (by simp)).trans (hcc 6 (by omega))
      have c7 : wr.cell? ⟨b, off + k * 8 + 7, none⟩ = some (.int .i64 x.time) := (hO.cell hbb (by simp)).trans (hcc 7 (by omega))
      have HWn := Lib.hid (fun W => lwants_any (w := W) t x ht hxs)
      unfold StoredR.val at HWn
      obtain ⟨L, hL⟩ : ∃ L, L = plainL t (l.take k) := ⟨_, rfl⟩
      rw [← hL] at hown hfew hnx ⊢
      clear hcc hx hel1 hL g0
      have hbl := fun (W : World) (hW : Only [] wr W) (p : Addr) (hp : p.block < wr.heap.size) => hW.cell (p := p) hp (by simp)
      have hbw : b < wr.heap.size := Nat.lt_of_lt_of_le hbb hO.size
      cases hq : wantsL t x with
      | false =>
        rw [hq] at HWn hnx
        rw [if_neg (by simp), List.append_nil] at hnx
        have HNX := Lib.hid hnx
        clear hnx hq
        go_wp2_with (go_at_call 12; refine (HWn.out _).mono ?_; rintro e w2 ⟨rfl, ho2⟩)
        refine ⟨⟨k + 1, A, cap, hlt, by simp, ?_, ?_, hO.trans ho2⟩, by simp [intOf]; omega⟩
        · rw [HNX.out]
        · rw [HNX.out]
          exact own_only hown ho2 (by simp)
      | true =>
        rw [hq] at HWn hnx
        rw [if_pos rfl] at hnx
        have HNX := Lib.hid hnx
        clear hnx hq
        go_wp2_with (first
          | (go_at_call 12; refine (HWn.out _).mono ?_; rintro e w2 ⟨rfl, ho2⟩
             have d0 := (hbl _ ho2 ⟨b, off + k * 8, none⟩ hbw).trans c0
             have d1 := (hbl _ ho2 ⟨b, off + k * 8 + 1, none⟩ hbw).trans c1
             have d2 := (hbl _ ho2 ⟨b, off + k * 8 + 2, none⟩ hbw).trans c2
             have d3 := (hbl _ ho2 ⟨b, off + k * 8 + 3, none⟩ hbw).trans c3
             have d4 := (hbl _ ho2 ⟨b, off + k * 8 + 4, none⟩ hbw).trans c4
             have d5 := (hbl _ ho2 ⟨b, off + k * 8 + 5, none⟩ hbw).trans c5
             have d6 := (hbl _ ho2 ⟨b, off + k * 8 + 6, none⟩ hbw).trans c6
             have d7 := (hbl _ ho2 ⟨b, off + k * 8 + 7, none⟩ hbw).trans c7
             obtain ⟨A4, c4', w4, hr4, hown4, hO4⟩ := app8 (W := w2) (base := w.heap.size) (own_only hown ho2 (by simp)) (Nat.le_trans hO.size ho2.size) (by omega) x
             have HR4 := Lib.hid hr4
             clear hr4)
          | (at_builtin; refine Lib.wpList_append_run _ rfl (.tmp 19) (.tmp 24) 28 28 rfl _ _ rfl rfl _ _ HR4.out ?_))
        have hb3 := fun g hg => (World.ownsRow.lt hown g hg).1
        have hO5 : Only [] w w4 := ((hO.trans ho2).alloc _).step hO4 (fun g hg => .inr (by have := hb3 g (by simpa using hg); omega))
        refine ⟨⟨k + 1, A4, c4', hlt, by simp, ?_, ?_, hO5⟩, by simp [intOf]; omega⟩
        · rw [HNX.out, List.length_append]
          rfl
        · rw [HNX.out]
          simpa using hown4
    · have hkl : k = l.length := by omega
      subst hkl
      rw [List.take_length] at hown ⊢
      obtain ⟨L, hL⟩ : ∃ L, L = plainL t l := ⟨_, rfl⟩
      rw [← hL] at hown ⊢
      have HL := Lib.hid hL
      clear hel1 hL
      go_wp2
      go_ret
      rw [← HL.out]
      exact ⟨_, rfl, hown, hO⟩
end Go.Proofs.YtpcemipfanimgaaGreatDoor
/- Contracts: a target that is linked by Next alone has just links to the first ones of those that it wants. -/
set_option linter.unusedVariables false
set_option linter.unusedSimpArgs false
namespace Go.Proofs.YtpcemipfanimgaaGreatDoor
open Go Go.RowKit Go.Sort
theorem stagesDone {P : Program} {C : World → Prop} {Q : Exit → Act → World → Prop} {l : List Oper} {a : Act} {w : World} (h : Q .normal a w) : wpT1 P l.toArray C Q (opsAt l []) (wpStages P l C Q (fun a w => wpList P l.toArray Q (opsAt l []) a w) []) a w := h
def cntT (s : MS) (t : ByteArray) (i : Nat) : Nat := ((s.all.take i).filter (fun x => decide (x.stream = t))).length
theorem cnt_hit {s : MS} {t : ByteArray} {i : Nat} (h : i < s.all.length) (hs : s.all[i].stream = t) : cntT s t (i + 1) = cntT s t i + 1 ∧ (streamE s t)[cntT s t i]? = some s.all[i] := by
  constructor
  · unfold cntT
    rw [List.take_succ_eq_append_getElem h, List.filter_append, List.length_append, List.filter_cons, if_pos (decide_eq_true hs)]
    rfl
  · unfold streamE cntT
    conv => lhs; arg 1; rw [← List.take_append_drop i s.all]
    rw [List.filter_append, List.getElem?_append_right (Nat.le_refl _), Nat.sub_self, List.drop_eq_getElem_cons h, List.filter_cons, if_pos (decide_eq_true hs)]
    rfl
theorem cnt_miss {s : MS} {t : ByteArray} {i : Nat} (h : i < s.all.length) (hs : ¬s.all[i].stream = t) : cntT s t (i + 1) = cntT s t i := by
  unfold cntT
  rw [List.take_succ_eq_append_getElem h, List.filter_append, List.length_append, List.filter_cons, if_neg (by simpa using hs)]
  rfl
theorem cnt_le (s : MS) (t : ByteArray) (i : Nat) : cntT s t i ≤ i := Nat.le_trans (List.length_filter_le _ _) (by rw [List.length_take]; omega)
theorem cnt_all (s : MS) (t : ByteArray) : cntT s t s.all.length = (streamE s t).length := by
  unfold cntT streamE
  rw [List.take_length]
/-- A slice of stored events whose cells may be looked at. -/
structure StSl (w : World) (A : Option Addr) (cap : Nat) (l : List StoredR) : Prop where
  le : l.length ≤ cap
  cap : cap ≤ 9223372036854775807
  at_ : ∀ j (hj : j < l.length), ∃ b off, A = some ⟨b, off, none⟩ ∧ b < w.heap.size ∧ ∀ r, r < 8 → w.cell? ⟨b, off + j * 8 + r, none⟩ = (l[j].cells)[r]?
theorem StSl.of {w : World} {v : Value} {l : List StoredR} (h : Slc w 8 v l.length (l.flatMap StoredR.cells)) : ∃ A cap, v = .slice A l.length cap ∧ StSl w A cap l := by
  obtain ⟨A, cap, rfl, h1, h2, h3⟩ := h.openE StoredR.cells (fun _ => rfl)
  exact ⟨A, cap, rfl, h1, by unfold maxLen at h2; omega, h3⟩
theorem StSl.only {w w' : World} {A : Option Addr} {cap : Nat} {l : List StoredR} (h : StSl w A cap l) (k : Only [] w w') : StSl w' A cap l := ⟨h.le, h.cap, fun j hj => by
  obtain ⟨b, off, e, hb, hc⟩ := h.at_ j hj
  exact ⟨b, off, e, Nat.lt_of_lt_of_le hb k.size, fun r hr => (k.cell hb (by simp)).trans (hc r hr)⟩⟩
section
variable {a w : World} {R E : List Nat} {sb mb N : Nat} {s : MS}
set_option maxRecDepth 100000 in
set_option maxHeartbeats 4000000 in
theorem links_any (h : HasS a w R E sb mb s N) (hN : N ≤ 100000) (hn : s.Neat) {t : ByteArray} (ht : t.size ≤ maxLen) {k : Nat} (hk : Lk s t k) :
    Calls Tryz.prog 17 #[.pointer (some ⟨sb, 0, none⟩), .string t] w fun e w' => e = .returned (.bool true) ∧ Only [] w w' := by
  have hsf := stF
  have hlen : s.all.length ≤ 1000000 := by have := h.ok.all; omega
  have hpl : (plainL t s.all).length ≤ 1000000 := Nat.le_trans (List.length_filter_le _ _) hlen
  have HE := Lib.hid (has_every h hN)
  have HP := Lib.hid (fun (W : World) (v : Value) (hv : Slc W 8 v s.all.length (s.all.flatMap StoredR.cells)) => plain_any t ht hv hlen (fun x hx => by have := (hn.sizes hx).1; unfold maxLen; omega))
  have HLg := Lib.hid (fun (W : World) (hW : Only [] w W) => lags_any (h.keep hW) hN hn t)
  have HRe := Lib.hid (fun (W : World) (hW : Only [] w W) => reached_any (h.keep hW) hN t (fun x hx => by have := (hn.sizes hx).2.2; omega))
  rw [hk.wanted_eq hlen, List.length_drop] at HLg
  rw [hk.reached_eq hlen] at HRe
  have hkl := hk.len
  have hkf := hk.few
  obtain ⟨P, hP⟩ : ∃ P, plainL t s.all = P := ⟨_, rfl⟩
  rw [hP] at HP HLg HRe hpl hkf
  go_enter Tryz.func17, Tryz.ntmps17
  go_wp2_with (first
    | (go_at_call 22; refine HE.out.mono ?_; rintro e w1 ⟨v1, rfl, hown1, ho1⟩
       have hs1 := (Slc.of_own hown1).1
       have HP1 := Lib.hid (HP.out w1 v1 hs1)
       obtain ⟨A1, cap1, rfl, hS1⟩ := StSl.of hs1)
    | (go_at_call 23; refine HP1.out.mono ?_; rintro e w2 ⟨v2, rfl, hown2, ho2⟩
       obtain ⟨A2, cap2, rfl, hS2⟩ := StSl.of (Slc.of_own hown2).1))
  have hO12 : Only [] w w2 := ho1.trans ho2
  have hS12 := hS1.only ho2
  have hcap1 := hS12.cap
  have hcap2 := hS2.cap
  have hle1 := hS12.le
  have hle2 := hS2.le
  clear HE HP HP1 hown1 hown2 hS1 hs1 h
  go_loopw [7, 8] (fun c i wr => ∃ j : Nat, j ≤ s.all.length ∧ i = .int .i64 j ∧ c = .int .i64 (cntT s t j : Int) ∧ Only [] w2 wr) (fun _ i _ => s.all.length - (intOf i).toNat)
  case atStart => exact ⟨0, Nat.zero_le _, rfl, rfl, Only.refl _ _⟩
  case round =>
    obtain ⟨j, hj, rfl, rfl, hO⟩ := hrel
    have hcj := cnt_le s t j
    by_cases hlt : j < s.all.length
    · obtain ⟨b, off, rfl, hbb, hcc⟩ := (hS12.only hO).at_ j hlt
      have hhit := cnt_hit (t := t) hlt
      have hmiss := cnt_miss (t := t) hlt
      obtain ⟨x, hx⟩ : ∃ x, s.all[j] = x := ⟨_, rfl⟩
      rw [hx] at hcc hhit hmiss
      have hz := toList_dec x.stream t
      have c4 : wr.cell? ⟨b, off + j * 8 + 4, none⟩ = some (.string x.stream) := hcc 4 (by omega)
      by_cases hst : x.stream = t
      · obtain ⟨q1, q2⟩ := hhit hst
        obtain ⟨c, hc⟩ : ∃ c, cntT s t j = c := ⟨_, rfl⟩
        rw [hc] at q1 q2 hcj ⊢
        have hck : c < k := by rw [← hkl]; exact (List.getElem?_eq_some_iff.1 q2).1
        obtain ⟨x', y, r1, r2, r3, r4, r5⟩ := hk.lnk c hck
        rw [q2] at r1
        injection r1 with r1
        subst r1
        have hver := (hk.si.at q2).1
        have hym := (plain_mem (List.mem_iff_getElem?.2 ⟨c, r2⟩)).1
        obtain ⟨y0, y1, _⟩ := hk.si.nth hym
        have hysz := (hn.sizes hym).1
        have hypos : 0 ≤ y.position ∧ y.position ≤ 1000000 := by
          obtain ⟨i, hi, e⟩ := List.mem_iff_getElem.1 hym
          have := hk.si.inv.pos i hi
          rw [e] at this
          omega
        rw [hP] at r2
        have hcP : c < P.length := (List.getElem?_eq_some_iff.1 r2).1
        obtain ⟨b2, off2, rfl, hbb2, hcc2⟩ := (hS2.only hO).at_ c hcP
        have hy2 : P[c] = y := (List.getElem?_eq_some_iff.1 r2).2
        rw [hy2] at hcc2
        have hz1 : (x.stream.toList == t.toList) = true := by rw [hz]; exact decide_eq_true hst
        have hz2 : (x.ev.type.toList == [36, 62]) = true := by rw [toList_lit]; exact decide_eq_true r3
        obtain ⟨v, hv⟩ : ∃ v : Nat, y.version = v := ⟨y.version.toNat, by omega⟩
        have HDg := Lib.hid (fun W => r1digits_any (w := W) v (by omega))
        obtain ⟨d, hd⟩ : ∃ d, d = ba (Lib.itoa (v : Int)) := ⟨_, rfl⟩
        have hdz : d.size ≤ 21 := by rw [hd]; exact itoa_size (by omega) (by omega)
        have hdat : x.ev.data = d ++ ⟨#[64]⟩ ++ y.stream := by
          rw [r4, app_at, hd, bts_ba]
          unfold linkData
          rw [hv]
        rw [← hd] at HDg
        have hz3 : (x.ev.data.toList == (d ++ ⟨#[64]⟩ ++ y.stream).toList) = true := by rw [hdat]; simp
        have e1 := IntWalk.i64_in (y.position + 1) ⟨by omega, by omega⟩
        have e2 := IntWalk.i64_in ((c : Int) + 1) ⟨by omega, by omega⟩
        have e3 := IntWalk.i64_in ((j : Int) + 1) ⟨by omega, by omega⟩
        have hz4 : (x.ev.id == y.position + 1) = true := by rw [r5]; simp
        have hz5 : (x.version == (c : Int)) = true := by rw [hver]; simp
        have hz6 : decide ((c : Int) ≥ (P.length : Int)) = false := decide_eq_false (by omega)
        have hz7 : decide ((P.length : Int) ≤ (c : Int)) = false := decide_eq_false (by omega)
        have hz8 : decide (P.length ≤ c) = false := decide_eq_false (by omega)
        have g1 := Within.cell (S := []) (show wr.cell? ⟨b, off + j * 8 + 1, none⟩ = some (.string x.ev.type) from hcc 1 (by omega)) (by simp)
        have g2 := Within.cell (S := []) (show wr.cell? ⟨b, off + j * 8 + 2, none⟩ = some (.string x.ev.data) from hcc 2 (by omega)) (by simp)
        have g0 := Within.cell (S := []) (show wr.cell? ⟨b, off + j * 8, none⟩ = some (.int .i64 (y.position + 1)) from by rw [← r5]; exact hcc 0 (by omega)) (by simp)
        have g5 := Within.cell (S := []) (show wr.cell? ⟨b, off + j * 8 + 5, none⟩ = some (.int .i64 (c : Int)) from by rw [← hver]; exact hcc 5 (by omega)) (by simp)
        have k4 := Within.cell (S := []) (show wr.cell? ⟨b2, off2 + c * 8 + 4, none⟩ = some (.string y.stream) from hcc2 4 (by omega)) (by simp)
        have k5 := Within.cell (S := []) (show wr.cell? ⟨b2, off2 + c * 8 + 5, none⟩ = some (.int .i64 (v : Int)) from by rw [← hv]; exact hcc2 5 (by omega)) (by simp)
        have k6 := Within.cell (S := []) (show wr.cell? ⟨b2, off2 + c * 8 + 6, none⟩ = some (.int .i64 y.position) from hcc2 6 (by omega)) (by simp)
        have HQ := Lib.hid q1
        have HB := Lib.hid hO
        clear hcc hcc2 hx hc hhit hmiss q1 q2 r2 r3 r4 r5 hver hym hd hdat hy2 hz hst hv y0 y1 hck hkl hP
        go_wp2_with fail
        refine wp_region_stages (C := fun W => ∃ p : Within [] wr, W = p.W) [([0, 1, 2, 3, 4, 5, 6, 7, 8, 9, 10, 11, 12, 13, 14, 15, 16, 17, 18, 19, 20, 21, 22, 23, 24, 27, 28, 29, 30, 31], [25]), ([26, 32, 33, 34, 35, 36, 37, 38, 39, 40, 41, 42, 43, 44, 45, 46, 47, 48, 49, 50, 51, 52, 53, 54, 55, 56, 57, 58], [])] [] (by kernel_rfl) (by kernel_rfl) (by intro c d u a w h; cases d <;> exact h) ⟨⟨_, (Only.refl _ _).drew⟩, rfl⟩ ?_
        refine stagesFirst ?_
        show wpQuiet _ _ _ _ (_ :: _ :: _ :: _ :: _ :: _ :: _ :: _ :: _ :: _ :: _ :: _ :: _ :: _ :: _ :: _ :: _ :: _ :: _ :: _ :: _ :: _ :: _ :: _ :: _ :: _ :: _ :: _ :: _ :: _ :: []) _
        repeat (go_big_quiet_step (fail))
        refine wpQuiet_nil ?_
        show wpList _ _ _ [_] _ _
        go_wp2_with (go_at_call 54; refine (HDg.out _).mono ?_; rintro e w3 ⟨rfl, ho3⟩)
        have hk3 : Only [] wr w3 := (Only.refl [] wr).drew.trans ho3
        refine check_of (S := []) hk3 ?_
        refine stages_next ?_
        show wpQuiet _ _ _ _ [_, _, _, _, _, _, _, _, _, _, _, _, _, _, _, _, _, _, _, _, _, _, _, _, _, _, _, _] _
        try go_frame
        repeat (go_big_quiet_step (fail))
        refine wpQuiet_nil ?_
        refine stagesDone ?_
        go_wp2
        exact ⟨⟨j + 1, by omega, by simp [e3], by rw [HQ.out]; simp [e2], HB.out.trans hk3⟩, by simp [e3, intOf]; omega⟩
      · have q1 := hmiss hst
        have HQ := Lib.hid q1
        have hz1 : (x.stream.toList == t.toList) = false := by rw [hz]; exact decide_eq_false hst
        have e3 := IntWalk.i64_in ((j : Int) + 1) ⟨by omega, by omega⟩
        clear hcc hx hhit hmiss q1 hz hst hkl hP
        go_wp2
        exact ⟨⟨j + 1, by omega, by simp [e3], by rw [HQ.out], hO⟩, by simp [e3, intOf]; omega⟩
    · have hjl : j = s.all.length := by omega
      subst hjl
      obtain ⟨c, hc⟩ : ∃ c, cntT s t s.all.length = c := ⟨_, rfl⟩
      have hck : c = k := by rw [← hc, cnt_all, hkl]
      rw [hc]
      subst hck
      have HB := Lib.hid (hO12.trans hO)
      have hlt' : ¬((s.all.length : Int) < (s.all.length : Int)) := by omega
      have e5 := IntWalk.i64_in ((P.length : Int) - (c : Int)) ⟨by omega, by omega⟩
      have hq : decide (((P.length - c : Nat) : Int) = (P.length : Int) - (c : Int)) = true := decide_eq_true (by omega)
      have hq2 : (((P.length - c : Nat) : Int) == (P.length : Int) - (c : Int)) = true := by simp; omega
      obtain ⟨D, hD⟩ : ∃ D, P.length - c = D := ⟨_, rfl⟩
      rw [hD] at HLg hq hq2
      have hq3 : (P.length : Int) - (c : Int) = (D : Int) := by omega
      by_cases hc0 : 0 < c
      · have hcP : c - 1 < P.length := by omega
        obtain ⟨b2, off2, rfl, hbb2, hcc2⟩ := (hS2.only hO).at_ (c - 1) hcP
        obtain ⟨y, hy⟩ : ∃ y, P[c - 1] = y := ⟨_, rfl⟩
        rw [hy] at hcc2
        have hr : reachedL P c = y.position + 1 := by
          unfold reachedL
          rw [if_pos hc0, List.getElem?_eq_getElem hcP, hy]
          rfl
        rw [hr] at HRe
        have hym : y ∈ s.all := by
          have : y ∈ plainL t s.all := by rw [hP, ← hy]; exact List.getElem_mem _
          exact (plain_mem this).1
        have hypos : 0 ≤ y.position ∧ y.position ≤ 1000000 := by
          obtain ⟨i, hi, e⟩ := List.mem_iff_getElem.1 hym
          have := hk.si.inv.pos i hi
          rw [e] at this
          omega
        have e1 := IntWalk.i64_in (y.position + 1) ⟨by omega, by omega⟩
        have e4 := IntWalk.i64_in ((c : Int) - 1) ⟨by omega, by omega⟩
        have e6 : (c : Int) - 1 = ((c - 1 : Nat) : Int) := by omega
        have c6 : wr.cell? ⟨b2, off2 + (c - 1) * 8 + 6, none⟩ = some (.int .i64 y.position) := hcc2 6 (by omega)
        have hgc : decide ((c : Int) > 0) = true := decide_eq_true (by omega)
        clear hcc2 hy hr hym hc hP hD hkl hk hn
        go_wp2_with (first
          | (go_at_call 18; refine (HLg.out _ HB.out).mono ?_; rintro e w4 ⟨rfl, ho4⟩
             have HB4 := Lib.hid (HB.out.trans ho4))
          | (go_at_call 21; refine (HRe.out _ HB4.out).mono ?_; rintro e w5 ⟨rfl, ho5⟩
             have HB5 := Lib.hid (HB4.out.trans ho5)))
        go_ret
        exact ⟨by simp, HB5.out⟩
      · have hr : reachedL P c = 0 := by
          unfold reachedL
          rw [if_neg hc0]
        rw [hr] at HRe
        have hgc : decide ((c : Int) > 0) = false := decide_eq_false (by omega)
        clear hr hc hP hD hkl hk hn
        go_wp2_with (first
          | (go_at_call 18; refine (HLg.out _ HB.out).mono ?_; rintro e w4 ⟨rfl, ho4⟩
             have HB4 := Lib.hid (HB.out.trans ho4))
          | (go_at_call 21; refine (HRe.out _ HB4.out).mono ?_; rintro e w5 ⟨rfl, ho5⟩
             have HB5 := Lib.hid (HB4.out.trans ho5)))
        go_ret
        exact ⟨by simp, HB5.out⟩
end
end Go.Proofs.YtpcemipfanimgaaGreatDoor
/- Links, plain: a state with the links of one target, step by step. -/
set_option linter.unusedVariables false
set_option linter.unusedSimpArgs false
namespace Go.Proofs.YtpcemipfanimgaaGreatDoor
open Go Go.RowKit Go.Sort
theorem and3 (n : Int) : bits .and .i64 n 3 = n % 4 := by
  have h : (BitVec.ofInt 64 3).toNat = 2 ^ 2 - 1 := by decide
  have key : (BitVec.ofInt 64 n &&& BitVec.ofInt 64 3).toNat = (n % ((2 ^ 64 : Nat) : Int)).toNat % 2 ^ 2 := by
    rw [BitVec.toNat_and, BitVec.toNat_ofInt, h, Nat.and_two_pow_sub_one_eq_mod]
  show IntKind.i64.wrap ((BitVec.ofInt 64 n &&& BitVec.ofInt 64 3).toNat : Nat) = n % 4
  rw [key, IntKind.wrap_i64]
  omega
theorem wants_self {t : ByteArray} {x : StoredR} (h : x.stream = t) : wantsL t x = false := by
  unfold wantsL
  rw [h]
  cases h1 : isSys t with
  | true => simp
  | false =>
    have h2 : t.data.toList.take 4 ≠ ceP := fun q => by
      unfold isSys sysL at h1
      cases e : t.data.toList with
      | nil => rw [e] at q; cases q
      | cons b l =>
        rw [e] at q h1
        simp only [List.take_succ_cons, ceP, List.cons.injEq] at q
        rw [q.1] at h1
        simp [List.isPrefixOf] at h1
    have h3 : t.data.toList.take 4 ≠ etP := fun q => by
      unfold isSys sysL at h1
      cases e : t.data.toList with
      | nil => rw [e] at q; cases q
      | cons b l =>
        rw [e] at q h1
        simp only [List.take_succ_cons, etP, List.cons.injEq] at q
        rw [q.1] at h1
        simp [List.isPrefixOf] at h1
    rw [decide_eq_false h2, decide_eq_false h3]
    simp
theorem plain_one {s s' : MS} {t : ByteArray} {x : StoredR} (h : s'.all = s.all ++ [x]) (hx : x.stream = t) : plainL t s'.all = plainL t s.all := by
  rw [plain_app t h]
  unfold plainL
  rw [List.filter_cons, if_neg (by rw [wants_self hx]; simp), List.filter_nil, List.append_nil]
theorem do_eight (s : MS) (c : Cmd) : ∃ new, (s.do c).2.all = s.all ++ new ∧ new.length ≤ 8 := by
  obtain ⟨new, h1, h2, h3⟩ := do_more s c
  by_cases hc : c.check = 0
  · have := check_few hc
    exact ⟨new, h1, by omega⟩
  · refine ⟨[], ?_, by simp⟩
    unfold MS.do
    rw [if_pos hc, List.append_nil]
/-- A state with k links of a target, and at most B events that it wants. -/
structure LkS (s : MS) (t : ByteArray) (k B : Nat) : Prop where
  lk : Lk s t k
  neat : s.Neat
  cnt : (plainL t s.all).length ≤ B
theorem lks_new (t : ByteArray) : LkS MS.new t 0 0 := ⟨lk_new t, neat_new, Nat.le_refl _⟩
theorem LkS.other {s : MS} {t : ByteArray} {k B : Nat} (h : LkS s t k B) {c : Cmd} (hc : c.stream ≠ t) : LkS (s.do c).2 t k (B + 8) := by
  refine ⟨h.lk.other hc, neat_do h.neat c, ?_⟩
  obtain ⟨new, h1, h2⟩ := do_eight s c
  rw [plain_app t h1, List.length_append]
  have h3 : (plainL t new).length ≤ new.length := List.length_filter_le _ _
  have := h.cnt
  omega
theorem LkS.more {s : MS} {t : ByteArray} {k B B' : Nat} (h : LkS s t k B) (hb : B ≤ B') : LkS s t k B' := ⟨h.lk, h.neat, Nat.le_trans h.cnt hb⟩
theorem LkS.none {s : MS} {t : ByteArray} {k B : Nat} (h : LkS s t k B) (hs : s.all.length ≤ 1000000) (hn : s.nextC t = none) : k = (plainL t s.all).length := by
  rw [h.lk.next_eq hs] at hn
  have h1 := h.lk.few
  by_cases h2 : k < (plainL t s.all).length
  · rw [List.getElem?_eq_getElem h2] at hn
    cases hn
  · omega
theorem LkS.some {s : MS} {t : ByteArray} {k B : Nat} (h : LkS s t k B) (hs : s.all.length ≤ 900000) {c : Cmd} (hn : s.nextC t = some c) :
    k < B ∧ CmdOk c ∧ (∃ e, c.events = [e]) ∧ (s.do c).1 = ⟨0, k, s.all.length, false⟩ ∧ LkS (s.do c).2 t (k + 1) B ∧ ∃ pos, ((s.do c).2.do c).1 = ⟨0, k, pos, true⟩ ∧ LkS ((s.do c).2.do c).2 t (k + 1) B := by
  rw [h.lk.next_eq (by omega)] at hn
  have hlt : k < (plainL t s.all).length := by
    apply Classical.byContradiction
    intro q
    rw [List.getElem?_eq_none (by omega)] at hn
    cases hn
  obtain ⟨y, hy⟩ : ∃ y, (plainL t s.all)[k]? = Option.some y := ⟨_, List.getElem?_eq_getElem hlt⟩
  rw [hy] at hn
  injection hn with hn
  subst hn
  obtain ⟨h1, h2, x, h3, h4⟩ := h.lk.next (by omega) hy
  have hp := plain_one h3 h4
  have hl : (s.do (linkCmd t k y)).2.all.length ≤ 1000000 := by rw [h3, List.length_append]; simp; omega
  obtain ⟨pos, h5, h6, h7⟩ := h2.again hl (j := k) (by omega) (by rw [hp]; exact hy)
  have hn1 := neat_do h.neat (linkCmd t k y)
  have hym := (plain_mem (List.mem_iff_getElem?.2 ⟨k, hy⟩))
  have hnm := h.lk.chk (by omega) (Nat.le_refl k) hy
  have hv := h.lk.si.nth hym.1
  refine ⟨by have := h.cnt; omega, ⟨?_, ?_⟩, ⟨_, rfl⟩, h1, ⟨h2, hn1, by rw [hp]; exact h.cnt⟩, pos, h5, ⟨h6, neat_do hn1 _, by rw [h7, hp]; exact h.cnt⟩⟩
  · have : t.size ≤ 60 := (nameOk_size (check_name hnm (by simp [linkCmd]))).2
    show t.size ≤ maxLen
    unfold maxLen
    omega
  · intro e he
    have := (check_events hnm rfl) e he
    unfold EventR.ok at this
    simp only [linkCmd, List.mem_singleton] at he
    subst he
    have hd := linkData_size hv.1 (by omega) (h.neat y hym.1).1
    unfold maxLen
    refine ⟨?_, by show (linkData y.version y.stream).size ≤ _; omega⟩
    show (ba linkT).size ≤ _
    decide
end Go.Proofs.YtpcemipfanimgaaGreatDoor
/- LinkAlone, plain: one append to a state that has nothing. No program is named here. -/
set_option linter.unusedVariables false
set_option linter.unusedSimpArgs false
namespace Go.Proofs.YtpcemipfanimgaaGreatDoor
open Go Go.RowKit
def aloneEv (typ : ByteArray) (n : Nat) : List EventR := (List.range n).map fun (i : Nat) => ⟨(i : Int) + 1, typ, ⟨#[]⟩, 0⟩
def aloneC (stream typ : ByteArray) (n : Nat) : Cmd := ⟨1, 0, stream, -2, aloneEv typ n, MetaR.zero⟩
theorem aloneEv_succ (typ : ByteArray) (n : Nat) : aloneEv typ (n + 1) = aloneEv typ n ++ [⟨(n : Int) + 1, typ, ⟨#[]⟩, 0⟩] := by
  unfold aloneEv
  rw [List.range_succ, List.map_append]
  rfl
theorem aloneEv_len (typ : ByteArray) (n : Nat) : (aloneEv typ n).length = n := by
  unfold aloneEv
  rw [List.length_map, List.length_range]
theorem alone_do {stream typ : ByteArray} {n : Nat} (h : (MS.new.do (aloneC stream typ n)).1.err = 0) : (MS.new.do (aloneC stream typ n)).2.all = storedOf stream 0 (aloneEv typ n) 0 0 := by
  have hc : (aloneC stream typ n).check = 0 := by
    apply Classical.byContradiction
    intro q
    unfold MS.do at h
    rw [if_pos q] at h
    exact q h
  unfold MS.do
  rw [if_neg (by rw [hc]; decide)]
  rfl
theorem storedOf_typ (n : ByteArray) (now : Int) : ∀ (l : List EventR) (v p : Int) (t : ByteArray), (∀ e ∈ l, e.type = t) → ∀ x ∈ storedOf n now l v p, x.stream = n ∧ x.ev.type = t
  | [], _, _, _, _, x, h => by cases h
  | e :: l, v, p, t, ht, x, h => by
    simp only [storedOf, List.mem_cons] at h
    rcases h with rfl | h
    · exact ⟨rfl, ht e (by simp)⟩
    · exact storedOf_typ n now l _ _ t (fun e he => ht e (by simp [he])) x h
theorem storedOf_lenA (n : ByteArray) (now : Int) : ∀ (l : List EventR) (v p : Int), (storedOf n now l v p).length = l.length
  | [], _, _ => rfl
  | e :: l, v, p => by
    simp only [storedOf, List.length_cons]
    rw [storedOf_lenA n now l]
theorem aloneEv_typ (typ : ByteArray) (n : Nat) : ∀ e ∈ aloneEv typ n, e.type = typ := by
  intro e he
  obtain ⟨i, _, rfl⟩ := List.mem_map.1 he
  rfl
theorem wantsL_same {t : ByteArray} {x y : StoredR} (h1 : x.stream = y.stream) (h2 : x.ev.type = y.ev.type) : wantsL t x = wantsL t y := by
  unfold wantsL
  rw [h1, h2]
theorem rising_two {l T : List ByteArray} (hr : l.Pairwise (fun a b => a.data.toList < b.data.toList)) (hT : T.length ≤ 2) (hs : ∀ x ∈ l, x ∈ T) : l.length ≤ 2 := by
  match l, hr, hs with
  | [], _, _ => simp
  | [_], _, _ => simp
  | [_, _], _, _ => simp
  | a :: b :: c :: r, hr, hs =>
    exfalso
    rw [List.pairwise_cons, List.pairwise_cons] at hr
    have hab := hr.1 b (by simp)
    have hac := hr.1 c (by simp)
    have hbc := hr.2.1 c (by simp)
    have ha := hs a (by simp)
    have hb := hs b (by simp)
    have hc := hs c (by simp)
    have irr : ∀ z : ByteArray, ¬ z.data.toList < z.data.toList := fun z => List.lt_irrefl _
    match T, hT with
    | [], _ => cases ha
    | [p], _ =>
      rw [List.mem_singleton] at ha hb
      rw [ha, hb] at hab
      exact irr _ hab
    | [p, q], _ =>
      simp only [List.mem_cons, List.not_mem_nil, or_false] at ha hb hc
      rcases ha with ha | ha <;> rcases hb with hb | hb <;> rcases hc with hc | hc <;> subst ha <;> subst hb <;> subst hc <;> first | exact irr _ hab | exact irr _ hac | exact irr _ hbc
theorem alone_plain {stream typ : ByteArray} {n : Nat} (h1 : 1 ≤ n) (h8 : n ≤ 8) (h : (MS.new.do (aloneC stream typ n)).1.err = 0) :
    (targetsAll (MS.new.do (aloneC stream typ n)).2).length ≤ 2 ∧ ∀ t ∈ targetsAll (MS.new.do (aloneC stream typ n)).2, ((MS.new.do (aloneC stream typ n)).2.wanted t).length = n ∧ (MS.new.do (aloneC stream typ n)).2.reached t = 0 := by
  have hall := alone_do h
  have hlk := fun t (ht : stream ≠ t) => (lk_new t).other (c := aloneC stream typ n) ht
  obtain ⟨s, hs⟩ : ∃ s, (MS.new.do (aloneC stream typ n)).2 = s := ⟨_, rfl⟩
  rw [hs] at hall hlk ⊢
  have hsame := storedOf_typ stream 0 (aloneEv typ n) 0 0 typ (aloneEv_typ typ n)
  have hlen := storedOf_lenA stream 0 (aloneEv typ n) 0 0
  rw [aloneEv_len] at hlen
  rw [← hall] at hsame hlen
  constructor
  · cases hq : s.all with
    | nil => rw [hq] at hlen; simp at hlen; omega
    | cons x r =>
      have hx : x ∈ s.all := by rw [hq]; simp
      refine rising_two (targetsAll_rising s) (targetsOf_few x) (fun t ht => ?_)
      obtain ⟨y, hy, hw⟩ := (targetsAll_mem s t).1 ht
      have e := wantsL_same (t := t) (x := x) (y := y) ((hsame x hx).1.trans (hsame y hy).1.symm) ((hsame x hx).2.trans (hsame y hy).2.symm)
      rw [← e, ← wants_eq] at hw
      exact wantsT_iff.1 hw
  · intro t ht
    obtain ⟨y, hy, hw⟩ := (targetsAll_mem s t).1 ht
    have hne : stream ≠ t := by rw [← (hsame y hy).1]; exact (wantsL_sys hw).2.2.2
    have L := hlk t hne
    have hw2 := L.wanted_eq (by omega)
    have hr2 := L.reached_eq (by omega)
    refine ⟨?_, ?_⟩
    · rw [hw2, List.drop_zero]
      unfold plainL
      rw [List.filter_eq_self.2 (fun x hx => ?_)]
      · exact hlen
      · rw [wantsL_same ((hsame x hx).1.trans (hsame y hy).1.symm) ((hsame x hx).2.trans (hsame y hy).2.symm)]
        exact hw
    · rw [hr2]
      rfl
end Go.Proofs.YtpcemipfanimgaaGreatDoor
/- LinkRuns: the walk. -/
set_option linter.unusedVariables false
set_option linter.unusedSimpArgs false
namespace Go.Proofs.YtpcemipfanimgaaGreatDoor
open Go Go.RowKit Go.Sort
section
variable {w : World}
def dupX (k : Nat) (p : Int) (b : Bool) : Array Value := #[.int .i64 0, .int .i64 k, .int .i64 p, .bool b]
/-- In whatever order the two calls, their boxes and their stores come. -/
structure DupInv (a0 : World) (b e1 sb mb : Nat) (W0 : World) (AX AY : Array Value) (s0 s1 s2 : MS) (N : Nat) (A0 : Act) (f2 f5 f6 f7 f8 f9 : Bool) (ac : Act) (W : World) (v12 v13 v76 v79 : Value) (R : List Nat) : Prop where
  act : ac = (((A0.put (some 12) v12).put (some 13) v13).put (some 76) v76).put (some 79) v79
  has : HasS a0 W R [e1] sb mb (if f5 then s2 else if f2 then s1 else s0) (if f5 then N + 2 else if f2 then N + 1 else N)
  kept : Keeps a0 [b, e1] W0 W
  inR : b ∈ R
  h52 : f5 = true → f2 = true
  h2 : f2 = true → v76 = .agg AX
  h5 : f5 = true → v79 = .agg AY
  h6 : f6 = true → ∃ b3, v12 = .pointer (some ⟨b3, 0, none⟩) ∧ b3 ∈ R ∧ b3 ≠ b ∧ Blk W b3 43 (if f8 then AX else alX)
  h7 : f7 = true → ∃ b4, v13 = .pointer (some ⟨b4, 0, none⟩) ∧ b4 ∈ R ∧ b4 ≠ b ∧ Blk W b4 43 (if f9 then AY else alX)
  h67 : f6 = true → f7 = true → v12 ≠ v13
  h8 : f8 = true → f6 = true ∧ f5 = true
  h9 : f9 = true → f7 = true ∧ f8 = true
def DupI (a0 : World) (b e1 sb mb : Nat) (W0 : World) (AX AY : Array Value) (s0 s1 s2 : MS) (N : Nat) (A0 : Act) (listed : Array Bool) (ac : Act) (W : World) : Prop :=
  ∃ v12 v13 v76 v79 R, DupInv a0 b e1 sb mb W0 AX AY s0 s1 s2 N A0 (listed.getD 2 false) (listed.getD 5 false) (listed.getD 6 false) (listed.getD 7 false) (listed.getD 8 false) (listed.getD 9 false) ac W v12 v13 v76 v79 R
set_option maxRecDepth 100000 in
set_option maxHeartbeats 4000000 in
theorem runs_go (w : World) (hT : Tab w) (v1 v3 : Value) (l : List CmdV) (t : ByteArray) (ts : List Int) (hc : CmdsAt w w v1 l) (hts : Slc w 1 v3 ts.length (ints ts)) (ht : t.size ≤ maxLen) :
    Calls Tryz.prog 4 #[v1, .string t, v3] w fun e w' => e = .returned (.bool true) ∧ Only [] w w' := by
  have hsf := stF
  have hl0 := fun (W : World) (hW : Only [] w W) => light_any (hc.keep0 hW) 30 (by omega)
  obtain ⟨A1, cap1, rfl, hnc1, hcm1, hel1⟩ := hc.cells
  obtain ⟨A2, cap2, rfl, hnc2, hcm2, hel2⟩ := hts.openI
  unfold maxLen at hcm1 hcm2
  have ht' := ht
  unfold maxLen at ht'
  have HL1 := Lib.hid hl0
  have HA := Lib.hid (fun (W : World) (hW : Only [] w W) => alive25_any W (hT.only hW))
  clear hl0
  by_cases h60 : t.size > 60
  · go_enter Tryz.func4, Tryz.ntmps4
    go_wp2_with fail
    refine (HL1.out _ (Only.refl _ _)).mono ?_
    rintro e w1 ⟨⟨b1, rfl, hl1⟩, ho1⟩
    clear hl1
    cases b1
    · go_wp2_with (go_at_call 10; refine (HA.out _ ho1).mono ?_; rintro e w3 ⟨rfl, ho3⟩)
      go_ret
      exact ⟨rfl, ho1.trans ho3⟩
    · go_wp2_with (go_at_call 10; refine (HA.out _ ho1).mono ?_; rintro e w3 ⟨rfl, ho3⟩)
      go_ret
      exact ⟨rfl, ho1.trans ho3⟩
  by_cases hs60 : ts.length > 60
  · go_enter Tryz.func4, Tryz.ntmps4
    go_wp2_with fail
    refine (HL1.out _ (Only.refl _ _)).mono ?_
    rintro e w1 ⟨⟨b1, rfl, hl1⟩, ho1⟩
    clear hl1
    cases b1
    · go_wp2_with (go_at_call 10; refine (HA.out _ ho1).mono ?_; rintro e w3 ⟨rfl, ho3⟩)
      go_ret
      exact ⟨rfl, ho1.trans ho3⟩
    · go_wp2_with (go_at_call 10; refine (HA.out _ ho1).mono ?_; rintro e w3 ⟨rfl, ho3⟩)
      go_ret
      exact ⟨rfl, ho1.trans ho3⟩
  go_enter Tryz.func4, Tryz.ntmps4
  go_wp2_with fail
  refine (HL1.out _ (Only.refl _ _)).mono ?_
  rintro e w1 ⟨⟨b1, rfl, hl1⟩, ho1⟩
  cases b1
  · clear hl1
    go_wp2_with (go_at_call 10; refine (HA.out _ ho1).mono ?_; rintro e w3 ⟨rfl, ho3⟩)
    go_ret
    exact ⟨rfl, ho1.trans ho3⟩
  have hl30 : l.length ≤ 30 := hl1 rfl
  clear hl1
  go_wp2_with (go_at_call 14; refine (has_newS w _ ho1 [] (by simp)).mono ?_; rintro e w4 ⟨rfl, hh4, ho4⟩)
  obtain ⟨sb, hsb⟩ : ∃ sb, w1.heap.size + 1 = sb := ⟨_, rfl⟩
  obtain ⟨mb, hmb⟩ : ∃ mb, w1.heap.size = mb := ⟨_, rfl⟩
  rw [hsb, hmb] at hh4
  rw [hsb]
  clear hsb hmb HL1
  go_loopw [8] (fun s8 wr => ∃ (i k : Nat) (s : MS), i ≤ l.length ∧ s8 = .int .i64 i ∧ HasS w wr [] [] sb mb s (7 * i) ∧ Hid (LkS s t k (8 * i))) (fun s8 _ => l.length - (intOf s8).toNat)
  case atStart => exact ⟨0, 0, MS.new, Nat.zero_le _, rfl, hh4, Lib.hid (lks_new t)⟩
  case round =>
    obtain ⟨i, k, s, hi, rfl, hS, hL⟩ := hrel
    by_cases hlt : i < l.length
    · have hcell : ∀ b (h1 : b < w.heap.size) (i : Nat), wr.cell? ⟨b, i, none⟩ = w.cell? ⟨b, i, none⟩ := fun b h1 i => hS.only.cell h1 (by simp)
      obtain ⟨b, off, rfl, hbb, hba, hcc⟩ := hel1 i hlt
      obtain ⟨x, hx⟩ : ∃ x, l[i] = x := ⟨_, rfl⟩
      have hxm : x ∈ l := by rw [← hx]; exact List.getElem_mem hlt
      rw [hx] at hcc
      have hxo := (hc.cmd x hxm).1
      obtain ⟨Ax, capx, hxv, hx1, hx2, _⟩ := (hc.cmd x hxm).2.1.openE EventR.cells (fun _ => rfl)
      have c0 : wr.cell? ⟨b, off + i * 8, none⟩ = some (.int .i64 x.c.kind) := (hcell b hbb _).trans (hcc 0 (by omega))
      have c1 : wr.cell? ⟨b, off + i * 8 + 1, none⟩ = some (.int .i64 x.c.time) := (hcell b hbb _).trans (hcc 1 (by omega))
      have c2 : wr.cell? ⟨b, off + i * 8 + 2, none⟩ = some (.string x.c.stream) := (hcell b hbb _).trans (hcc 2 (by omega))
      have c3 : wr.cell? ⟨b, off + i * 8 + 3, none⟩ = some (.int .i64 x.c.expected) := (hcell b hbb _).trans (hcc 3 (by omega))
      have c4 : wr.cell? ⟨b, off + i * 8 + 4, none⟩ = some (.slice Ax x.c.events.length capx) := (hcell b hbb _).trans ((hcc 4 (by omega)).trans (by rw [← hxv]; rfl))
      have c5 : wr.cell? ⟨b, off + i * 8 + 5, none⟩ = some (.int .i64 x.c.mt.maxCount) := (hcell b hbb _).trans (hcc 5 (by omega))
      have c6 : wr.cell? ⟨b, off + i * 8 + 6, none⟩ = some (.int .i64 x.c.mt.maxAge) := (hcell b hbb _).trans (hcc 6 (by omega))
      have c7 : wr.cell? ⟨b, off + i * 8 + 7, none⟩ = some (.int .i64 x.c.mt.before) := (hcell b hbb _).trans (hcc 7 (by omega))
      have HSt := Lib.hid hS
      have hdo := has_do (c := x.c) hS (by omega) hxo ((hc.keep0 hS.only).ev hxm)
      rw [hxv] at hdo
      unfold Cmd.val at hdo
      have HD := Lib.hid hdo
      have HC := Lib.hid hc
      have HEl1 := Lib.hid hel1
      have HEl2 := Lib.hid hel2
      clear hcc hel1 hel2 hx hxv hdo hcell hS hc
      go_upto_if 46 with fail
      go_cut [] from 34 to 107 (fun wx => ∃ (k : Nat) (s : MS), Hid (HasS w wx [] [] sb mb s (7 * i + 1)) ∧ Hid (LkS s t k (8 * i + 8)))
      case first =>
        go_wp2_with (go_at_call 15; refine HD.out.mono ?_; rintro e w5 ⟨rfl, hS5, hk5⟩)
        · rename_i hq
          have HO := Lib.hid (hL.out.other (c := x.c) (fun q => by rw [q] at hq; simp at hq))
          go_meet
          exact ⟨k, _, Lib.hid hS5, HO⟩
        · rename_i hq
          go_meet
          exact ⟨k, s, Lib.hid (HSt.out.more (by omega)), Lib.hid (hL.out.more (by omega))⟩
      case rest =>
        obtain ⟨k, s, hS, hL⟩ := hcut
        clear HSt HD hxo hxm c0 c1 c2 c3 c4 c5 c6 c7 hx1 hx2
        go_upto_if 56 with fail
        go_cut [9] from 34 to 107 (fun s9 wx => ∃ n : Nat, n ≤ 3 ∧ s9 = .int .i64 n ∧ wc = wx)
        case first =>
          by_cases hw : i < ts.length
          · obtain ⟨b2, off2, rfl, hb2, hcc2⟩ := HEl2.out i hw
            obtain ⟨z, hz⟩ : ∃ z, ts[i] = z := ⟨_, rfl⟩
            rw [hz] at hcc2
            have c0 := (hS.out.only.cell hb2 (by simp)).trans hcc2
            obtain ⟨n, hn⟩ : ∃ n : Int, bits .and .i64 z 3 = n := ⟨_, rfl⟩
            have hn0 : 0 ≤ n ∧ n ≤ 3 := by rw [← hn, and3]; omega
            have hzw : decide ((i : Int) < (ts.length : Int)) = true := decide_eq_true (by omega)
            clear hz hcc2
            go_wp2_with fail
            go_meet
            exact ⟨n.toNat, by omega, by rw [Int.toNat_of_nonneg hn0.1], rfl⟩
          · have hzw : decide ((i : Int) < (ts.length : Int)) = false := decide_eq_false (by omega)
            go_wp2_with fail
            go_meet
            exact ⟨1, by omega, rfl, rfl⟩
        case rest =>
          obtain ⟨n0, hn0, rfl, rfl⟩ := hcut
          clear HEl1 HEl2
          go_wp2_with fail
          go_loopw [9] (fun s9 wr => ∃ (n k : Nat) (s : MS), n ≤ 3 ∧ s9 = .int .i64 n ∧ HasS w wr [] [] sb mb s (7 * i + 7 - 2 * n) ∧ Hid (LkS s t k (8 * i + 8))) (fun s9 _ => (intOf s9).toNat)
          case atStart => exact ⟨n0, k, s, hn0, rfl, hS.out.more (by omega), hL⟩
          case round =>
            clear hS hL
            obtain ⟨n, k, s, hn, rfl, hS, hL⟩ := hrel
            have hlen : s.all.length ≤ 900000 := by have := hS.ok.all; omega
            have HLk := Lib.hid (fun (W : World) (hW : Only [] wr W) => links_any (hS.keep hW) (by omega) hL.out.neat ht hL.out.lk)
            have e1 := IntWalk.i64_in ((i : Int) + 1) ⟨by omega, by omega⟩
            by_cases h0 : 0 < n
            · have hgt : decide ((n : Int) > 0) = true := decide_eq_true (by omega)
              have hnx := next_any hS (by omega) hL.out.neat (hT.only hS.only) t ht
              cases hx : s.nextC t with
              | none =>
                rw [hx] at hnx
                unfold nextV cmd0 at hnx
                have HN := Lib.hid hnx
                clear hnx hx
                go_wp2_with (first
                  | (go_at_call 16; refine HN.out.mono ?_; rintro e w5 ⟨rfl, ho5⟩
                     have hO5 := ho5.alloc (.cells #[.int .i64 0, .int .i64 0, .string ⟨#[]⟩, .int .i64 0, .slice none 0 0, .int .i64 0, .int .i64 0, .int .i64 0] 40))
                  | (go_at_call 17; (have hh := HLk); clear HLk; refine (hh.out _ hO5).mono ?_; rintro e w6 ⟨rfl, ho6⟩))
                have h9 := hS.keep (hO5.trans ho6)
                exact ⟨⟨i + 1, k, s, by omega, by simp [e1], h9.more (by omega), Lib.hid (hL.out.more (by omega))⟩, by simp [e1, intOf]; omega⟩
              | some c =>
                clear HLk
                obtain ⟨hkB, hcok, _, hd1, hL1, pos, hd2, hL2⟩ := hL.out.some hlen hx
                rw [hx] at hnx
                unfold nextV at hnx
                obtain ⟨s1, hs1⟩ : ∃ s1, (s.do c).2 = s1 := ⟨_, rfl⟩
                rw [hs1] at hd2 hL2 hL1
                obtain ⟨s2, hs2⟩ : ∃ s2, (s1.do c).2 = s2 := ⟨_, rfl⟩
                rw [hs2] at hL2
                have hD1 : ∀ (W : World) (R : List Nat) (g : Nat) (ev : EventR), c.events = [ev] → HasS w W R [g] sb mb s (7 * i + 7 - 2 * n) → Blk W g 24 #[.int .i64 ev.id, .string ev.type, .string ev.data, .float .f64 ev.value] → Calls Tryz.prog 15 #[.pointer (some ⟨sb, 0, none⟩), c.val (.slice (some ⟨g, 0, none⟩) 1 1)] W fun e W' => e = .returned (.agg (dupX k s.all.length false)) ∧ HasS w W' R [g] sb mb s1 (7 * i + 7 - 2 * n + 1) ∧ Keeps w (R ++ [g]) W W' := fun W R g ev hev h he => by
                  have := has_do h (by omega) hcok (by rw [hev]; exact ev_in (e := ev) he (by simp))
                  rw [hd1, hs1] at this
                  exact this
                have hD2 : ∀ (W : World) (R : List Nat) (g : Nat) (ev : EventR), c.events = [ev] → HasS w W R [g] sb mb s1 (7 * i + 7 - 2 * n + 1) → Blk W g 24 #[.int .i64 ev.id, .string ev.type, .string ev.data, .float .f64 ev.value] → Calls Tryz.prog 15 #[.pointer (some ⟨sb, 0, none⟩), c.val (.slice (some ⟨g, 0, none⟩) 1 1)] W fun e W' => e = .returned (.agg (dupX k pos true)) ∧ HasS w W' R [g] sb mb s2 (7 * i + 7 - 2 * n + 2) ∧ Keeps w (R ++ [g]) W W' := fun W R g ev hev h he => by
                  have := has_do h (by omega) hcok (by rw [hev]; exact ev_in (e := ev) he (by simp))
                  rw [hd2, hs2] at this
                  exact this
                unfold Cmd.val at hnx hD1 hD2
                have HN := Lib.hid hnx
                have HD1 := Lib.hid hD1
                have HD2 := Lib.hid hD2
                have HL2 := Lib.hid hL2
                have HSt := Lib.hid hS
                have hNN : 7 * i + 7 - 2 * n + 1 ≤ 100000 := by omega
                have e3 := IntWalk.i64_in ((n : Int) - 1) ⟨by omega, by omega⟩
                clear hnx hx hD1 hD2 hL2 hL1 hd1 hd2 hs1 hs2 hL hlen hcok hS
                go_wp2_with (go_at_call 16; refine HN.out.mono ?_; rintro e w5 ⟨⟨b5, rfl, hb5, ev5, hev5, hE5⟩, ho5⟩)
                have h1 := (HSt.out.addE ho5 hb5 hE5.lt).boxR (.cells #[.int .i64 c.kind, .int .i64 c.time, .string c.stream, .int .i64 c.expected, .slice (some ⟨b5, 0, none⟩) 1 1, .int .i64 c.mt.maxCount, .int .i64 c.mt.maxAge, .int .i64 c.mt.before] 40)
                have hE6 := ((Only.refl [] w5).alloc (.cells #[.int .i64 c.kind, .int .i64 c.time, .string c.stream, .int .i64 c.expected, .slice (some ⟨b5, 0, none⟩) 1 1, .int .i64 c.mt.maxCount, .int .i64 c.mt.maxAge, .int .i64 c.mt.before] 40)).blk hE5 (by simp)
                have hB0 := Blk.new w5 40 #[.int .i64 c.kind, .int .i64 c.time, .string c.stream, .int .i64 c.expected, .slice (some ⟨b5, 0, none⟩) 1 1, .int .i64 c.mt.maxCount, .int .i64 c.mt.maxAge, .int .i64 c.mt.before]
                obtain ⟨W6, hW6⟩ : ∃ W6, w5.alloc (.cells #[.int .i64 c.kind, .int .i64 c.time, .string c.stream, .int .i64 c.expected, .slice (some ⟨b5, 0, none⟩) 1 1, .int .i64 c.mt.maxCount, .int .i64 c.mt.maxAge, .int .i64 c.mt.before] 40) = W6 := ⟨_, rfl⟩
                rw [hW6] at h1 hE6 hB0 ⊢
                obtain ⟨g6, hg6⟩ : ∃ g6, w5.heap.size = g6 := ⟨_, rfl⟩
                rw [hg6] at h1 hB0 ⊢
                clear hW6 hg6 ho5 hE5 hb5
                have c0 := Kept.cell (a := w) (R := [g6, b5]) (hB0.cell 0) (.inr (by simp))
                have c1 := Kept.cell (a := w) (R := [g6, b5]) (hB0.cell 1) (.inr (by simp))
                have c2 := Kept.cell (a := w) (R := [g6, b5]) (hB0.cell 2) (.inr (by simp))
                have c3 := Kept.cell (a := w) (R := [g6, b5]) (hB0.cell 3) (.inr (by simp))
                have c4 := Kept.cell (a := w) (R := [g6, b5]) (hB0.cell 4) (.inr (by simp))
                have c5 := Kept.cell (a := w) (R := [g6, b5]) (hB0.cell 5) (.inr (by simp))
                have c6 := Kept.cell (a := w) (R := [g6, b5]) (hB0.cell 6) (.inr (by simp))
                have c7 := Kept.cell (a := w) (R := [g6, b5]) (hB0.cell 7) (.inr (by simp))
                --DUP
                refine wp_region_inv2 (C := fun W => ∃ p : Kept w [g6, b5] W6, W = p.W) [0, 1, 3, 4] [2, 5, 6, 7, 8, 9] (by kernel_rfl) (by kernel_rfl) (by intro c d u a w h; cases d <;> exact h) ⟨⟨_, (Keeps.refl _ _ _).drew⟩, rfl⟩ ?_
                show wpQuiet _ _ _ _ [_, _, _, _] _
                repeat (go_big_quiet_step (fail))
                refine wpQuiet_nil ?_
                clear c0 c1 c2 c3 c4 c5 c6 c7
                refine inv_intro_k (DupI w g6 b5 sb mb W6 (dupX k s.all.length false) (dupX k pos true) s s1 s2 (7 * i + 7 - 2 * n)) ?_ ?_ ?_
                · refine ⟨u12, u13, u76, u79, [g6], rfl, ?_, (Keeps.refl _ _ _).drew, by simp, ?_, ?_, ?_, ?_, ?_, ?_, ?_, ?_⟩
                  · exact h1.keep (Only.refl _ _).drew
                  all_goals (intro q; first | (exfalso; revert q; decide) | skip)
                · intro i2 hi listed ac W hr hI K HK
                  obtain ⟨v12, v13, v76, v79, R, hA⟩ := hI
                  have hself := ready_self hr
                  have hset := flag_set hself.2
                  obtain ⟨rfl, hhas, hkept, hinR, h52, h2, h5, h6, h7, h67, h8, h9⟩ := hA
                  have hE := hkept.blk hE6 (.inr (by simp))
                  simp only [List.mem_cons, List.not_mem_nil, or_false] at hi
                  unfold DupI at HK
                  have H2 := Lib.hid h2
                  have H5 := Lib.hid h5
                  have H6 := Lib.hid h6
                  have H7 := Lib.hid h7
                  have H67 := Lib.hid h67
                  have H8 := Lib.hid h8
                  have H9 := Lib.hid h9
                  have H52 := Lib.hid h52
                  have HSET := Lib.hid hset
                  clear h2 h5 h6 h7 h67 h8 h9 h52 hset
                  rcases hi with rfl | rfl | rfl | rfl | rfl | rfl
                  · have l5 : listed.getD 5 false = false := by
                      cases q : listed.getD 5 false
                      · rfl
                      · have := H52.out q
                        rw [hself.1] at this; cases this
                    have L5 := Lib.hid l5
                    rw [hself.1, l5] at hhas
                    have HD := Lib.hid (HD1.out _ _ _ _ hev5 hhas hE)
                    have hk := HK.out
                    rw [HSET.out 2, HSET.out 5, HSET.out 6, HSET.out 7, HSET.out 8, HSET.out 9] at hk
                    clear HK
                    have HK := Lib.hid hk
                    clear hk
                    clear hhas l5 hself
                    show wpList _ _ _ [_] _ _
                    go_frame
                    go_wp2_with (go_at_call 15; refine HD.out.mono ?_; rintro e W' ⟨rfl, hhas', hk'⟩)
                    have hk2 := hk'.less (R' := [g6, b5]) (by simp [hinR])
                    refine check_kept (hkept.trans hk2) (HK.out _ _ ⟨v12, v13, _, v79, R, rfl, ?_, hkept.trans hk2, hinR, fun _ => rfl, fun _ => rfl, H5.out, fun q => ?_, fun q => ?_, H67.out, H8.out, H9.out⟩)
                    · show HasS _ _ _ _ _ _ (if listed.getD 5 false = true then _ else _) (if listed.getD 5 false = true then _ else _)
                      rw [L5.out]
                      exact hhas'
                    · obtain ⟨b3, q1, q2, q3, q4⟩ := H6.out q
                      exact ⟨b3, q1, q2, q3, hk'.blk q4 (.inr (by simp [q2]))⟩
                    · obtain ⟨b4, q1, q2, q3, q4⟩ := H7.out q
                      exact ⟨b4, q1, q2, q3, hk'.blk q4 (.inr (by simp [q2]))⟩
                  · have L2 := Lib.hid (ready_dep hr 2 (by kernel_rfl))
                    rw [L2.out, hself.1] at hhas
                    have HD := Lib.hid (HD2.out _ _ _ _ hev5 hhas hE)
                    have hk := HK.out
                    rw [HSET.out 2, HSET.out 5, HSET.out 6, HSET.out 7, HSET.out 8, HSET.out 9] at hk
                    clear HK
                    have HK := Lib.hid hk
                    clear hk
                    clear hhas hself
                    show wpList _ _ _ [_] _ _
                    go_frame
                    go_wp2_with (go_at_call 15; refine HD.out.mono ?_; rintro e W' ⟨rfl, hhas', hk'⟩)
                    have hk2 := hk'.less (R' := [g6, b5]) (by simp [hinR])
                    refine check_kept (hkept.trans hk2) (HK.out _ _ ⟨v12, v13, v76, _, R, rfl, hhas', hkept.trans hk2, hinR, fun _ => L2.out, H2.out, fun _ => rfl, fun q => ?_, fun q => ?_, H67.out, fun q => ⟨(H8.out q).1, rfl⟩, H9.out⟩)
                    · obtain ⟨b3, q1, q2, q3, q4⟩ := H6.out q
                      exact ⟨b3, q1, q2, q3, hk'.blk q4 (.inr (by simp [q2]))⟩
                    · obtain ⟨b4, q1, q2, q3, q4⟩ := H7.out q
                      exact ⟨b4, q1, q2, q3, hk'.blk q4 (.inr (by simp [q2]))⟩
                  · have hk := HK.out
                    rw [HSET.out 2, HSET.out 5, HSET.out 6, HSET.out 7, HSET.out 8, HSET.out 9] at hk
                    clear HK
                    have HK := Lib.hid hk
                    clear hk
                    have L8 : Hid (listed.getD 8 false = false) := by
                      unfold Hid
                      cases q : listed.getD 8 false
                      · rfl
                      · have := (H8.out q).1
                        rw [hself.1] at this
                        cases this
                    have hlt := (hhas.rl _ hinR).2.1
                    have hb := Lib.hid (hhas.boxR (.cells alX 43))
                    have ho := (Only.refl [] W).alloc (.cells alX 43)
                    have hnew : ∀ b4, b4 ∈ R → W.heap.size ≠ b4 := fun b4 q => by have := (hhas.rl _ q).2.1; omega
                    clear hhas hself
                    show wpList _ _ _ [_] _ _
                    go_frame
                    go_wp2_with fail
                    refine check_kept (hkept.then0 ho) (HK.out _ _ ⟨_, v13, v76, v79, W.heap.size :: R, rfl, hb.out, hkept.then0 ho, List.mem_cons_of_mem _ hinR, H52.out, H2.out, H5.out, fun _ => ⟨_, rfl, by simp, by omega, ?_⟩, fun q => ?_, fun _ q => ?_, fun q => ⟨rfl, (H8.out q).2⟩, H9.out⟩)
                    · show Blk _ _ _ (if listed.getD 8 false = true then _ else _)
                      rw [L8.out]
                      exact Blk.new W _ _
                    · obtain ⟨b4, q1, q2, q3, q4⟩ := H7.out q
                      exact ⟨b4, q1, List.mem_cons_of_mem _ q2, q3, ho.blk q4 (by simp)⟩
                    · obtain ⟨b4, q1, q2, q3, q4⟩ := H7.out q
                      rw [q1]
                      intro e
                      injection e with e
                      injection e with e
                      injection e with e
                      exact hnew b4 q2 e
                  · have hk := HK.out
                    rw [HSET.out 2, HSET.out 5, HSET.out 6, HSET.out 7, HSET.out 8, HSET.out 9] at hk
                    clear HK
                    have HK := Lib.hid hk
                    clear hk
                    have L9 : Hid (listed.getD 9 false = false) := by
                      unfold Hid
                      cases q : listed.getD 9 false
                      · rfl
                      · have := (H9.out q).1
                        rw [hself.1] at this
                        cases this
                    have hlt := (hhas.rl _ hinR).2.1
                    have hb := Lib.hid (hhas.boxR (.cells alX 43))
                    have ho := (Only.refl [] W).alloc (.cells alX 43)
                    have hnew : ∀ b4, b4 ∈ R → b4 ≠ W.heap.size := fun b4 q => by have := (hhas.rl _ q).2.1; omega
                    clear hhas hself
                    show wpList _ _ _ [_] _ _
                    go_frame
                    go_wp2_with fail
                    refine check_kept (hkept.then0 ho) (HK.out _ _ ⟨v12, _, v76, v79, W.heap.size :: R, rfl, hb.out, hkept.then0 ho, List.mem_cons_of_mem _ hinR, H52.out, H2.out, H5.out, fun q => ?_, fun _ => ⟨_, rfl, by simp, by omega, ?_⟩, fun q _ => ?_, H8.out, fun q => ⟨rfl, (H9.out q).2⟩⟩)
                    · obtain ⟨b4, q1, q2, q3, q4⟩ := H6.out q
                      exact ⟨b4, q1, List.mem_cons_of_mem _ q2, q3, ho.blk q4 (by simp)⟩
                    · show Blk _ _ _ (if listed.getD 9 false = true then _ else _)
                      rw [L9.out]
                      exact Blk.new W _ _
                    · obtain ⟨b4, q1, q2, q3, q4⟩ := H6.out q
                      rw [q1]
                      intro e
                      injection e with e
                      injection e with e
                      injection e with e
                      exact hnew b4 q2 e
                  · have L6 := Lib.hid (ready_dep hr 6 (by kernel_rfl))
                    have L2 := Lib.hid (ready_dep hr 2 (by kernel_rfl))
                    have L5 := Lib.hid (ready_dep hr 5 (by kernel_rfl))
                    have L7 := Lib.hid (ready_dep hr 7 (by kernel_rfl))
                    obtain ⟨b3, rfl, q2, q3, q4⟩ := H6.out L6.out
                    obtain rfl := H2.out L2.out
                    rw [hself.1] at q4
                    have q4 : Blk W b3 43 alX := q4
                    have d1 := fun i => q4.cell i
                    have d2 := fun i => q4.free i
                    have hst := fun u v x y => (((hhas.setCell (p := ⟨b3, 0, none⟩) q2 u).setCell (p := ⟨b3, 1, none⟩) q2 v).setCell (p := ⟨b3, 2, none⟩) q2 x).setCell (p := ⟨b3, 3, none⟩) q2 y
                    have hbg := (hhas.rl b3 q2)
                    have hnE : b3 ∉ [g6, b5] := by simp; exact ⟨q3, by simpa using hbg.2.2⟩
                    have hOs := fun u v x y => ((((Only.refl [b3] W).setCell (p := ⟨b3, 0, none⟩) (.inl (by simp)) u).setCell (p := ⟨b3, 1, none⟩) (.inl (by simp)) v).setCell (p := ⟨b3, 2, none⟩) (.inl (by simp)) x).setCell (p := ⟨b3, 3, none⟩) (.inl (by simp)) y
                    have hKs := fun u v x y => (((hkept.setCell (p := ⟨b3, 0, none⟩) ⟨hbg.1, hnE⟩ u).setCell (p := ⟨b3, 1, none⟩) ⟨hbg.1, hnE⟩ v).setCell (p := ⟨b3, 2, none⟩) ⟨hbg.1, hnE⟩ x).setCell (p := ⟨b3, 3, none⟩) ⟨hbg.1, hnE⟩ y
                    have hBs := fun u v x y => (((q4.set 0 u).set 1 v).set 2 x).set 3 y
                    have hk := HK.out
                    rw [HSET.out 2, HSET.out 5, HSET.out 6, HSET.out 7, HSET.out 8, HSET.out 9] at hk
                    clear HK
                    have HK := Lib.hid hk
                    clear hk
                    have HB := Lib.hid hBs
                    have HKs := Lib.hid hKs
                    have HS := Lib.hid hst
                    clear hhas hself hBs hKs hst
                    try simp only [Array.getD_eq_getD_getElem?] at HK
                    try simp only [Array.getD_eq_getD_getElem?] at H52
                    try simp only [Array.getD_eq_getD_getElem?] at H67
                    try simp only [Array.getD_eq_getD_getElem?] at H8
                    try simp only [Array.getD_eq_getD_getElem?] at H9
                    try simp only [Array.getD_eq_getD_getElem?] at L5
                    try simp only [Array.getD_eq_getD_getElem?] at L6
                    try simp only [Array.getD_eq_getD_getElem?] at L7
                    try simp only [Array.getD_eq_getD_getElem?] at HS
                    try simp only [Array.getD_eq_getD_getElem?] at H2
                    try simp only [Array.getD_eq_getD_getElem?] at H5
                    try simp only [Array.getD_eq_getD_getElem?] at H6
                    try simp only [Array.getD_eq_getD_getElem?] at H7
                    try simp only [Array.getD_eq_getD_getElem?] at L8
                    unfold alX at d1
                    unfold dupX
                    show wpList _ _ _ [_] _ _
                    go_frame
                    go_wp2_with fail
                    refine check_kept (HKs.out _ _ _ _) (HK.out _ _ ⟨_, v13, _, v79, R, rfl, HS.out _ _ _ _, HKs.out _ _ _ _, hinR, H52.out, fun _ => rfl, H5.out, fun _ => ⟨b3, rfl, q2, q3, HB.out _ _ _ _⟩, fun q => ?_, H67.out, fun _ => ⟨L6.out, L5.out⟩, fun q => ⟨L7.out, rfl⟩⟩)
                    obtain ⟨b4, r1, r2, r3, r4⟩ := H7.out q
                    refine ⟨b4, r1, r2, r3, (hOs _ _ _ _).blk r4 ?_⟩
                    have := H67.out L6.out L7.out
                    rw [r1] at this
                    simp
                    intro e
                    exact this (by rw [e])
                  · have L7 := Lib.hid (ready_dep hr 7 (by kernel_rfl))
                    have L8 := Lib.hid (ready_dep hr 8 (by kernel_rfl))
                    have L5 := Lib.hid (ready_dep hr 5 (by kernel_rfl))
                    have L6 := Lib.hid (ready_dep hr 6 (by kernel_rfl))
                    obtain ⟨b4, rfl, q2, q3, q4⟩ := H7.out L7.out
                    obtain rfl := H5.out L5.out
                    rw [hself.1] at q4
                    have q4 : Blk W b4 43 alX := q4
                    have d1 := fun i => q4.cell i
                    have d2 := fun i => q4.free i
                    have hst := fun u v x y => (((hhas.setCell (p := ⟨b4, 0, none⟩) q2 u).setCell (p := ⟨b4, 1, none⟩) q2 v).setCell (p := ⟨b4, 2, none⟩) q2 x).setCell (p := ⟨b4, 3, none⟩) q2 y
                    have hbg := (hhas.rl b4 q2)
                    have hnE : b4 ∉ [g6, b5] := by simp; exact ⟨q3, by simpa using hbg.2.2⟩
                    have hOs := fun u v x y => ((((Only.refl [b4] W).setCell (p := ⟨b4, 0, none⟩) (.inl (by simp)) u).setCell (p := ⟨b4, 1, none⟩) (.inl (by simp)) v).setCell (p := ⟨b4, 2, none⟩) (.inl (by simp)) x).setCell (p := ⟨b4, 3, none⟩) (.inl (by simp)) y
                    have hKs := fun u v x y => (((hkept.setCell (p := ⟨b4, 0, none⟩) ⟨hbg.1, hnE⟩ u).setCell (p := ⟨b4, 1, none⟩) ⟨hbg.1, hnE⟩ v).setCell (p := ⟨b4, 2, none⟩) ⟨hbg.1, hnE⟩ x).setCell (p := ⟨b4, 3, none⟩) ⟨hbg.1, hnE⟩ y
                    have hBs := fun u v x y => (((q4.set 0 u).set 1 v).set 2 x).set 3 y
                    have hk := HK.out
                    rw [HSET.out 2, HSET.out 5, HSET.out 6, HSET.out 7, HSET.out 8, HSET.out 9] at hk
                    clear HK
                    have HK := Lib.hid hk
                    clear hk
                    have HB := Lib.hid hBs
                    have HKs := Lib.hid hKs
                    have HS := Lib.hid hst
                    clear hhas hself hBs hKs hst
                    try simp only [Array.getD_eq_getD_getElem?] at HK
                    try simp only [Array.getD_eq_getD_getElem?] at H52
                    try simp only [Array.getD_eq_getD_getElem?] at H67
                    try simp only [Array.getD_eq_getD_getElem?] at H8
                    try simp only [Array.getD_eq_getD_getElem?] at H9
                    try simp only [Array.getD_eq_getD_getElem?] at L5
                    try simp only [Array.getD_eq_getD_getElem?] at L6
                    try simp only [Array.getD_eq_getD_getElem?] at L7
                    try simp only [Array.getD_eq_getD_getElem?] at HS
                    try simp only [Array.getD_eq_getD_getElem?] at H2
                    try simp only [Array.getD_eq_getD_getElem?] at H5
                    try simp only [Array.getD_eq_getD_getElem?] at H6
                    try simp only [Array.getD_eq_getD_getElem?] at H7
                    try simp only [Array.getD_eq_getD_getElem?] at L8
                    unfold alX at d1
                    unfold dupX
                    show wpList _ _ _ [_] _ _
                    go_frame
                    go_wp2_with fail
                    refine check_kept (HKs.out _ _ _ _) (HK.out _ _ ⟨v12, _, v76, _, R, rfl, HS.out _ _ _ _, HKs.out _ _ _ _, hinR, H52.out, H2.out, fun _ => rfl, fun q => ?_, fun _ => ⟨b4, rfl, q2, q3, HB.out _ _ _ _⟩, H67.out, H8.out, fun q => ⟨L7.out, L8.out⟩⟩)
                    obtain ⟨b3, r1, r2, r3, r4⟩ := H6.out q
                    refine ⟨b3, r1, r2, r3, (hOs _ _ _ _).blk r4 ?_⟩
                    have := H67.out L6.out L7.out
                    rw [r1] at this
                    simp
                    intro e
                    exact this (by rw [e])
                --PUD
                · intro listed ac W hI hall
                  obtain ⟨v12, v13, v76, v79, R, hA⟩ := hI
                  rw [hall 2 (by simp), hall 5 (by simp), hall 6 (by simp), hall 7 (by simp), hall 8 (by simp), hall 9 (by simp)] at hA
                  obtain ⟨rfl, hhas, hkept, hinR, _, h2, h5, h6, h7, _, _, _⟩ := hA
                  obtain ⟨b3, rfl, p2, p3, p4⟩ := h6 rfl
                  obtain ⟨b4, rfl, q2, q3, q4⟩ := h7 rfl
                  obtain rfl := h2 rfl
                  obtain rfl := h5 rfl
                  have hhas : HasS w W R [b5] sb mb s2 (7 * i + 7 - 2 * n + 2) := hhas
                  have p4 : Blk W b3 43 (dupX k s.all.length false) := p4
                  have q4 : Blk W b4 43 (dupX k pos true) := q4
                  have H9 := Lib.hid ((hhas.less (R' := []) (E' := []) (by simp) (by simp)).more (N' := 7 * i + 7 - 2 * (n - 1)) (by omega))
                  clear h2 h5 h6 h7 hall
                  go_frame
                  unfold dupX at p4 q4
                  have e5 := fun i => p4.cell i
                  have e6 := fun i => q4.cell i
                  go_wp2_with fail
                  have e4 : (n : Int) - 1 = ((n - 1 : Nat) : Int) := by omega
                  rw [e4]
                  exact ⟨⟨n - 1, k + 1, s2, by omega, rfl, H9.out, HL2⟩, by simp only [intOf]; omega⟩
            · have hgt : decide ((n : Int) > 0) = false := decide_eq_false (by omega)
              go_wp2_with (go_at_call 17; (have hh := HLk); clear HLk; refine (hh.out _ (Only.refl _ _)).mono ?_; rintro e w6 ⟨rfl, ho6⟩)
              have h9 := hS.keep ho6
              exact ⟨⟨i + 1, k, s, by omega, by simp [e1], h9.more (by omega), Lib.hid (hL.out.more (by omega))⟩, by simp [e1, intOf]; omega⟩
    · have hS' := hS.more (N' := 210) (by omega)
      have hL' := Lib.hid (hL.out.more (B' := 240) (by omega))
      clear hS hL hel1 hel2 hc
      go_wp2_with fail
      go_loopw [14] (fun s14 wr => ∃ (n k : Nat) (s : MS), n ≤ 300 ∧ s14 = .int .i64 n ∧ HasS w wr [] [] sb mb s (210 + n) ∧ Hid (LkS s t k 240) ∧ n ≤ k) (fun s14 _ => 300 - (intOf s14).toNat)
      case atStart => exact ⟨0, k, s, by omega, rfl, hS', hL', Nat.zero_le _⟩
      case round =>
        clear hS' hL'
        obtain ⟨n, k, s, hn, rfl, hS, hL, hnk⟩ := hrel
        have hlen : s.all.length ≤ 900000 := by have := hS.ok.all; omega
        have hk240 : k ≤ 240 := Nat.le_trans hL.out.lk.few hL.out.cnt
        have hlt3 : decide ((n : Int) < 300) = true := decide_eq_true (by omega)
        have e1 := IntWalk.i64_in ((n : Int) + 1) ⟨by omega, by omega⟩
        have hnx := next_any hS (by omega) hL.out.neat (hT.only hS.only) t ht
        cases hx : s.nextC t with
        | none =>
          have hkl := hL.out.none (by omega) hx
          have hlg := fun (W : World) (hW : Only [] wr W) => lags_any (hS.keep hW) (by omega) hL.out.neat t
          rw [hL.out.lk.wanted_eq (by omega), List.length_drop, ← hkl, Nat.sub_self] at hlg
          have HLk := Lib.hid (fun (W : World) (hW : Only [] wr W) => links_any (hS.keep hW) (by omega) hL.out.neat ht hL.out.lk)
          have HLg := Lib.hid hlg
          rw [hx] at hnx
          unfold nextV cmd0 at hnx
          have HN := Lib.hid hnx
          clear hnx hx hlg hkl
          go_wp2_with (first
            | (go_at_call 16; refine HN.out.mono ?_; rintro e w5 ⟨rfl, ho5⟩
               have hO5 := ho5.alloc (.cells #[.int .i64 0, .int .i64 0, .string ⟨#[]⟩, .int .i64 0, .slice none 0 0, .int .i64 0, .int .i64 0, .int .i64 0] 40))
            | (go_at_call 10; refine (HA.out _ (hS.only.trans hO5)).mono ?_; rintro e w6 ⟨rfl, ho6⟩
               have hO6 := hO5.trans ho6)
            | (go_at_call 17; (have hh := HLk); clear HLk; refine (hh.out _ hO6).mono ?_; rintro e w7 ⟨rfl, ho7⟩
               have hO7 := hO6.trans ho7)
            | (go_at_call 18; (have hh := HLg); clear HLg; refine (hh.out _ hO7).mono ?_; rintro e w8 ⟨rfl, ho8⟩))
          go_ret
          exact ⟨rfl, hS.only.trans (hO7.trans ho8)⟩
        | some c =>
          obtain ⟨hkB, hcok, _, hd1, hL1, _⟩ := hL.out.some hlen hx
          rw [hx] at hnx
          unfold nextV at hnx
          obtain ⟨s1, hs1⟩ : ∃ s1, (s.do c).2 = s1 := ⟨_, rfl⟩
          rw [hs1] at hL1
          have hD1 : ∀ (W : World) (R : List Nat) (g : Nat) (ev : EventR), c.events = [ev] → HasS w W R [g] sb mb s (210 + n) → Blk W g 24 #[.int .i64 ev.id, .string ev.type, .string ev.data, .float .f64 ev.value] → Calls Tryz.prog 15 #[.pointer (some ⟨sb, 0, none⟩), c.val (.slice (some ⟨g, 0, none⟩) 1 1)] W fun e W' => e = .returned (.agg #[.int .i64 0, .int .i64 k, .int .i64 s.all.length, .bool false]) ∧ HasS w W' R [g] sb mb s1 (210 + n + 1) ∧ Keeps w (R ++ [g]) W W' := fun W R g ev hev h he => by
            have := has_do h (by omega) hcok (by rw [hev]; exact ev_in (e := ev) he (by simp))
            rw [hd1, hs1] at this
            exact this
          unfold Cmd.val at hnx hD1
          have HN := Lib.hid hnx
          have HD1 := Lib.hid hD1
          have HL1 := Lib.hid hL1
          have HSt := Lib.hid hS
          have hfd : ∀ (W : World), Sem.run Tryz.prog (Instr.field 43 (.agg #[.int .i64 0, .int .i64 k, .int .i64 s.all.length, .bool false]) 0) W = .ok (.int .i64 0) W := fun W => rfl
          clear hnx hx hD1 hL1 hd1 hs1 hL hlen hcok hS
          go_wp2_with (first
            | (go_at_call 16; refine HN.out.mono ?_; rintro e w5 ⟨⟨b5, rfl, hb5, ev5, hev5, hE5⟩, ho5⟩
               have h1 := (HSt.out.addE ho5 hb5 hE5.lt).boxR (.cells #[.int .i64 c.kind, .int .i64 c.time, .string c.stream, .int .i64 c.expected, .slice (some ⟨b5, 0, none⟩) 1 1, .int .i64 c.mt.maxCount, .int .i64 c.mt.maxAge, .int .i64 c.mt.before] 40)
               have hE6 := ((Only.refl [] w5).alloc (.cells #[.int .i64 c.kind, .int .i64 c.time, .string c.stream, .int .i64 c.expected, .slice (some ⟨b5, 0, none⟩) 1 1, .int .i64 c.mt.maxCount, .int .i64 c.mt.maxAge, .int .i64 c.mt.before] 40)).blk hE5 (by simp)
               have HEV := Lib.hid hev5
               clear hev5)
            | (go_at_call 15; refine (HD1.out _ _ _ _ HEV.out h1 hE6).mono ?_; rintro e w7 ⟨rfl, h7, _⟩))
          exact ⟨⟨n + 1, k + 1, s1, by omega, by simp [e1], h7.less (R' := []) (E' := []) (by simp) (by simp), HL1, by omega⟩, by simp [e1, intOf]; omega⟩
end
end Go.Proofs.YtpcemipfanimgaaGreatDoor
/- LinkRuns: what the row asks for. -/
set_option linter.unusedVariables false
namespace Go.Proofs.YtpcemipfanimgaaGreatDoor
open Go Go.RowKit Go.Sort
theorem runsW (v1 : Value) (l : List CmdV) (t : ByteArray) (ht : t.size ≤ maxLen) (v2 : Value) (ts : List Int) (W : World) (hT : Tab W)
    (x0 : Slc W 8 v1 l.length (l.flatMap CmdV.cells)) (y0 : ∀ o ∈ l, o.Ok W ∧ o.cells.length = 8) (z0 : ∀ g, v1.ownBlock = some g → g < W.heap.size ∨ l = [])
    (x1 : Slc W 1 v2 ts.length (ints ts)) (y1 : ∀ z ∈ ts, (Lit.int .i64 z).wf = true) (z1 : ∀ g, v2.ownBlock = some g → g < W.heap.size ∨ ts = []) :
    Calls Tryz.prog 4 #[v1, .string t, v2] W fun e W' => e = .returned (.bool true) ∧ Only [] W W' :=
  runs_go W hT v1 v2 l t ts (CmdsAt.of x0 y0 z0) x1 ht
end Go.Proofs.YtpcemipfanimgaaGreatDoor
/- Contracts: a state that commands made. -/
set_option linter.unusedVariables false
set_option linter.unusedSimpArgs false
namespace Go.Proofs.YtpcemipfanimgaaGreatDoor
open Go Go.RowKit Go.Sort
theorem neat_run (l : List CmdV) : ∀ {s : MS}, s.Neat → (runS s l).Neat := by
  induction l with
  | nil => exact fun h => h
  | cons x l ih => exact fun h => ih (neat_do h x.c)
theorem sinv_run (l : List CmdV) : ∀ {s : MS}, s.SInv → (runS s l).SInv := by
  induction l with
  | nil => exact fun h => h
  | cons x l ih => exact fun h => ih (sinv_do h x.c)
section
variable {a w : World} {v : Value} {l : List CmdV}
set_option maxRecDepth 100000 in
set_option maxHeartbeats 2000000 in
theorem state_any (ha : Only [] a w) (h : CmdsAt a w v l) (hN : l.length ≤ 1000) :
    Calls Tryz.prog 19 #[v] w fun e w' => e = .returned (.pointer (some ⟨w.heap.size + 1, 0, none⟩)) ∧ HasS a w' [] [] (w.heap.size + 1) w.heap.size (runS MS.new l) l.length ∧ Keeps a [] w w' := by
  obtain ⟨A, cap, rfl, hnc, hcm, hel⟩ := h.cells
  unfold maxLen at hcm
  go_enter Tryz.func19, Tryz.ntmps19
  go_wp2_with (go_at_call 14; refine (has_newS a w ha [] (by simp)).mono ?_; rintro e w1 ⟨rfl, hh, ho1⟩)
  obtain ⟨sb, hsb⟩ : ∃ sb, w.heap.size + 1 = sb := ⟨_, rfl⟩
  obtain ⟨mb, hmb⟩ : ∃ mb, w.heap.size = mb := ⟨_, rfl⟩
  rw [hsb, hmb] at hh
  rw [hsb]
  have hw1 := Keeps.of0 (a := a) (R := []) ho1
  go_loopw [4] (fun i wr => ∃ k : Nat, k ≤ l.length ∧ i = .int .i64 k ∧ HasS a wr [] [] sb mb (runS MS.new (l.take k)) k ∧ Keeps a [] w wr) (fun i _ => l.length - (intOf i).toNat)
  case atStart => exact ⟨0, by omega, rfl, hh, hw1⟩
  case round =>
    obtain ⟨k, hk, rfl, hS, hK⟩ := hrel
    by_cases hlt : k < l.length
    · have hcell : ∀ b (h1 : b < w.heap.size) (h2 : b < a.heap.size) (i : Nat), wr.cell? ⟨b, i, none⟩ = w.cell? ⟨b, i, none⟩ := fun b h1 h2 i => hK.cell h1 (.inl h2)
      have hrt := runS_take MS.new l k hlt
      obtain ⟨b, off, rfl, hbb, hba, hcc⟩ := hel k hlt
      obtain ⟨x, hx⟩ : ∃ x, x = l[k] := ⟨_, rfl⟩
      have hxm : x ∈ l := by rw [hx]; exact List.getElem_mem hlt
      rw [← hx] at hcc
      have hxo := (h.cmd x hxm).1
      obtain ⟨Ax, capx, hxv, hx1, hx2, _⟩ := (h.cmd x hxm).2.1.openE EventR.cells (fun _ => rfl)
      have c0 : wr.cell? ⟨b, off + k * 8, none⟩ = some (.int .i64 x.c.kind) := (hcell b hbb hba _).trans (hcc 0 (by omega))
      have c1 : wr.cell? ⟨b, off + k * 8 + 1, none⟩ = some (.int .i64 x.c.time) := (hcell b hbb hba _).trans (hcc 1 (by omega))
      have c2 : wr.cell? ⟨b, off + k * 8 + 2, none⟩ = some (.string x.c.stream) := (hcell b hbb hba _).trans (hcc 2 (by omega))
      have c3 : wr.cell? ⟨b, off + k * 8 + 3, none⟩ = some (.int .i64 x.c.expected) := (hcell b hbb hba _).trans (hcc 3 (by omega))
      have c4 : wr.cell? ⟨b, off + k * 8 + 4, none⟩ = some (.slice Ax x.c.events.length capx) := (hcell b hbb hba _).trans ((hcc 4 (by omega)).trans (by rw [← hxv]; rfl))
      have c5 : wr.cell? ⟨b, off + k * 8 + 5, none⟩ = some (.int .i64 x.c.mt.maxCount) := (hcell b hbb hba _).trans (hcc 5 (by omega))
      have c6 : wr.cell? ⟨b, off + k * 8 + 6, none⟩ = some (.int .i64 x.c.mt.maxAge) := (hcell b hbb hba _).trans (hcc 6 (by omega))
      have c7 : wr.cell? ⟨b, off + k * 8 + 7, none⟩ = some (.int .i64 x.c.mt.before) := (hcell b hbb hba _).trans (hcc 7 (by omega))
      rw [← hx] at hrt
      have hdo := has_do (c := x.c) hS (by omega) hxo ((h.keep hK).ev hxm)
      rw [hxv, ← hrt] at hdo
      unfold Cmd.val at hdo
      have HD := Lib.hid hdo
      have hlt2 : decide ((k : Int) < (l.length : Int)) = true := decide_eq_true (by omega)
      clear hcc hel hx hxv hdo hcell hrt hS hsb hmb
      go_wp2_with (go_at_call 15; refine HD.out.mono ?_; rintro e w2 ⟨rfl, hS1, hk1⟩)
      exact ⟨⟨k + 1, by omega, by simp, hS1, hK.trans hk1⟩, by simp [intOf]; omega⟩
    · have hkl : k = l.length := by omega
      have hfin : HasS a wr [] [] sb mb (runS MS.new l) l.length := by
        rw [hkl, List.take_length] at hS
        exact hS
      have HF := Lib.hid hfin
      have hlt2 : decide ((k : Int) < (l.length : Int)) = false := decide_eq_false (by omega)
      have HSB := Lib.hid hsb
      have HMB := Lib.hid hmb
      clear hel hfin hkl hS hsb hmb
      go_wp2
      go_ret
      rw [HSB.out, HMB.out]
      exact ⟨rfl, HF.out, hK⟩
end
end Go.Proofs.YtpcemipfanimgaaGreatDoor
/- LinkAlone: the walk. -/
set_option linter.unusedVariables false
set_option linter.unusedSimpArgs false
namespace Go.Proofs.YtpcemipfanimgaaGreatDoor
open Go Go.RowKit Go.Sort
theorem infoEv : (Tryz.prog.info? 24).map (fun i => (i.zero, i.size, i.bytes)) = some (some (.agg #[.int .i64 0, .string ⟨#[]⟩, .string ⟨#[]⟩, .float .f64 0]), 4, 48) := by kernel_rfl
theorem ev_one (l : List EventR) : ∀ u ∈ l.flatMap EventR.cells, u.oneCell' = true := by
  intro u hu
  obtain ⟨x, _, hx⟩ := List.mem_flatMap.1 hu
  simp [EventR.cells] at hx
  rcases hx with rfl | rfl | rfl | rfl <;> rfl
theorem app4e {W : World} {base k : Nat} {v : Value} {l : List EventR} (hown : W.ownsRow base 24 4 v k (l.flatMap EventR.cells)) (hb : base ≤ W.heap.size) (hl : k ≤ 1000000) (x : EventR) :
    ∃ A cap w', (Builtin.append_ #[36, 36] 36 #[v, .slice (some ⟨W.heap.size, 0, none⟩) 1 1]).run Tryz.prog (W.alloc (.cells #[.int .i64 x.id, .string x.type, .string x.data, .float .f64 x.value] 24)) = .ok (.slice A (k + 1) cap) w' ∧ w'.ownsRow base 24 4 (.slice A (k + 1) cap) (k + 1) ((l ++ [x]).flatMap EventR.cells) ∧ Only v.ownBlock.toList (W.alloc (.cells #[.int .i64 x.id, .string x.type, .string x.data, .float .f64 x.value] 24)) w' := by
  obtain ⟨A, cap, w', h1, h2, h3, _⟩ := run_app (P := Tryz.prog) (w := W.alloc (.cells #[.int .i64 x.id, .string x.type, .string x.data, .float .f64 x.value] 24)) 36 36 base 24 (.agg #[.int .i64 0, .string ⟨#[]⟩, .string ⟨#[]⟩, .float .f64 0]) 4 48 Tryz.underlying36 infoEv rfl (by decide) (hown.alloc _) (slc_new1 (w := W) (e := 24) (size := 4) (cs := x.cells) rfl) (by simpa using ev_one [x]) (by omega) (by unfold maxLen; omega) (Nat.le_trans hb (by simp))
  refine ⟨A, cap, w', h1, ?_, h3⟩
  simpa using h2
theorem alone_new : targetsAll MS.new = [] := by kernel_rfl
set_option maxRecDepth 100000 in
set_option maxHeartbeats 4000000 in
theorem alone_go (w : World) (hT : Tab w) (t u : ByteArray) (z : Int) (ht : t.size ≤ maxLen) (hu : u.size ≤ maxLen) :
    Calls Tryz.prog 5 #[.string t, .string u, .int .i64 z] w fun e w' => e = .returned (.bool true) ∧ Only [] w w' := by
  have hsf := stF
  unfold maxLen at ht hu
  have HA := Lib.hid (fun (W : World) (hW : Only [] w W) => alive25_any W (hT.only hW))
  by_cases h60 : t.size > 60
  · go_enter Tryz.func5, Tryz.ntmps5
    go_wp2_with (go_at_call 10; refine (HA.out _ (Only.refl _ _)).mono ?_; rintro e w3 ⟨rfl, ho3⟩)
    go_ret
    exact ⟨rfl, ho3⟩
  by_cases h61 : u.size > 60
  · go_enter Tryz.func5, Tryz.ntmps5
    go_wp2_with (go_at_call 10; refine (HA.out _ (Only.refl _ _)).mono ?_; rintro e w3 ⟨rfl, ho3⟩)
    go_ret
    exact ⟨rfl, ho3⟩
  by_cases hz1 : z < 1
  · have hd : decide (z < 1) = true := decide_eq_true hz1
    go_enter Tryz.func5, Tryz.ntmps5
    go_wp2_with (go_at_call 10; refine (HA.out _ (Only.refl _ _)).mono ?_; rintro e w3 ⟨rfl, ho3⟩)
    go_ret
    exact ⟨rfl, ho3⟩
  by_cases hz8 : z > 8
  · have hd : decide (z < 1) = false := decide_eq_false hz1
    have hd8 : decide (z > 8) = true := decide_eq_true hz8
    go_enter Tryz.func5, Tryz.ntmps5
    go_wp2_with (go_at_call 10; refine (HA.out _ (Only.refl _ _)).mono ?_; rintro e w3 ⟨rfl, ho3⟩)
    go_ret
    exact ⟨rfl, ho3⟩
  obtain ⟨n, rfl⟩ : ∃ n : Nat, z = n := ⟨z.toNat, by omega⟩
  have hd : decide ((n : Int) < 1) = false := decide_eq_false hz1
  have hd8 : decide ((n : Int) > 8) = false := decide_eq_false hz8
  have hst0 := fun (W : World) (hW : Only [] w W) => state_any (a := w) (w := W) (v := .slice none 0 0) (l := []) hW ⟨Slc.nil _ _, (fun g hg => by cases hg), (fun x hx => by cases hx)⟩ (by simp)
  have HST := Lib.hid hst0
  clear hst0
  go_enter Tryz.func5, Tryz.ntmps5
  go_wp2_with (first
    | (go_at_call 19; refine (HST.out _ (Only.refl _ _)).mono ?_; rintro e w4 ⟨rfl, hh4, hk4⟩
       have hh4 : HasS w w4 [] [] (w.heap.size + 1) w.heap.size MS.new 0 := hh4
       have hta := targetsAll_any hh4 (by omega) neat_new
       rw [alone_new] at hta
       have HTA := Lib.hid hta
       clear hta)
    | (go_at_call 20; refine HTA.out.mono ?_; rintro e w5 ⟨v5, rfl, hown5, ho5⟩
       obtain ⟨A5, cap5, rfl, hnc5, hcm5⟩ := own_form hown5))
  have hh5 := hh4.keep ho5
  have hB0 := Blk.new w5 40 #[.int .i64 1, .int .i64 0, .string t, .int .i64 (-2), .slice none 0 0, .int .i64 0, .int .i64 0, .int .i64 0]
  have hO0 := (Only.refl [] w5).alloc (.cells #[.int .i64 1, .int .i64 0, .string t, .int .i64 (-2), .slice none 0 0, .int .i64 0, .int .i64 0, .int .i64 0] 40)
  obtain ⟨W, hW⟩ : ∃ W, w5.alloc (.cells #[.int .i64 1, .int .i64 0, .string t, .int .i64 (-2), .slice none 0 0, .int .i64 0, .int .i64 0, .int .i64 0] 40) = W := ⟨_, rfl⟩
  have hWs : W.heap.size = w5.heap.size + 1 := by rw [← hW]; simp
  rw [hW] at hB0 hO0 ⊢
  obtain ⟨sb, hsb⟩ : ∃ sb, w.heap.size + 1 = sb := ⟨_, rfl⟩
  obtain ⟨mb, hmb⟩ : ∃ mb, w.heap.size = mb := ⟨_, rfl⟩
  rw [hsb, hmb] at hh5
  rw [hsb]
  clear hsb hmb hW HST HTA hh4 hown5 hnc5 hcm5 hk4
  have hWs' := Lib.hid hWs
  clear hWs
  go_loopw [9] (fun i wr => ∃ (k : Nat) (A : Option Addr) (cap : Nat), k ≤ n ∧ i = .int .i64 k ∧ Blk wr w5.heap.size 40 #[.int .i64 1, .int .i64 0, .string t, .int .i64 (-2), .slice A k cap, .int .i64 0, .int .i64 0, .int .i64 0] ∧ wr.ownsRow W.heap.size 24 4 (.slice A k cap) k ((aloneEv u k).flatMap EventR.cells) ∧ Only [] w5 wr ∧ W.heap.size ≤ wr.heap.size) (fun i _ => n - (intOf i).toNat)
  case atStart => exact ⟨0, none, 0, Nat.zero_le _, rfl, hB0, World.ownsRow_nil _ _ _ _, hO0, Nat.le_refl _⟩
  case round =>
    obtain ⟨k, A, cap, hk, rfl, hB, hown, hO, hsz⟩ := hrel
    obtain ⟨_, _, e1, hnc, hcm⟩ := own_form hown
    cases e1
    unfold maxLen at hcm
    by_cases hlt : k < n
    · have hlt2 : decide ((k : Int) < (n : Int)) = true := decide_eq_true (by omega)
      have e9 := IntWalk.i64_in ((k : Int) + 1) ⟨by omega, by omega⟩
      have c4 := hB.cell 4
      obtain ⟨A4, c4', w4, hr4, hown4, hO4⟩ := app4e hown hsz (by omega) ⟨(k : Int) + 1, u, ⟨#[]⟩, 0⟩
      rw [← aloneEv_succ] at hown4
      have hge := fun g hg => (World.ownsRow.lt hown g hg).1
      have hB1 := hO4.blk (((Only.refl [] wr).alloc (.cells #[.int .i64 ((k : Int) + 1), .string u, .string ⟨#[]⟩, .float .f64 0] 24)).blk hB (by simp)) (fun q => by have := hge _ (by simpa using q); rw [hWs'.out] at this; omega)
      have hf4 := hB1.free 4
      have hc4 := hB1.cell 4
      have hset := hB1.set 4 (.slice A4 (k + 1) c4')
      have hO5 : Only [] w5 w4 := (hO.alloc (.cells #[.int .i64 ((k : Int) + 1), .string u, .string ⟨#[]⟩, .float .f64 0] 24)).step hO4 (fun g hg => .inr (by have := hge g (by simpa using hg); rw [hWs'.out] at this; omega))
      have hown6 := own_only hown4 ((Only.refl [w5.heap.size] w4).setCell (p := ⟨w5.heap.size, 4, none⟩) (.inl (by simp)) (.slice A4 (k + 1) c4')) (fun g hg q => by have := (World.ownsRow.lt hown4 g hg).1; simp at q; rw [hWs'.out] at this; omega)
      have hsz4 : W.heap.size ≤ w4.heap.size := Nat.le_trans hsz (Nat.le_trans (by simp) hO4.size)
      have HR4 := Lib.hid hr4
      clear hr4 hown4 hO4 hB1 hge
      go_wp2_with (at_builtin; refine Lib.wpList_append_run _ rfl (.tmp 46) (.tmp 51) 36 36 rfl _ _ rfl rfl _ _ HR4.out ?_)
      exact ⟨⟨k + 1, A4, c4', by omega, by simp, hset, hown6, hO5.setCell (.inr (Nat.le_refl _)) _, by simpa using hsz4⟩, by simp [intOf]; omega⟩
    · have hkn : k = n := by omega
      subst hkn
      have hlt2 : decide ((k : Int) < (k : Int)) = false := decide_eq_false (by omega)
      have hcl := hB.cell
      have hokC : CmdOk (aloneC t u k) := ⟨by show t.size ≤ maxLen; unfold maxLen; omega, fun e he => by
        have h1 : e ∈ aloneEv u k := he
        have h2 := aloneEv_typ u k e h1
        obtain ⟨i, _, rfl⟩ := List.mem_map.1 h1
        unfold maxLen
        exact ⟨by show u.size ≤ _; omega, by show (0 : Nat) ≤ _; omega⟩⟩
      have hS := (Slc.of_own hown).1
      have hS2 : Slc wr 4 (.slice A k cap) (aloneC t u k).events.length ((aloneC t u k).events.flatMap EventR.cells) := by
        show Slc wr 4 _ (aloneEv u k).length _
        rw [aloneEv_len]
        exact hS
      obtain ⟨g, cp, cur, e1, hgb, hgB⟩ := own_some hown (by omega)
      injection e1 with e2 e3 e4
      subst e2
      subst e4
      clear e3
      have hhE := hh5.addE hO (g := g) (by rw [hWs'.out] at hgb; omega) hgB.lt
      have hEv : EvIn w wr [g] (.slice (some ⟨g, 0, none⟩) k cap) (aloneC t u k).events := ⟨hS2, fun i hi => .inl (.inr (by cases hi; simp))⟩
      have hdo := has_do hhE (by omega) hokC hEv
      have hpl := fun (h : (MS.new.do (aloneC t u k)).1.err = 0) => alone_plain (stream := t) (typ := u) (n := k) (by omega) (by omega) h
      have hnt := neat_do neat_new (aloneC t u k)
      obtain ⟨r, hr⟩ : ∃ r, MS.new.do (aloneC t u k) = r := ⟨_, rfl⟩
      rw [hr] at hdo hpl hnt
      obtain ⟨⟨err, ver, pos, ag⟩, s⟩ := r
      unfold Cmd.val Ans.val at hdo
      have hdo : Calls Tryz.prog 15 #[.pointer (some ⟨sb, 0, none⟩), .agg #[.int .i64 1, .int .i64 0, .string t, .int .i64 (-2), .slice (some ⟨g, 0, none⟩) k cap, .int .i64 0, .int .i64 0, .int .i64 0]] wr fun e w' => e = .returned (.agg #[.int .i64 err, .int .i64 ver, .int .i64 pos, .bool ag]) ∧ HasS w w' [] [g] sb mb s (0 + 1) ∧ Keeps w ([] ++ [g]) wr w' := hdo
      have HD := Lib.hid hdo
      have HP := Lib.hid hpl
      have hfld : ∀ W, Sem.run Tryz.prog (Instr.field 43 (.agg #[.int .i64 err, .int .i64 ver, .int .i64 pos, .bool ag]) 0) W = .ok (.int .i64 err) W := fun W => rfl
      clear hdo hpl hr hS hS2 hB hown hEv hgB hokC
      by_cases herr : err = 0
      · have hb : (err != 0) = false := by simpa using herr
        subst herr
        obtain ⟨hp1, hp2⟩ := HP.out rfl
        have hp2 := Lib.hid hp2
        clear HP
        go_wp2_with (first
          | (go_at_call 15; refine HD.out.mono ?_; rintro e w6 ⟨rfl, h6, k6⟩
             have HTg := Lib.hid (targetsAll_any h6 (by omega) hnt)
             have HLg := Lib.hid (fun (W : World) (hW : Only [] w6 W) (x : ByteArray) => lags_any (h6.keep hW) (by omega) hnt x)
             have HRe := Lib.hid (fun (W : World) (hW : Only [] w6 W) (x : ByteArray) => reached_any (h6.keep hW) (by omega) x (fun y hy => by have := (hnt.sizes hy).2.2; omega)))
          | (go_at_call 20; refine HTg.out.mono ?_; rintro e w7 ⟨v7, rfl, hown7, ho7⟩
             obtain ⟨A7, cap7, rfl, hnc7, hcm7, hel7⟩ := (Slc.of_own hown7).1.openS
             unfold maxLen at hcm7))
        clear HD HTg hdo hhE hB0 hO0 hh4 ho5 hh5 hcl k6
        go_loopw [11] (fun i wr => ∃ j : Nat, j ≤ (targetsAll s).length ∧ i = .int .i64 j ∧ Only [] w7 wr) (fun i _ => (targetsAll s).length - (intOf i).toNat)
        case atStart => exact ⟨0, Nat.zero_le _, rfl, Only.refl _ _⟩
        case round =>
          obtain ⟨j, hj, rfl, hOj⟩ := hrel
          by_cases hjl : j < (targetsAll s).length
          · obtain ⟨bt, offt, rfl, hbt, hct⟩ := hel7 j hjl
            obtain ⟨x, hx⟩ : ∃ x, (targetsAll s)[j] = x := ⟨_, rfl⟩
            obtain ⟨q1, q2⟩ := hp2.out x (by rw [← hx]; exact List.getElem_mem hjl)
            rw [hx] at hct
            have c0 := (hOj.cell hbt (by simp)).trans hct
            have hL1 := HLg.out wr (ho7.trans hOj) x
            have hR1 := fun (W : World) (hW : Only [] w6 W) => HRe.out W hW x
            rw [q1] at hL1
            rw [q2] at hR1
            have HL1 := Lib.hid hL1
            have HR1 := Lib.hid hR1
            have hjl2 : decide ((j : Int) < ((targetsAll s).length : Int)) = true := decide_eq_true (by omega)
            have e9 := IntWalk.i64_in ((j : Int) + 1) ⟨by omega, by omega⟩
            clear hL1 hR1 HLg HRe hct hx q1 q2 hp2 hel7
            go_wp2_with (first
              | (go_at_call 18; refine HL1.out.mono ?_; rintro e w8 ⟨rfl, ho8⟩; have c1 := (ho8.cell (p := ⟨bt, offt + j, none⟩) (Nat.lt_of_lt_of_le hbt hOj.size) (by simp)).trans c0)
              | (go_at_call 21; refine (HR1.out _ ((ho7.trans hOj).trans ho8)).mono ?_; rintro e w9 ⟨rfl, ho9⟩))
            exact ⟨⟨j + 1, by omega, by simp, (hOj.trans ho8).trans ho9⟩, by simp [intOf]; omega⟩
          · have hjl2 : decide ((j : Int) < ((targetsAll s).length : Int)) = false := decide_eq_false (by omega)
            have HO := Lib.hid ((h6.only.trans ho7).trans hOj)
            clear hel7 hp2 HLg HRe
            go_wp2_with (go_at_call 10; refine (HA.out _ HO.out).mono ?_; rintro e w9 ⟨rfl, ho9⟩)
            go_ret
            exact ⟨rfl, HO.out.trans ho9⟩
      · have hb : (err != 0) = true := by simpa using herr
        clear HP
        go_wp2_with (first
          | (go_at_call 15; refine HD.out.mono ?_; rintro e w6 ⟨rfl, h6, k6⟩)
          | (go_at_call 10; refine (HA.out _ h6.only).mono ?_; rintro e w7 ⟨rfl, ho7⟩))
        go_ret
        exact ⟨rfl, h6.only.trans ho7⟩
end Go.Proofs.YtpcemipfanimgaaGreatDoor
/- LinkAlone: what the row asks for. -/
set_option linter.unusedVariables false
namespace Go.Proofs.YtpcemipfanimgaaGreatDoor
open Go Go.RowKit Go.Sort
theorem aloneW (t : ByteArray) (ht : t.size ≤ maxLen) (u : ByteArray) (hu : u.size ≤ maxLen) (z : Int) (hz : (Lit.int .i64 z).wf = true) (W : World) (hT : Tab W) :
    Calls Tryz.prog 5 #[.string t, .string u, .int .i64 z] W fun e W' => e = .returned (.bool true) ∧ Only [] W W' := alone_go W hT t u z ht hu
end Go.Proofs.YtpcemipfanimgaaGreatDoor
/- Contracts: SameStored. -/
set_option linter.unusedVariables false
set_option linter.unusedSimpArgs false
namespace Go.Proofs.YtpcemipfanimgaaGreatDoor
open Go.RowKit
set_option maxRecDepth 100000 in
theorem r1bits_any (b : Nat) (w : World) : Calls Tryz.prog 81 #[.float .f64 b] w fun e w' => e = .returned (.int .u64 (bitsOf b : Int)) ∧ w = w' := by
  have hf := fun W => to_run b W
  cases hb : isNaN b
  · have hr : Hid (bitsOf b = b) := by unfold Hid bitsOf; rw [hb]; rfl
    unfold isNaN at hb
    go_enter Tryz.func81, Tryz.ntmps81
    go_wp2
    go_ret
    exact ⟨by rw [hr.out]; rfl, rfl⟩
  · have hr : Hid (bitsOf b = 9221120237041090560) := by unfold Hid bitsOf; rw [hb]; rfl
    unfold isNaN at hb
    go_enter Tryz.func81, Tryz.ntmps81
    go_wp2
    go_ret
    exact ⟨by rw [hr.out]; rfl, rfl⟩
set_option maxRecDepth 100000 in
theorem r1same_any (a b : Nat) (w : World) : Calls Tryz.prog 39 #[.float .f64 a, .float .f64 b] w fun e w' => e = .returned (.bool (sameF a b)) ∧ w = w' := by
  have HB := Lib.hid (fun (b : Nat) W => r1bits_any b W)
  by_cases h : bitsOf a = bitsOf b
  · have hb : ((bitsOf a : Int) == (bitsOf b : Int)) = true := by rw [beq_iff_eq, h]
    have hs : Hid (sameF a b = true) := by unfold Hid sameF; simp [h]
    clear h
    go_enter Tryz.func39, Tryz.ntmps39
    go_wp2_with (go_at_call 81; refine (HB.out _ _).mono ?_; rintro e w' ⟨rfl, rfl⟩)
    go_ret
    exact ⟨ret_b (by rw [hs.out]), rfl⟩
  · have hb : ((bitsOf a : Int) == (bitsOf b : Int)) = false := by rw [beq_eq_false_iff_ne]; omega
    have hs : Hid (sameF a b = false) := by unfold Hid sameF; simp [h]
    clear h
    go_enter Tryz.func39, Tryz.ntmps39
    go_wp2_with (go_at_call 81; refine (HB.out _ _).mono ?_; rintro e w' ⟨rfl, rfl⟩)
    go_ret
    exact ⟨ret_b (by rw [hs.out]), rfl⟩
set_option maxRecDepth 100000 in
set_option maxHeartbeats 2000000 in
theorem r7sameE_any (x y : EventR) (w : World) : Calls Tryz.prog 66 #[.agg #[.int .i64 x.id, .string x.type, .string x.data, .float .f64 x.value], .agg #[.int .i64 y.id, .string y.type, .string y.data, .float .f64 y.value]] w fun e w' => e = .returned (.bool (sameE x y)) ∧ Only [] w w' := by
  by_cases h1 : x.id = y.id
  · by_cases h2 : x.type.toList = y.type.toList
    · have b2 : (x.type.toList == y.type.toList) = true := by rw [beq_iff_eq]; exact h2
      by_cases h3 : x.data.toList = y.data.toList
      · have b3 : (x.data.toList == y.data.toList) = true := by rw [beq_iff_eq]; exact h3
        go_enter Tryz.func66, Tryz.ntmps66
        go_wp2_with (go_at_call 39; refine (r1same_any _ _ _).mono ?_; rintro e w' ⟨rfl, rfl⟩)
        go_ret
        exact ⟨ret_b (by simp [sameE, h1, h2, h3]), ((Only.refl [] w).alloc _).alloc _⟩
      · have b3 : (x.data.toList == y.data.toList) = false := by rw [beq_eq_false_iff_ne]; exact h3
        go_enter Tryz.func66, Tryz.ntmps66
        go_wp2_with (go_at_call 39; refine (r1same_any _ _ _).mono ?_; rintro e w' ⟨rfl, rfl⟩)
        go_ret
        exact ⟨ret_b (by simp [sameE, h1, h2, h3]), ((Only.refl [] w).alloc _).alloc _⟩
    · have b2 : (x.type.toList == y.type.toList) = false := by rw [beq_eq_false_iff_ne]; exact h2
      go_enter Tryz.func66, Tryz.ntmps66
      go_wp2_with (go_at_call 39; refine (r1same_any _ _ _).mono ?_; rintro e w' ⟨rfl, rfl⟩)
      go_ret
      exact ⟨ret_b (by simp [sameE, h1, h2]), ((Only.refl [] w).alloc _).alloc _⟩
  · go_enter Tryz.func66, Tryz.ntmps66
    go_wp2_with (go_at_call 39; refine (r1same_any _ _ _).mono ?_; rintro e w' ⟨rfl, rfl⟩)
    go_ret
    exact ⟨ret_b (by simp [sameE, h1]), ((Only.refl [] w).alloc _).alloc _⟩
end Go.Proofs.YtpcemipfanimgaaGreatDoor
/- Contracts: SameStored of lists. -/
set_option linter.unusedVariables false
set_option linter.unusedSimpArgs false
namespace Go.Proofs.YtpcemipfanimgaaGreatDoor
open Go.RowKit
set_option maxRecDepth 100000 in
set_option maxHeartbeats 2000000 in
theorem r7sameS_any (x y : StoredR) (w : World) : Calls Tryz.prog 31 #[.agg #[.int .i64 x.ev.id, .string x.ev.type, .string x.ev.data, .float .f64 x.ev.value, .string x.stream, .int .i64 x.version, .int .i64 x.position, .int .i64 x.time], .agg #[.int .i64 y.ev.id, .string y.ev.type, .string y.ev.data, .float .f64 y.ev.value, .string y.stream, .int .i64 y.version, .int .i64 y.position, .int .i64 y.time]] w fun e w' => e = .returned (.bool (sameS x y)) ∧ Only [] w w' := by
  have HE := Lib.hid (fun W => r7sameE_any x.ev y.ev W)
  have kB : ∀ cs t o1, Blk ((w.alloc o1).alloc (.cells cs t)) (w.heap.size + 1) t cs := fun cs t o1 => by
    have := Blk.new (w.alloc o1) t cs
    rw [World.size_alloc] at this
    exact this
  cases h1 : sameE x.ev y.ev with
  | false =>
    rw [h1] at HE
    go_enter Tryz.func31, Tryz.ntmps31
    go_wp2_with (go_at_call 66; refine (HE.out _).mono ?_; rintro e w1 ⟨rfl, ho1⟩
                 have ha := fun i => (ho1.blk (((Only.refl [] _).alloc _).blk (Blk.new w 26 _) (by simp)) (by simp)).cell i
                 have hb := fun i => (ho1.blk (kB _ _ _) (by simp)).cell i)
    go_ret
    exact ⟨ret_b (by simp [sameS, h1]), (((Only.refl [] w).alloc _).alloc _).trans ho1⟩
  | true =>
    rw [h1] at HE
    by_cases h2 : x.stream.toList = y.stream.toList
    · have b2 : (x.stream.toList == y.stream.toList) = true := by rw [beq_iff_eq]; exact h2
      by_cases h3 : x.version = y.version
      · by_cases h4 : x.position = y.position
        · by_cases h5 : x.time = y.time
          · go_enter Tryz.func31, Tryz.ntmps31
            go_wp2_with (go_at_call 66; refine (HE.out _).mono ?_; rintro e w1 ⟨rfl, ho1⟩
                         have ha := fun i => (ho1.blk (((Only.refl [] _).alloc _).blk (Blk.new w 26 _) (by simp)) (by simp)).cell i
                         have hb := fun i => (ho1.blk (kB _ _ _) (by simp)).cell i)
            go_ret
            exact ⟨ret_b (by simp [sameS, h1, h2, h3, h4, h5]), (((Only.refl [] w).alloc _).alloc _).trans ho1⟩
          · have b5 : (x.time == y.time) = false := by rw [beq_eq_false_iff_ne]; exact h5
            go_enter Tryz.func31, Tryz.ntmps31
            go_wp2_with (go_at_call 66; refine (HE.out _).mono ?_; rintro e w1 ⟨rfl, ho1⟩
                         have ha := fun i => (ho1.blk (((Only.refl [] _).alloc _).blk (Blk.new w 26 _) (by simp)) (by simp)).cell i
                         have hb := fun i => (ho1.blk (kB _ _ _) (by simp)).cell i)
            go_ret
            exact ⟨ret_b (by simp [sameS, h1, h2, h3, h4, h5]), (((Only.refl [] w).alloc _).alloc _).trans ho1⟩
        · have b5 : (x.position == y.position) = false := by rw [beq_eq_false_iff_ne]; exact h4
          go_enter Tryz.func31, Tryz.ntmps31
          go_wp2_with (go_at_call 66; refine (HE.out _).mono ?_; rintro e w1 ⟨rfl, ho1⟩
                       have ha := fun i => (ho1.blk (((Only.refl [] _).alloc _).blk (Blk.new w 26 _) (by simp)) (by simp)).cell i
                       have hb := fun i => (ho1.blk (kB _ _ _) (by simp)).cell i)
          go_ret
          exact ⟨ret_b (by simp [sameS, h1, h2, h3, h4]), (((Only.refl [] w).alloc _).alloc _).trans ho1⟩
      · have b5 : (x.version == y.version) = false := by rw [beq_eq_false_iff_ne]; exact h3
        go_enter Tryz.func31, Tryz.ntmps31
        go_wp2_with (go_at_call 66; refine (HE.out _).mono ?_; rintro e w1 ⟨rfl, ho1⟩
                     have ha := fun i => (ho1.blk (((Only.refl [] _).alloc _).blk (Blk.new w 26 _) (by simp)) (by simp)).cell i
                     have hb := fun i => (ho1.blk (kB _ _ _) (by simp)).cell i)
        go_ret
        exact ⟨ret_b (by simp [sameS, h1, h2, h3]), (((Only.refl [] w).alloc _).alloc _).trans ho1⟩
    · have b2 : (x.stream.toList == y.stream.toList) = false := by rw [beq_eq_false_iff_ne]; exact h2
      go_enter Tryz.func31, Tryz.ntmps31
      go_wp2_with (go_at_call 66; refine (HE.out _).mono ?_; rintro e w1 ⟨rfl, ho1⟩
                   have ha := fun i => (ho1.blk (((Only.refl [] _).alloc _).blk (Blk.new w 26 _) (by simp)) (by simp)).cell i
                   have hb := fun i => (ho1.blk (kB _ _ _) (by simp)).cell i)
      go_ret
      exact ⟨ret_b (by simp [sameS, h1, h2]), (((Only.refl [] w).alloc _).alloc _).trans ho1⟩
theorem sameL_drop {l m : List StoredR} {k : Nat} (h1 : k < l.length) (h2 : k < m.length) : sameL (l.drop k) (m.drop k) = (sameS l[k] m[k] && sameL (l.drop (k + 1)) (m.drop (k + 1))) := by
  rw [List.drop_eq_getElem_cons h1, List.drop_eq_getElem_cons h2]
  rfl
theorem sameL_len : ∀ (l m : List StoredR), l.length ≠ m.length → sameL l m = false
  | [], [], h => absurd rfl h
  | [], _ :: _, _ => rfl
  | _ :: _, [], _ => rfl
  | x :: l, y :: m, h => by
    simp only [sameL, sameL_len l m (by simpa using h), Bool.and_false]
set_option maxRecDepth 100000 in
set_option maxHeartbeats 4000000 in
theorem sameL_any {w : World} {v1 v2 : Value} {l m : List StoredR} (h1 : Slc w 8 v1 l.length (l.flatMap StoredR.cells)) (h2 : Slc w 8 v2 m.length (m.flatMap StoredR.cells)) (hl : l.length ≤ 1000000) (hm : m.length ≤ 1000000) :
    Calls Tryz.prog 63 #[v1, v2] w fun e w' => e = .returned (.bool (sameL l m)) ∧ Only [] w w' := by
  obtain ⟨A1, cap1, rfl, hn1, hc1, hel1⟩ := h1.openE StoredR.cells (fun _ => rfl)
  obtain ⟨A2, cap2, rfl, hn2, hc2, hel2⟩ := h2.openE StoredR.cells (fun _ => rfl)
  unfold maxLen at hc1 hc2
  by_cases hlm : l.length = m.length
  · have hb : ((l.length : Int) != m.length) = false := by rw [hlm]; simp
    have HLM := Lib.hid hlm
    have hR : Hid (sameL l m = sameL (l.drop 0) (m.drop 0)) := rfl
    clear hlm
    go_enter Tryz.func63, Tryz.ntmps63
    go_wp2
    go_loopw [5] (fun i wr => ∃ k : Nat, k ≤ l.length ∧ i = .int .i64 k ∧ Hid (sameL l m = sameL (l.drop k) (m.drop k)) ∧ Only [] w wr) (fun i _ => l.length - (intOf i).toNat)
    case atStart => exact ⟨0, Nat.zero_le _, rfl, hR, Only.refl _ _⟩
    case round =>
      obtain ⟨k, hk, rfl, hT, hO⟩ := hrel
      by_cases hlt : k < l.length
      · have hlt2 : k < m.length := by rw [← HLM.out]; exact hlt
        obtain ⟨b1, off1, rfl, hb1, hcc1⟩ := hel1 k hlt
        obtain ⟨b2, off2, rfl, hb2, hcc2⟩ := hel2 k hlt2
        have hd := sameL_drop hlt hlt2
        obtain ⟨x, hx⟩ : ∃ x, x = l[k] := ⟨_, rfl⟩
        obtain ⟨y, hy⟩ : ∃ y, y = m[k] := ⟨_, rfl⟩
        rw [← hx] at hcc1 hd
        rw [← hy] at hcc2 hd
        have c0 : wr.cell? ⟨b1, off1 + k * 8, none⟩ = some (.int .i64 x.ev.id) := (hO.cell hb1 (by simp)).trans (hcc1 0 (by omega))
        have c1 : wr.cell? ⟨b1, off1 + k * 8 + 1, none⟩ = some (.string x.ev.type) := (hO.cell hb1 (by simp)).trans (hcc1 1 (by omega))
        have c2 : wr.cell? ⟨b1, off1 + k * 8 + 2, none⟩ = some (.string x.ev.data) := (hO.cell hb1 (by simp)).trans (hcc1 2 (by omega))
        have c3 : wr.cell? ⟨b1, off1 + k * 8 + 3, none⟩ = some (.float .f64 x.ev.value) := (hO.cell hb1 (by simp)).trans (hcc1 3 (by omega))
        have c4 : wr.cell? ⟨b1, off1 + k * 8 + 4, none⟩ = some (.string x.stream) := (hO.cell hb1 (by simp)).trans (hcc1 4 (by omega))
        have c5 : wr.cell? ⟨b1, off1 + k * 8 + 5, none⟩ = some (.int .i64 x.version) := (hO.cell hb1 (by simp)).trans (hcc1 5 (by omega))
        have c6 : wr.cell? ⟨b1, off1 + k * 8 + 6, none⟩ = some (.int .i64 x.position) := (hO.cell hb1 (by simp)).trans (hcc1 6 (by omega))
        have c7 : wr.cell? ⟨b1, off1 + k * 8 + 7, none⟩ = some (.int .i64 x.time) := (hO.cell hb1 (by simp)).trans (hcc1 7 (by omega))
        have d0 : wr.cell? ⟨b2, off2 + k * 8, none⟩ = some (.int .i64 y.ev.id) := (hO.cell hb2 (by simp)).trans (hcc2 0 (by omega))
        have d1 : wr.cell? ⟨b2, off2 + k * 8 + 1, none⟩ = some (.string y.ev.type) := (hO.cell hb2 (by simp)).trans (hcc2 1 (by omega))
        have d2 : wr.cell? ⟨b2, off2 + k * 8 + 2, none⟩ = some (.string y.ev.data) := (hO.cell hb2 (by simp)).trans (hcc2 2 (by omega))
        have d3 : wr.cell? ⟨b2, off2 + k * 8 + 3, none⟩ = some (.float .f64 y.ev.value) := (hO.cell hb2 (by simp)).trans (hcc2 3 (by omega))
        have d4 : wr.cell? ⟨b2, off2 + k * 8 + 4, none⟩ = some (.string y.stream) := (hO.cell hb2 (by simp)).trans (hcc2 4 (by omega))
        have d5 : wr.cell? ⟨b2, off2 + k * 8 + 5, none⟩ = some (.int .i64 y.version) := (hO.cell hb2 (by simp)).trans (hcc2 5 (by omega))
        have d6 : wr.cell? ⟨b2, off2 + k * 8 + 6, none⟩ = some (.int .i64 y.position) := (hO.cell hb2 (by simp)).trans (hcc2 6 (by omega))
        have d7 : wr.cell? ⟨b2, off2 + k * 8 + 7, none⟩ = some (.int .i64 y.time) := (hO.cell hb2 (by simp)).trans (hcc2 7 (by omega))
        have HS := Lib.hid (fun W => r7sameS_any x y W)
        have hki : (k : Int) < m.length := by omega
        clear hcc1 hcc2 hx hy hel1 hel2
        have F0 := Within.cell (S := []) c0 (by simp)
        have F1 := Within.cell (S := []) c1 (by simp)
        have F2 := Within.cell (S := []) c2 (by simp)
        have F3 := Within.cell (S := []) c3 (by simp)
        have F4 := Within.cell (S := []) c4 (by simp)
        have F5 := Within.cell (S := []) c5 (by simp)
        have F6 := Within.cell (S := []) c6 (by simp)
        have F7 := Within.cell (S := []) c7 (by simp)
        have G0 := Within.cell (S := []) d0 (by simp)
        have G1 := Within.cell (S := []) d1 (by simp)
        have G2 := Within.cell (S := []) d2 (by simp)
        have G3 := Within.cell (S := []) d3 (by simp)
        have G4 := Within.cell (S := []) d4 (by simp)
        have G5 := Within.cell (S := []) d5 (by simp)
        have G6 := Within.cell (S := []) d6 (by simp)
        have G7 := Within.cell (S := []) d7 (by simp)
        clear c0 c1 c2 c3 c4 c5 c6 c7 d0 d1 d2 d3 d4 d5 d6 d7
        cases hs : sameS x y with
        | true =>
          rw [hs] at HS
          have HN : Hid (sameL l m = sameL (l.drop (k + 1)) (m.drop (k + 1))) := by unfold Hid; rw [hT.out, hd, hs, Bool.true_and]
          clear hd hs hT
          go_wp2_with fail
          refine wp_region_in [] [0, 1, 2, 3, 4, 5, 6, 7] [] [8, 9] (by kernel_rfl) (by kernel_rfl) (by intro c d u a w h; cases d <;> exact h) ?_
          show wpQuiet _ _ _ _ [_, _, _, _, _, _, _, _] _
          repeat (go_big_quiet_step (fail))
          refine wpQuiet_nil ?_
          show wpList _ _ _ [_, _] _ _
          go_wp2_with (go_at_call 31; refine (HS.out _).mono ?_; rintro e w1 ⟨rfl, ho1⟩)
          exact ⟨⟨k + 1, hlt, by simp, HN, hO.drew.trans ho1⟩, by simp [intOf]; omega⟩
        | false =>
          rw [hs] at HS
          have HN : Hid (sameL l m = false) := by unfold Hid; rw [hT.out, hd, hs, Bool.false_and]
          clear hd hs hT
          go_wp2_with fail
          refine wp_region_in [] [0, 1, 2, 3, 4, 5, 6, 7] [] [8, 9] (by kernel_rfl) (by kernel_rfl) (by intro c d u a w h; cases d <;> exact h) ?_
          show wpQuiet _ _ _ _ [_, _, _, _, _, _, _, _] _
          repeat (go_big_quiet_step (fail))
          refine wpQuiet_nil ?_
          show wpList _ _ _ [_, _] _ _
          go_wp2_with (go_at_call 31; refine (HS.out _).mono ?_; rintro e w1 ⟨rfl, ho1⟩)
          go_ret
          exact ⟨ret_b (by rw [HN.out]), hO.drew.trans ho1⟩
      · have HN : Hid (sameL l m = true) := by
          unfold Hid
          rw [hT.out, List.drop_of_length_le (by omega), List.drop_of_length_le (by have := HLM.out; omega)]
          rfl
        clear hel1 hel2
        go_wp2
        go_ret
        exact ⟨ret_b (by rw [HN.out]), hO⟩
  · have hb : ((l.length : Int) != m.length) = true := by rw [bne_iff_ne]; omega
    have HN : Hid (sameL l m = false) := sameL_len l m hlm
    clear hlm hel1 hel2
    go_enter Tryz.func63, Tryz.ntmps63
    go_wp2
    go_ret
    exact ⟨ret_b (by rw [HN.out]), Only.refl _ _⟩
end Go.Proofs.YtpcemipfanimgaaGreatDoor
/- Contracts: stored events that are lent, and stay; a text in a list. -/
set_option linter.unusedVariables false
set_option linter.unusedSimpArgs false
namespace Go.Proofs.YtpcemipfanimgaaGreatDoor
open Go Go.RowKit Go.Sort Go.Lib
def markSt : StoredR := ⟨⟨0, ⟨#[]⟩, ⟨#[]⟩, 0⟩, ⟨#[]⟩, 0, -77, 0⟩
/-- A list that is lent lies in a row of its own, with a mark behind it. -/
structure LentS (w : World) (base : Nat) (A : Option Addr) (c : Nat) (l : List StoredR) : Prop where
  own : w.ownsRow base 26 8 (.slice A (l.length + 1) c) (l.length + 1) ((l ++ [markSt]).flatMap StoredR.cells)
section
variable {w w' : World} {base : Nat} {A : Option Addr} {c : Nat} {l : List StoredR} {S : List Nat}
theorem LentS.keep (h : LentS w base A c l) (k : Only S w w') (hS : ∀ b ∈ S, b < base) : LentS w' base A c l :=
  ⟨own_only h.own k (fun g hg q => by have := (World.ownsRow.lt h.own g hg).1; have := hS g q; omega)⟩
theorem flat8 (l : List StoredR) : (l.flatMap StoredR.cells).length = l.length * 8 := flat_len StoredR.cells 8 l (fun _ _ => rfl)
theorem LentS.slc (h : LentS w base A c l) : Slc w 8 (.slice A l.length c) l.length (l.flatMap StoredR.cells) := by
  have := slc_take (Slc.of_own h.own).1 (Nat.le_succ l.length)
  rwa [show ((l ++ [markSt]).flatMap StoredR.cells).take (l.length * 8) = l.flatMap StoredR.cells by rw [List.flatMap_append, ← flat8, List.take_left]] at this
theorem LentS.form (h : LentS w base A c l) : ∃ b, A = some ⟨b, 0, none⟩ ∧ base ≤ b ∧ b < w.heap.size ∧ l.length + 1 ≤ c ∧ c ≤ maxLen ∧ w.cell? ⟨b, l.length * 8 + 6, none⟩ = some (.int .i64 (-77)) := by
  obtain ⟨g, cap, cur, e, hb, hB⟩ := own_some h.own (by omega)
  obtain ⟨A', cap', e', hn, hm⟩ := own_form h.own
  injection e with e1 _ e3
  injection e' with _ _ e4
  refine ⟨g, e1, hb, hB.lt, by omega, by omega, ?_⟩
  subst e1
  obtain ⟨A2, cap2, e2, _, _, hel⟩ := (Slc.of_own (n := (l ++ [markSt]).length) (by rw [List.length_append]; exact h.own)).1.openE StoredR.cells (fun _ => rfl)
  obtain ⟨b, off, e3, _, hcc⟩ := hel l.length (by simp)
  injection e2 with e5 e6 e7
  rw [e3] at e5
  injection e5 with e5
  injection e5 with e8 e9
  subst e8 e9
  have := hcc 6 (by omega)
  rw [Nat.zero_add] at this
  rw [this]
  simp [markSt, StoredR.cells, EventR.cells]
set_option maxRecDepth 100000 in
set_option maxHeartbeats 1000000 in
theorem lentS_any {lv : Value} (hl : Slc w 8 lv l.length (l.flatMap StoredR.cells)) (hb : l.length ≤ 1000000) :
    Calls Tryz.prog 26 #[lv] w fun e w' => ∃ A c, e = .returned (.slice A l.length c) ∧ LentS w' w.heap.size A c l ∧ Only [] w w' := by
  have hsf := stF
  obtain ⟨Av, cv, rfl, _, _, _⟩ := hl.openE StoredR.cells (fun _ => rfl)
  obtain ⟨A4, c4, w4, hr4, hown4, hO4, _⟩ := run_app (P := Tryz.prog) (w := w) 28 28 w.heap.size 26 (.agg #[.int .i64 0, .string ⟨#[]⟩, .string ⟨#[]⟩, .float .f64 0, .string ⟨#[]⟩, .int .i64 0, .int .i64 0, .int .i64 0]) 8 88 Tryz.underlying28 infoSt rfl (by decide) (World.ownsRow_nil w w.heap.size 26 8) hl (stored_one l) (by omega) (by unfold maxLen; omega) (Nat.le_refl _)
  simp only [Nat.zero_add, List.nil_append] at hr4 hown4
  have k4 : Only [] w w4 := by simpa [Value.ownBlock] using hO4
  obtain ⟨A5, c5, w5, hr5, hown5, hO5, _⟩ := run_app (P := Tryz.prog) (w := w4.alloc (.cells #[.int .i64 0, .string ⟨#[]⟩, .string ⟨#[]⟩, .float .f64 0, .string ⟨#[]⟩, .int .i64 0, .int .i64 (-77), .int .i64 0] 26)) 28 28 w.heap.size 26 (.agg #[.int .i64 0, .string ⟨#[]⟩, .string ⟨#[]⟩, .float .f64 0, .string ⟨#[]⟩, .int .i64 0, .int .i64 0, .int .i64 0]) 8 88 Tryz.underlying28 infoSt rfl (by decide) (hown4.alloc _) (slc_new1 (w := w4) (e := 26) (size := 8) (cs := markSt.cells) rfl) (by simpa using stored_one [markSt]) (by omega) (by unfold maxLen; omega) (Nat.le_trans k4.size (by simp))
  have k5 : Only [] w w5 := (k4.alloc (.cells #[.int .i64 0, .string ⟨#[]⟩, .string ⟨#[]⟩, .float .f64 0, .string ⟨#[]⟩, .int .i64 0, .int .i64 (-77), .int .i64 0] 26)).step hO5 (fun g hg => .inr (World.ownsRow.lt hown4 g (by simpa using hg)).1)
  have hle : LentS w5 w.heap.size A5 c5 l := ⟨by rw [List.flatMap_append]; simpa using hown5⟩
  obtain ⟨b, rfl, _, _, hc1, hc2, _⟩ := hle.form
  unfold maxLen at hc2
  have HR4 := Lib.hid hr4
  have HR5 := Lib.hid hr5
  have HL := Lib.hid hle
  have hlc : l.length ≤ c5 := by omega
  clear hr4 hr5 hle hown4 hown5 hO4 hO5 hl
  go_enter Tryz.func26, Tryz.ntmps26
  go_wp2_with (at_builtin; first
    | refine Lib.wpList_append_run _ rfl (.const (.slice none 0 0)) (.tmp 3) 28 28 rfl _ _ rfl rfl _ _ HR4.out ?_
    | refine Lib.wpList_append_run _ rfl (.tmp 4) (.tmp 6) 28 28 rfl _ _ rfl rfl _ _ HR5.out ?_)
  go_ret
  exact ⟨_, _, rfl, HL.out, k5⟩
set_option maxRecDepth 100000 in
set_option maxHeartbeats 1000000 in
theorem staysS_any (h : LentS w base A c l) {lv : Value} (hl : Slc w 8 lv l.length (l.flatMap StoredR.cells)) (hb : l.length ≤ 1000000) :
    Calls Tryz.prog 28 #[.slice A l.length c, lv] w fun e w' => e = .returned (.bool true) ∧ Only [] w w' := by
  have hsm := sameL_any h.slc hl hb hb
  rw [sameL_refl] at hsm
  have HS := Lib.hid hsm
  obtain ⟨b, rfl, hbb, hbl, hc1, hc2, hcell⟩ := h.form
  unfold maxLen at hc2
  have hadd := IntWalk.i64_in ((l.length : Int) + 1) ⟨by omega, by omega⟩
  obtain ⟨Av, cv, rfl, _, _, _⟩ := hl.openE StoredR.cells (fun _ => rfl)
  clear h hl hsm
  go_enter Tryz.func28, Tryz.ntmps28
  go_wp2_with (go_at_call 63; refine HS.out.mono ?_; rintro e w1 ⟨rfl, k1⟩; have c1 : w1.cell? ⟨b, l.length * 8 + 6, none⟩ = some (.int .i64 (-77)) := (k1.cell hbl (by simp)).trans hcell)
  go_ret
  exact ⟨rfl, k1⟩
end
set_option maxRecDepth 100000 in
set_option maxHeartbeats 1000000 in
theorem inS_any {w : World} {v : Value} {l : List ByteArray} (h : Slc w 1 v l.length (strs l)) (t : ByteArray) (hl : l.length ≤ 1000000) (ht : t ∈ l) :
    Calls Tryz.prog 25 #[v, .string t] w fun e w' => e = .returned (.bool true) ∧ Only [] w w' := by
  obtain ⟨A, cap, rfl, hnc, hcm, hel⟩ := h.openS
  unfold maxLen at hcm
  go_enter Tryz.func25, Tryz.ntmps25
  go_wp2
  go_loopw [5] (fun i wr => ∃ k : Nat, k ≤ l.length ∧ i = .int .i64 k ∧ Hid (t ∈ l.drop k) ∧ Only [] w wr) (fun i _ => l.length - (intOf i).toNat)
  case atStart => exact ⟨0, Nat.zero_le _, rfl, ht, Only.refl _ _⟩
  case round =>
    obtain ⟨k, hk, rfl, hT, hO⟩ := hrel
    by_cases hlt : k < l.length
    · obtain ⟨b, off, rfl, hbb, hcc⟩ := hel k hlt
      have hm := hT.out
      rw [List.drop_eq_getElem_cons hlt] at hm
      obtain ⟨x, hx⟩ : ∃ x, l[k] = x := ⟨_, rfl⟩
      rw [hx] at hm hcc
      have c0 : wr.cell? ⟨b, off + k, none⟩ = some (.string x) := (hO.cell hbb (by simp)).trans hcc
      have hz := toList_dec x t
      clear hel hcc hx hT
      by_cases hq : x = t
      · rw [decide_eq_true hq] at hz
        clear hm hq
        go_wp2
        go_ret
        exact ⟨rfl, hO⟩
      · rw [decide_eq_false hq] at hz
        have HN : Hid (t ∈ l.drop (k + 1)) := by
          rcases List.mem_cons.1 hm with q | q
          · exact absurd q.symm hq
          · exact q
        clear hm hq
        go_wp2
        exact ⟨⟨k + 1, hlt, by simp, HN, hO⟩, by simp [intOf]; omega⟩
    · exfalso
      have := hT.out
      rw [List.drop_of_length_le (by omega)] at this
      cases this
end Go.Proofs.YtpcemipfanimgaaGreatDoor
/- Contract: At, an event of a stream that is seen. -/
set_option linter.unusedVariables false
set_option linter.unusedSimpArgs false
namespace Go.Proofs.YtpcemipfanimgaaGreatDoor
open Go.RowKit Go Go.Sort
/-- What At tells. -/
def MS.atB (s : MS) (n : ByteArray) (v : Int) : Option StoredR :=
  if v < 0 ∨ ((s.find n).places.length : Int) ≤ v then none
  else if s.seenAt (((s.find n).places[v.toNat]?).getD 0) then some (evAt s.all (((s.find n).places[v.toNat]?).getD 0)) else none
def atV : Option StoredR → Value
  | some x => .tuple #[.agg #[.int .i64 x.ev.id, .string x.ev.type, .string x.ev.data, .float .f64 x.ev.value, .string x.stream, .int .i64 x.version, .int .i64 x.position, .int .i64 x.time], .bool true]
  | none => .tuple #[.agg #[.int .i64 0, .string ⟨#[]⟩, .string ⟨#[]⟩, .float .f64 0, .string ⟨#[]⟩, .int .i64 0, .int .i64 0, .int .i64 0], .bool false]
section
variable {w : World} {M : List Nat} {sb mb N : Nat} {av : Value} {pf : ByteArray → Value} {s : MS}
set_option maxRecDepth 100000 in
set_option maxHeartbeats 4000000 in
theorem atS_any (h : StAt w M sb mb av pf s) (hs : s.Ok N) (hN : N ≤ 100000) (hi : s.Inv) (n : ByteArray) (v : Int) :
    Calls Tryz.prog 30 #[.pointer (some ⟨sb, 0, none⟩), .string n, .int .i64 v] w fun e w' => e = .returned (atV (s.atB n v)) ∧ Only [] w w' := by
  have hal := hs.all
  have hsf := stF
  obtain ⟨Ap, capp, hpv, hcm, hf⟩ := findv h n
  have hsl := (h.rd n).1
  rw [hpv] at hsl
  obtain ⟨_, _, e1, hnp, _, help⟩ := hsl.openI
  cases e1
  unfold maxLen at hcm
  have HF := Lib.hid hf
  have hbd := places_bd hi n
  have hSe := Lib.hid (fun (W : World) (hW : Only [] w W) (p : Int) => seenAt_any (h.only0 hW) hs hN p)
  obtain ⟨A2, cap2, hav, hnc2, hcm2, hel2⟩ := h.cell
  unfold maxLen at hcm2
  have hsb := h.blk
  rw [hav] at hsb
  have hs0 := hsb.cell 0
  have hslt := hsb.lt
  obtain ⟨x, hx⟩ : ∃ x, s.find n = x := ⟨_, rfl⟩
  have hatB : s.atB n v = if v < 0 ∨ (x.places.length : Int) ≤ v then none else if s.seenAt ((x.places[v.toNat]?).getD 0) then some (evAt s.all ((x.places[v.toNat]?).getD 0)) else none := by
    unfold MS.atB
    rw [hx]
  rw [hx] at HF help hbd hnp
  clear hf hpv hsl hav hsb hx
  by_cases hp : v < 0
  · have hR : Hid (s.atB n v = none) := by unfold Hid; rw [hatB, if_pos (.inl hp)]
    have hd : decide (v < 0) = true := decide_eq_true hp
    clear hatB help hel2
    go_enter Tryz.func30, Tryz.ntmps30
    go_wp2_with (go_at_call 46; refine (HF.out _ ((Only.refl _ _).alloc _)).mono ?_; rintro e w1 ⟨rfl, ho1⟩
                 have hf := fun o i => (((Only.refl [] w1).alloc o).blk (ho1.blk (Blk.new w 26 _) (by simp)) (by simp)).free i
                 have hc := fun o i => (((Only.refl [] w1).alloc o).blk (ho1.blk (Blk.new w 26 _) (by simp)) (by simp)).cell i)
    refine bodyPost_ret (v := .tuple #[.agg #[.int .i64 0, .string ⟨#[]⟩, .string ⟨#[]⟩, .float .f64 0, .string ⟨#[]⟩, .int .i64 0, .int .i64 0, .int .i64 0], .bool false]) (by simp [results, Tryz.results30, go_sem, hc]) rfl ⟨by rw [hR.out]; rfl, ?hw⟩
    case hw =>
      iterate 8 (refine Only.setCell ?_ (.inr (Nat.le_refl _)) _)
      exact (((Only.refl [] w).alloc _).trans ho1).alloc _
  · by_cases hge : (x.places.length : Int) ≤ v
    · have hR : Hid (s.atB n v = none) := by unfold Hid; rw [hatB, if_pos (.inr hge)]
      have hd : decide (v < 0) = false := decide_eq_false hp
      have hd2 : decide (v ≥ (x.places.length : Int)) = true := decide_eq_true hge
      clear hatB help hel2
      go_enter Tryz.func30, Tryz.ntmps30
      go_wp2_with (go_at_call 46; refine (HF.out _ ((Only.refl _ _).alloc _)).mono ?_; rintro e w1 ⟨rfl, ho1⟩
                   have hf := fun o i => (((Only.refl [] w1).alloc o).blk (ho1.blk (Blk.new w 26 _) (by simp)) (by simp)).free i
                   have hc := fun o i => (((Only.refl [] w1).alloc o).blk (ho1.blk (Blk.new w 26 _) (by simp)) (by simp)).cell i)
      refine bodyPost_ret (v := .tuple #[.agg #[.int .i64 0, .string ⟨#[]⟩, .string ⟨#[]⟩, .float .f64 0, .string ⟨#[]⟩, .int .i64 0, .int .i64 0, .int .i64 0], .bool false]) (by simp [results, Tryz.results30, go_sem, hc]) rfl ⟨by rw [hR.out]; rfl, ?hw⟩
      case hw =>
        iterate 8 (refine Only.setCell ?_ (.inr (Nat.le_refl _)) _)
        exact (((Only.refl [] w).alloc _).trans ho1).alloc _
    · obtain ⟨k, rfl⟩ : ∃ k : Nat, v = k := ⟨v.toNat, by omega⟩
      have hk : k < x.places.length := by omega
      obtain ⟨bp, offp, rfl, hbp, hcp⟩ := help k hk
      obtain ⟨pp, hpp⟩ : ∃ pp, x.places[k] = pp := ⟨_, rfl⟩
      have hpb := hbd pp (by rw [← hpp]; exact List.getElem_mem hk)
      obtain ⟨q, rfl⟩ : ∃ q : Nat, pp = q := ⟨pp.toNat, by omega⟩
      rw [hpp] at hcp
      have hatC : s.atB n (k : Int) = if s.seenAt (q : Int) then some (evAt s.all (q : Int)) else none := by
        rw [hatB, if_neg (by omega), Int.toNat_natCast, List.getElem?_eq_getElem hk, hpp]
        rfl
      have hd : decide ((k : Int) < 0) = false := decide_eq_false (by omega)
      have hd2 : decide ((k : Int) ≥ (x.places.length : Int)) = false := decide_eq_false (by omega)
      have hd3 : decide (k < x.places.length) = true := decide_eq_true hk
      have hd4 : decide (x.places.length ≤ k) = false := decide_eq_false (by omega)
      have hq : q < s.all.length := by omega
      obtain ⟨b2, rfl, hb2, hc2⟩ := hel2 q hq
      obtain ⟨z, hz⟩ : ∃ z, s.all[q] = z := ⟨_, rfl⟩
      rw [hz] at hc2
      have hze : evAt s.all (q : Int) = z := by rw [evAt_nat hq, hz]
      rw [hze] at hatC
      have HSe := Lib.hid (fun (W : World) (hW : Only [] w W) => hSe.out W hW (q : Int))
      cases hb : s.seenAt (q : Int) with
      | false =>
        rw [hb] at hatC HSe
        have hR : Hid (s.atB n (k : Int) = none) := hatC
        clear hatC hatB hc2 hpp hz hze hSe hb hel2 help hbd
        go_enter Tryz.func30, Tryz.ntmps30
        go_wp2_with (first
          | (go_at_call 46; refine (HF.out _ ((Only.refl _ _).alloc _)).mono ?_; rintro e w1 ⟨rfl, ho1⟩
             have ho1' := (((Only.refl [] w).alloc _).trans ho1)
             have d0 := fun o => (World.cell?_alloc_lt w1 o ⟨bp, offp + k, none⟩ (Nat.lt_of_lt_of_le hbp ho1'.size)).trans ((ho1'.cell hbp (by simp)).trans hcp))
          | (go_at_call 65; refine (HSe.out _ (((((Only.refl _ _).alloc _).trans ho1)).alloc _)).mono ?_; rintro e w2 ⟨rfl, ho2⟩
             have hk2 : Blk w2 w.heap.size 26 #[.int .i64 0, .string ⟨#[]⟩, .string ⟨#[]⟩, .float .f64 0, .string ⟨#[]⟩, .int .i64 0, .int .i64 0, .int .i64 0] := ho2.blk (((Only.refl [] w1).alloc _).blk (ho1.blk (Blk.new w _ _) (by simp)) (by simp)) (by simp)
             have hf := hk2.free
             have hc := hk2.cell))
        refine bodyPost_ret (v := .tuple #[.agg #[.int .i64 0, .string ⟨#[]⟩, .string ⟨#[]⟩, .float .f64 0, .string ⟨#[]⟩, .int .i64 0, .int .i64 0, .int .i64 0], .bool false]) (by simp [results, Tryz.results30, go_sem, hc]) rfl ⟨by rw [hR.out]; rfl, ?hw⟩
        case hw =>
          iterate 8 (refine Only.setCell ?_ (.inr (Nat.le_refl _)) _)
          exact ((((Only.refl [] w).alloc _).trans ho1).alloc _).trans ho2
      | true =>
        rw [hb] at hatC HSe
        have hR : Hid (s.atB n (k : Int) = some z) := hatC
        clear hatC hatB hpp hz hze hSe hb hel2 help hbd
        go_enter Tryz.func30, Tryz.ntmps30
        go_wp2_with (first
          | (go_at_call 46; refine (HF.out _ ((Only.refl _ _).alloc _)).mono ?_; rintro e w1 ⟨rfl, ho1⟩
             have ho1' := (((Only.refl [] w).alloc _).trans ho1)
             have d0 := fun o => (World.cell?_alloc_lt w1 o ⟨bp, offp + k, none⟩ (Nat.lt_of_lt_of_le hbp ho1'.size)).trans ((ho1'.cell hbp (by simp)).trans hcp))
          | (go_at_call 65; refine (HSe.out _ (((((Only.refl _ _).alloc _).trans ho1)).alloc _)).mono ?_; rintro e w2 ⟨rfl, ho2⟩))
        have hk2 : Blk w2 w.heap.size 26 #[.int .i64 0, .string ⟨#[]⟩, .string ⟨#[]⟩, .float .f64 0, .string ⟨#[]⟩, .int .i64 0, .int .i64 0, .int .i64 0] := ho2.blk (((Only.refl [] w1).alloc _).blk (ho1.blk (Blk.new w _ _) (by simp)) (by simp)) (by simp)
        have hf := hk2.free
        have hc := hk2.cell
        have hk1 : Blk w2 w1.heap.size 97 #[.slice (some ⟨bp, offp, none⟩) x.places.length capp, .int .i64 x.mt.maxCount, .int .i64 x.mt.maxAge, .int .i64 x.mt.before, .int .i64 x.floor, .bool x.deleted] := ho2.blk (Blk.new w1 _ _) (by simp)
        have e1 := hk1.cell 0
        have hO2 : Only [] w w2 := (ho1'.alloc _).trans ho2
        have e0 := (hO2.cell (p := ⟨sb, 0, none⟩) hslt (by simp)).trans hs0
        have e2 := (hO2.cell (p := ⟨bp, offp + k, none⟩) hbp (by simp)).trans hcp
        have d0' : w2.cell? ⟨b2, q * 8, none⟩ = some (.int .i64 z.ev.id) := (hO2.cell hb2 (by simp)).trans (hc2 0 (by omega))
        have d1 : w2.cell? ⟨b2, q * 8 + 1, none⟩ = some (.string z.ev.type) := (hO2.cell hb2 (by simp)).trans (hc2 1 (by omega))
        have d2 : w2.cell? ⟨b2, q * 8 + 2, none⟩ = some (.string z.ev.data) := (hO2.cell hb2 (by simp)).trans (hc2 2 (by omega))
        have d3 : w2.cell? ⟨b2, q * 8 + 3, none⟩ = some (.float .f64 z.ev.value) := (hO2.cell hb2 (by simp)).trans (hc2 3 (by omega))
        have d4 : w2.cell? ⟨b2, q * 8 + 4, none⟩ = some (.string z.stream) := (hO2.cell hb2 (by simp)).trans (hc2 4 (by omega))
        have d5 : w2.cell? ⟨b2, q * 8 + 5, none⟩ = some (.int .i64 z.version) := (hO2.cell hb2 (by simp)).trans (hc2 5 (by omega))
        have d6 : w2.cell? ⟨b2, q * 8 + 6, none⟩ = some (.int .i64 z.position) := (hO2.cell hb2 (by simp)).trans (hc2 6 (by omega))
        have d7 : w2.cell? ⟨b2, q * 8 + 7, none⟩ = some (.int .i64 z.time) := (hO2.cell hb2 (by simp)).trans (hc2 7 (by omega))
        clear hc2 hcp d0 hk1
        refine wp_region_stail 11 (by kernel_rfl) (by kernel_rfl) ?_
        simp only [List.take_succ_cons, List.take_zero, List.drop_succ_cons, List.drop_zero]
        repeat still_step
        refine wpStill_nil ?_
        go_wp2
        have hS8 := ((((((((hk2.set 0 (.int .i64 z.ev.id)).set 1 (.string z.ev.type)).set 2 (.string z.ev.data)).set 3 (.float .f64 z.ev.value)).set 4 (.string z.stream)).set 5 (.int .i64 z.version)).set 6 (.int .i64 z.position)).set 7 (.int .i64 z.time))
        have hO8 : Only [] w (((((((((w2.setCell ⟨w.heap.size, 0, none⟩ (.int .i64 z.ev.id)).setCell ⟨w.heap.size, 1, none⟩ (.string z.ev.type)).setCell ⟨w.heap.size, 2, none⟩ (.string z.ev.data)).setCell ⟨w.heap.size, 3, none⟩ (.float .f64 z.ev.value)).setCell ⟨w.heap.size, 4, none⟩ (.string z.stream)).setCell ⟨w.heap.size, 5, none⟩ (.int .i64 z.version)).setCell ⟨w.heap.size, 6, none⟩ (.int .i64 z.position)).setCell ⟨w.heap.size, 7, none⟩ (.int .i64 z.time))) := by
          iterate 8 (refine Only.setCell ?_ (.inr (Nat.le_refl _)) _)
          exact hO2
        obtain ⟨W3, hW3⟩ : ∃ W3, (((((((((w2.setCell ⟨w.heap.size, 0, none⟩ (.int .i64 z.ev.id)).setCell ⟨w.heap.size, 1, none⟩ (.string z.ev.type)).setCell ⟨w.heap.size, 2, none⟩ (.string z.ev.data)).setCell ⟨w.heap.size, 3, none⟩ (.float .f64 z.ev.value)).setCell ⟨w.heap.size, 4, none⟩ (.string z.stream)).setCell ⟨w.heap.size, 5, none⟩ (.int .i64 z.version)).setCell ⟨w.heap.size, 6, none⟩ (.int .i64 z.position)).setCell ⟨w.heap.size, 7, none⟩ (.int .i64 z.time))) = W3 := ⟨_, rfl⟩
        rw [hW3] at hS8 hO8 ⊢
        have hc8 : ∀ i, W3.drew.cell? ⟨w.heap.size, i, none⟩ = _ := hS8.cell
        refine bodyPost_ret (v := .tuple #[.agg #[.int .i64 z.ev.id, .string z.ev.type, .string z.ev.data, .float .f64 z.ev.value, .string z.stream, .int .i64 z.version, .int .i64 z.position, .int .i64 z.time], .bool true]) (by simp [results, Tryz.results30, go_sem, hc8]) rfl ⟨by rw [hR.out]; rfl, hO8.drew⟩
end
end Go.Proofs.YtpcemipfanimgaaGreatDoor
/- Contracts: what links lead to, put in their places. -/
set_option linter.unusedVariables false
set_option linter.unusedSimpArgs false
namespace Go.Proofs.YtpcemipfanimgaaGreatDoor
open Go Go.RowKit Go.Sort
def unresT : ByteArray := ⟨#[36, 117, 110, 114, 101, 115, 111, 108, 118, 101, 100]⟩
def resolveB (s : MS) (x : StoredR) : StoredR :=
  if x.ev.type.data.toList = linkT then
    match unlinkB x.ev.data with
    | some (v, n) => match s.atB n v with
      | some y => y
      | none => { x with ev := { x.ev with type := unresT } }
    | none => x
  else x
section
variable {a w : World} {R E : List Nat} {sb mb N : Nat} {s : MS}
theorem has_at (h : HasS a w R E sb mb s N) (hN : N ≤ 100000) (n : ByteArray) (v : Int) :
    Calls Tryz.prog 30 #[.pointer (some ⟨sb, 0, none⟩), .string n, .int .i64 v] w fun e w' => e = .returned (atV (s.atB n v)) ∧ Only [] w w' := by
  obtain ⟨M, av, pf, h1, _⟩ := h.st
  exact atS_any h1 h.ok hN h.inv n v
set_option maxRecDepth 100000 in
set_option maxHeartbeats 2000000 in
theorem kresolve1_any {hb : Nat} (h : HasS a w R E sb mb s N) (hN : N ≤ 100000) (hB : Blk w hb 34 #[.pointer (some ⟨sb, 0, none⟩)]) (n : ByteArray) (v : Int) :
    Calls Tryz.prog 62 #[.int .i64 v, .string n, .pointer (some ⟨hb, 0, none⟩)] w fun e w' => e = .returned (atV (s.atB n v)) ∧ Only [] w w' := by
  have HAt := Lib.hid (fun (W : World) (hW : Only [] w W) => has_at (h.keep hW) hN n v)
  have k0 := fun o => (((Only.refl [] w).alloc o).blk hB (by simp)).cell 0
  have hsf := stF
  obtain ⟨r, hr⟩ : ∃ r, s.atB n v = r := ⟨_, rfl⟩
  rw [hr] at HAt ⊢
  clear h hB hr
  cases r with
  | none =>
    unfold atV at HAt
    go_enter Tryz.func62, Tryz.ntmps62
    go_wp2_with (go_at_call 30; refine (HAt.out _ ((Only.refl _ _).alloc _)).mono ?_; rintro e w1 ⟨rfl, ho1⟩
                 have hf := fun i => (ho1.blk (Blk.new w 26 _) (by simp)).free i
                 have hc := fun i => (ho1.blk (Blk.new w 26 _) (by simp)).cell i)
    refine bodyPost_ret (v := .tuple #[.agg #[.int .i64 0, .string ⟨#[]⟩, .string ⟨#[]⟩, .float .f64 0, .string ⟨#[]⟩, .int .i64 0, .int .i64 0, .int .i64 0], .bool false]) (by simp [results, Tryz.results62, go_sem, hc]) rfl ⟨rfl, ?hw⟩
    case hw =>
      iterate 8 (refine Only.setCell ?_ (.inr (Nat.le_refl _)) _)
      exact ((Only.refl [] w).alloc _).trans ho1
  | some x =>
    unfold atV at HAt
    go_enter Tryz.func62, Tryz.ntmps62
    go_wp2_with (go_at_call 30; refine (HAt.out _ ((Only.refl _ _).alloc _)).mono ?_; rintro e w1 ⟨rfl, ho1⟩
                 have hf := fun i => (ho1.blk (Blk.new w 26 _) (by simp)).free i
                 have hc := fun i => (ho1.blk (Blk.new w 26 _) (by simp)).cell i)
    refine bodyPost_ret (v := .tuple #[.agg #[.int .i64 x.ev.id, .string x.ev.type, .string x.ev.data, .float .f64 x.ev.value, .string x.stream, .int .i64 x.version, .int .i64 x.position, .int .i64 x.time], .bool true]) (by simp [results, Tryz.results62, go_sem, hc]) rfl ⟨rfl, ?hw⟩
    case hw =>
      iterate 8 (refine Only.setCell ?_ (.inr (Nat.le_refl _)) _)
      exact ((Only.refl [] w).alloc _).trans ho1
set_option maxRecDepth 100000 in
set_option maxHeartbeats 4000000 in
theorem vresolve_any {hb : Nat} (h : HasS a w R E sb mb s N) (hN : N ≤ 100000) (hB : Blk w hb 34 #[.pointer (some ⟨sb, 0, none⟩)]) (x : StoredR) (hx : x.ev.data.size ≤ 1000000) :
    Calls Tryz.prog 111 #[.agg #[.int .i64 x.ev.id, .string x.ev.type, .string x.ev.data, .float .f64 x.ev.value, .string x.stream, .int .i64 x.version, .int .i64 x.position, .int .i64 x.time], .func (.func 62) #[] #[.pointer (some ⟨hb, 0, none⟩)]] w fun e w' => e = .returned (resolveB s x).val ∧ Only [] w w' := by
  have HC := Lib.hid (fun (W : World) (hW : Only [] w W) (n : ByteArray) (v : Int) => kresolve1_any (h.keep hW) hN (hW.blk hB (by simp)) n v)
  have hun := fun (W : World) => unlink_any x.ev.data W hx
  have hsf := stF
  have hz : (x.ev.type.toList == [36, 62]) = decide (x.ev.type.data.toList = linkT) := toList_lit x.ev.type [36, 62]
  obtain ⟨y, hy⟩ : ∃ y, resolveB s x = y := ⟨_, rfl⟩
  rw [hy]
  unfold resolveB at hy
  obtain ⟨xe, xs, xv, xp, xt⟩ := x
  obtain ⟨xi, xty, xd, xf⟩ := xe
  simp only [] at hun hy hz ⊢
  have hx : xd.size ≤ 1000000 := hx
  unfold StoredR.val
  have hB1 := Blk.new w 26 #[.int .i64 xi, .string xty, .string xd, .float .f64 xf, .string xs, .int .i64 xv, .int .i64 xp, .int .i64 xt]
  obtain ⟨W1, hW1⟩ : ∃ W1, w.alloc (.cells #[.int .i64 xi, .string xty, .string xd, .float .f64 xf, .string xs, .int .i64 xv, .int .i64 xp, .int .i64 xt] 26) = W1 := ⟨_, rfl⟩
  have hO1 : Only [] w W1 := by rw [← hW1]; exact (Only.refl [] w).alloc _
  have hs1 : W1.heap.size = w.heap.size + 1 := by rw [← hW1]; simp
  rw [hW1] at hB1
  have hB2 := Blk.new W1 26 #[.int .i64 0, .string ⟨#[]⟩, .string ⟨#[]⟩, .float .f64 0, .string ⟨#[]⟩, .int .i64 0, .int .i64 0, .int .i64 0]
  obtain ⟨W2, hW2⟩ : ∃ W2, W1.alloc (.cells #[.int .i64 0, .string ⟨#[]⟩, .string ⟨#[]⟩, .float .f64 0, .string ⟨#[]⟩, .int .i64 0, .int .i64 0, .int .i64 0] 26) = W2 := ⟨_, rfl⟩
  have hO12 : Only [] W1 W2 := by rw [← hW2]; exact (Only.refl [] W1).alloc _
  have hO2 : Only [] w W2 := hO1.trans hO12
  rw [hW2, hs1] at hB2
  have hnf : ∀ W, Sem.run Tryz.prog (Go.binOp BinOp.neq 115 (Value.func (.func 62) #[] #[.pointer (some ⟨hb, 0, none⟩)]) Value.nilFunc) W = .ok (.bool true) W := fun W => by kernel_rfl
  have hB1 := hO12.blk hB1 (by simp)
  have HW1 := Lib.hid hW1
  have HW2 := Lib.hid hW2
  have HS1 := Lib.hid hs1
  clear h hB hW1 hW2 hO12 hO1 hs1
  by_cases hl : xty.data.toList = linkT
  · rw [if_pos hl] at hy
    rw [decide_eq_true hl] at hz
    cases hu : unlinkB xd with
    | none =>
      rw [hu] at hy
      unfold unlinkRet at hun
      rw [hu] at hun
      have HU := Lib.hid hun
      have HR := Lib.hid hy.symm
      clear hun hy hu hl
      go_enter Tryz.func111, Tryz.ntmps111
      go_wp2_with fail
      rw [HW1.out, HW2.out]
      refine (HU.out _).mono ?_
      rintro e w1 ⟨rfl, ho1⟩
      have k1 := ho1.blk hB1 (by simp)
      have k2 := ho1.blk hB2 (by simp)
      have hc := k1.cell
      have hf2 := k2.free
      have hc2 := k2.cell
      go_wp2
      have hS8 := ((((((((k2.set 0 (.int .i64 xi)).set 1 (.string xty)).set 2 (.string xd)).set 3 (.float .f64 xf)).set 4 (.string xs)).set 5 (.int .i64 xv)).set 6 (.int .i64 xp)).set 7 (.int .i64 xt))
      have hO8 : Only [] w (((((((((w1.setCell ⟨w.heap.size + 1, 0, none⟩ (.int .i64 xi)).setCell ⟨w.heap.size + 1, 1, none⟩ (.string xty)).setCell ⟨w.heap.size + 1, 2, none⟩ (.string xd)).setCell ⟨w.heap.size + 1, 3, none⟩ (.float .f64 xf)).setCell ⟨w.heap.size + 1, 4, none⟩ (.string xs)).setCell ⟨w.heap.size + 1, 5, none⟩ (.int .i64 xv)).setCell ⟨w.heap.size + 1, 6, none⟩ (.int .i64 xp)).setCell ⟨w.heap.size + 1, 7, none⟩ (.int .i64 xt))) := by
        iterate 8 (refine Only.setCell ?_ (.inr (Nat.le_succ _)) _)
        exact (hO2.trans ho1)
      obtain ⟨W3, hW3⟩ : ∃ W3, (((((((((w1.setCell ⟨w.heap.size + 1, 0, none⟩ (.int .i64 xi)).setCell ⟨w.heap.size + 1, 1, none⟩ (.string xty)).setCell ⟨w.heap.size + 1, 2, none⟩ (.string xd)).setCell ⟨w.heap.size + 1, 3, none⟩ (.float .f64 xf)).setCell ⟨w.heap.size + 1, 4, none⟩ (.string xs)).setCell ⟨w.heap.size + 1, 5, none⟩ (.int .i64 xv)).setCell ⟨w.heap.size + 1, 6, none⟩ (.int .i64 xp)).setCell ⟨w.heap.size + 1, 7, none⟩ (.int .i64 xt))) = W3 := ⟨_, rfl⟩
      rw [hW3] at hS8 hO8 ⊢
      have hc8 : ∀ i, W3.cell? ⟨w.heap.size + 1, i, none⟩ = _ := hS8.cell
      refine bodyPost_ret (v := .agg #[.int .i64 xi, .string xty, .string xd, .float .f64 xf, .string xs, .int .i64 xv, .int .i64 xp, .int .i64 xt]) (by simp [results, Tryz.results111, go_sem, hc8]) rfl ⟨by rw [HR.out] <;> rfl, hO8⟩
    | some q =>
      obtain ⟨v, n⟩ := q
      rw [hu] at hy
      dsimp only at hy
      unfold unlinkRet at hun
      rw [hu] at hun
      have HU := Lib.hid hun
      have HC1 := Lib.hid (fun (W : World) (hW : Only [] w W) => HC.out W hW n v)
      clear hun hu hl HC
      cases hat : s.atB n v with
      | none =>
        rw [hat] at hy HC1
        dsimp only at hy
        have HR := Lib.hid hy.symm
        unfold atV at HC1
        clear hy hat
        go_enter Tryz.func111, Tryz.ntmps111
        go_wp2_with fail
        rw [HW1.out, HW2.out]
        refine (HU.out _).mono ?_
        rintro e w1 ⟨rfl, ho1⟩
        have k1 := ho1.blk hB1 (by simp)
        have k2 := ho1.blk hB2 (by simp)
        have hc := k1.cell
        have hf2 := k2.free
        have hc2 := k2.cell
        go_wp2_with (go_at_call 62; refine (HC1.out _ (hO2.trans ho1)).mono ?_; rintro e w2 ⟨rfl, ho2⟩
                     have hal := fun o => (ho2.alloc o)
                     have m1 := fun o => (hal o).blk k1 (by simp)
                     have m2 := fun o => (hal o).blk k2 (by simp)
                     have hd := fun o => (m1 o).cell
                     have hdf := fun o => (m1 o).free
                     have hd2 := fun o => (m2 o).cell
                     have hd2f := fun o => (m2 o).free)
        have m3 := ((Only.refl [w.heap.size] (w2.alloc (.cells #[.int .i64 0, .string ⟨#[]⟩, .string ⟨#[]⟩, .float .f64 0, .string ⟨#[]⟩, .int .i64 0, .int .i64 0, .int .i64 0] 26))).setCell (p := ⟨w.heap.size, 1, none⟩) (.inl (by simp)) (.string ⟨#[36, 117, 110, 114, 101, 115, 111, 108, 118, 101, 100]⟩)).blk (m2 _) (by simp)
        have hO3 : Only [] w ((w2.alloc (.cells #[.int .i64 0, .string ⟨#[]⟩, .string ⟨#[]⟩, .float .f64 0, .string ⟨#[]⟩, .int .i64 0, .int .i64 0, .int .i64 0] 26)).setCell ⟨w.heap.size, 1, none⟩ (.string ⟨#[36, 117, 110, 114, 101, 115, 111, 108, 118, 101, 100]⟩)) := ((hO2.trans ho1).trans (hal _)).setCell (.inr (Nat.le_refl _)) _
        have hS8 := ((((((((m3.set 0 (.int .i64 xi)).set 1 (.string (⟨#[36, 117, 110, 114, 101, 115, 111, 108, 118, 101, 100]⟩))).set 2 (.string xd)).set 3 (.float .f64 xf)).set 4 (.string xs)).set 5 (.int .i64 xv)).set 6 (.int .i64 xp)).set 7 (.int .i64 xt))
        have hO8 : Only [] w (((((((((((w2.alloc (.cells #[.int .i64 0, .string ⟨#[]⟩, .string ⟨#[]⟩, .float .f64 0, .string ⟨#[]⟩, .int .i64 0, .int .i64 0, .int .i64 0] 26)).setCell ⟨w.heap.size, 1, none⟩ (.string ⟨#[36, 117, 110, 114, 101, 115, 111, 108, 118, 101, 100]⟩)).setCell ⟨w.heap.size + 1, 0, none⟩ (.int .i64 xi)).setCell ⟨w.heap.size + 1, 1, none⟩ (.string (⟨#[36, 117, 110, 114, 101, 115, 111, 108, 118, 101, 100]⟩))).setCell ⟨w.heap.size + 1, 2, none⟩ (.string xd)).setCell ⟨w.heap.size + 1, 3, none⟩ (.float .f64 xf)).setCell ⟨w.heap.size + 1, 4, none⟩ (.string xs)).setCell ⟨w.heap.size + 1, 5, none⟩ (.int .i64 xv)).setCell ⟨w.heap.size + 1, 6, none⟩ (.int .i64 xp)).setCell ⟨w.heap.size + 1, 7, none⟩ (.int .i64 xt))) := by
          iterate 8 (refine Only.setCell ?_ (.inr (Nat.le_succ _)) _)
          exact hO3
        obtain ⟨W3, hW3⟩ : ∃ W3, (((((((((((w2.alloc (.cells #[.int .i64 0, .string ⟨#[]⟩, .string ⟨#[]⟩, .float .f64 0, .string ⟨#[]⟩, .int .i64 0, .int .i64 0, .int .i64 0] 26)).setCell ⟨w.heap.size, 1, none⟩ (.string ⟨#[36, 117, 110, 114, 101, 115, 111, 108, 118, 101, 100]⟩)).setCell ⟨w.heap.size + 1, 0, none⟩ (.int .i64 xi)).setCell ⟨w.heap.size + 1, 1, none⟩ (.string (⟨#[36, 117, 110, 114, 101, 115, 111, 108, 118, 101, 100]⟩))).setCell ⟨w.heap.size + 1, 2, none⟩ (.string xd)).setCell ⟨w.heap.size + 1, 3, none⟩ (.float .f64 xf)).setCell ⟨w.heap.size + 1, 4, none⟩ (.string xs)).setCell ⟨w.heap.size + 1, 5, none⟩ (.int .i64 xv)).setCell ⟨w.heap.size + 1, 6, none⟩ (.int .i64 xp)).setCell ⟨w.heap.size + 1, 7, none⟩ (.int .i64 xt))) = W3 := ⟨_, rfl⟩
        rw [hW3] at hS8 hO8 ⊢
        have hc8 : ∀ i, W3.cell? ⟨w.heap.size + 1, i, none⟩ = _ := hS8.cell
        refine bodyPost_ret (v := .agg #[.int .i64 xi, .string (⟨#[36, 117, 110, 114, 101, 115, 111, 108, 118, 101, 100]⟩), .string xd, .float .f64 xf, .string xs, .int .i64 xv, .int .i64 xp, .int .i64 xt]) (by simp [results, Tryz.results111, go_sem, hc8]) rfl ⟨by rw [HR.out] <;> rfl, hO8⟩
      | some z =>
        rw [hat] at hy HC1
        dsimp only at hy
        have HR := Lib.hid hy.symm
        unfold atV at HC1
        clear hy hat
        go_enter Tryz.func111, Tryz.ntmps111
        go_wp2_with fail
        rw [HW1.out, HW2.out]
        refine (HU.out _).mono ?_
        rintro e w1 ⟨rfl, ho1⟩
        have k1 := ho1.blk hB1 (by simp)
        have k2 := ho1.blk hB2 (by simp)
        have hc := k1.cell
        have hf2 := k2.free
        have hc2 := k2.cell
        go_wp2_with (go_at_call 62; refine (HC1.out _ (hO2.trans ho1)).mono ?_; rintro e w2 ⟨rfl, ho2⟩
                     have hal := fun o => (ho2.alloc o)
                     have m2 := fun o => (hal o).blk k2 (by simp)
                     have hd2 := fun o => (m2 o).cell
                     have hd2f := fun o => (m2 o).free)
        have m3 := m2 (.cells #[.int .i64 z.ev.id, .string z.ev.type, .string z.ev.data, .float .f64 z.ev.value, .string z.stream, .int .i64 z.version, .int .i64 z.position, .int .i64 z.time] 26)
        have hO3 : Only [] w (w2.alloc (.cells #[.int .i64 z.ev.id, .string z.ev.type, .string z.ev.data, .float .f64 z.ev.value, .string z.stream, .int .i64 z.version, .int .i64 z.position, .int .i64 z.time] 26)) := (hO2.trans ho1).trans (hal _)
        have hS8 := ((((((((m3.set 0 (.int .i64 z.ev.id)).set 1 (.string z.ev.type)).set 2 (.string z.ev.data)).set 3 (.float .f64 z.ev.value)).set 4 (.string z.stream)).set 5 (.int .i64 z.version)).set 6 (.int .i64 z.position)).set 7 (.int .i64 z.time))
        have hO8 : Only [] w ((((((((((w2.alloc (.cells #[.int .i64 z.ev.id, .string z.ev.type, .string z.ev.data, .float .f64 z.ev.value, .string z.stream, .int .i64 z.version, .int .i64 z.position, .int .i64 z.time] 26)).setCell ⟨w.heap.size + 1, 0, none⟩ (.int .i64 z.ev.id)).setCell ⟨w.heap.size + 1, 1, none⟩ (.string z.ev.type)).setCell ⟨w.heap.size + 1, 2, none⟩ (.string z.ev.data)).setCell ⟨w.heap.size + 1, 3, none⟩ (.float .f64 z.ev.value)).setCell ⟨w.heap.size + 1, 4, none⟩ (.string z.stream)).setCell ⟨w.heap.size + 1, 5, none⟩ (.int .i64 z.version)).setCell ⟨w.heap.size + 1, 6, none⟩ (.int .i64 z.position)).setCell ⟨w.heap.size + 1, 7, none⟩ (.int .i64 z.time))) := by
          iterate 8 (refine Only.setCell ?_ (.inr (Nat.le_succ _)) _)
          exact hO3
        obtain ⟨W3, hW3⟩ : ∃ W3, ((((((((((w2.alloc (.cells #[.int .i64 z.ev.id, .string z.ev.type, .string z.ev.data, .float .f64 z.ev.value, .string z.stream, .int .i64 z.version, .int .i64 z.position, .int .i64 z.time] 26)).setCell ⟨w.heap.size + 1, 0, none⟩ (.int .i64 z.ev.id)).setCell ⟨w.heap.size + 1, 1, none⟩ (.string z.ev.type)).setCell ⟨w.heap.size + 1, 2, none⟩ (.string z.ev.data)).setCell ⟨w.heap.size + 1, 3, none⟩ (.float .f64 z.ev.value)).setCell ⟨w.heap.size + 1, 4, none⟩ (.string z.stream)).setCell ⟨w.heap.size + 1, 5, none⟩ (.int .i64 z.version)).setCell ⟨w.heap.size + 1, 6, none⟩ (.int .i64 z.position)).setCell ⟨w.heap.size + 1, 7, none⟩ (.int .i64 z.time))) = W3 := ⟨_, rfl⟩
        rw [hW3] at hS8 hO8 ⊢
        have hc8 : ∀ i, W3.cell? ⟨w.heap.size + 1, i, none⟩ = _ := hS8.cell
        refine bodyPost_ret (v := .agg #[.int .i64 z.ev.id, .string z.ev.type, .string z.ev.data, .float .f64 z.ev.value, .string z.stream, .int .i64 z.version, .int .i64 z.position, .int .i64 z.time]) (by simp [results, Tryz.results111, go_sem, hc8]) rfl ⟨by rw [HR.out] <;> rfl, hO8⟩
  · rw [if_neg hl] at hy
    rw [decide_eq_false hl] at hz
    have HU := Lib.hid hun
    have HR := Lib.hid hy.symm
    clear hun hy hl
    go_enter Tryz.func111, Tryz.ntmps111
    go_wp2_with fail
    rw [HW1.out, HW2.out]
    refine (HU.out _).mono ?_
    rintro e w1 ⟨rfl, ho1⟩
    have k1 := ho1.blk hB1 (by simp)
    have k2 := ho1.blk hB2 (by simp)
    have hc := k1.cell
    have hf2 := k2.free
    have hc2 := k2.cell
    go_wp2
    have hS8 := ((((((((k2.set 0 (.int .i64 xi)).set 1 (.string xty)).set 2 (.string xd)).set 3 (.float .f64 xf)).set 4 (.string xs)).set 5 (.int .i64 xv)).set 6 (.int .i64 xp)).set 7 (.int .i64 xt))
    have hO8 : Only [] w (((((((((w1.setCell ⟨w.heap.size + 1, 0, none⟩ (.int .i64 xi)).setCell ⟨w.heap.size + 1, 1, none⟩ (.string xty)).setCell ⟨w.heap.size + 1, 2, none⟩ (.string xd)).setCell ⟨w.heap.size + 1, 3, none⟩ (.float .f64 xf)).setCell ⟨w.heap.size + 1, 4, none⟩ (.string xs)).setCell ⟨w.heap.size + 1, 5, none⟩ (.int .i64 xv)).setCell ⟨w.heap.size + 1, 6, none⟩ (.int .i64 xp)).setCell ⟨w.heap.size + 1, 7, none⟩ (.int .i64 xt))) := by
      iterate 8 (refine Only.setCell ?_ (.inr (Nat.le_succ _)) _)
      exact (hO2.trans ho1)
    obtain ⟨W3, hW3⟩ : ∃ W3, (((((((((w1.setCell ⟨w.heap.size + 1, 0, none⟩ (.int .i64 xi)).setCell ⟨w.heap.size + 1, 1, none⟩ (.string xty)).setCell ⟨w.heap.size + 1, 2, none⟩ (.string xd)).setCell ⟨w.heap.size + 1, 3, none⟩ (.float .f64 xf)).setCell ⟨w.heap.size + 1, 4, none⟩ (.string xs)).setCell ⟨w.heap.size + 1, 5, none⟩ (.int .i64 xv)).setCell ⟨w.heap.size + 1, 6, none⟩ (.int .i64 xp)).setCell ⟨w.heap.size + 1, 7, none⟩ (.int .i64 xt))) = W3 := ⟨_, rfl⟩
    rw [hW3] at hS8 hO8 ⊢
    have hc8 : ∀ i, W3.cell? ⟨w.heap.size + 1, i, none⟩ = _ := hS8.cell
    refine bodyPost_ret (v := .agg #[.int .i64 xi, .string xty, .string xd, .float .f64 xf, .string xs, .int .i64 xv, .int .i64 xp, .int .i64 xt]) (by simp [results, Tryz.results111, go_sem, hc8]) rfl ⟨by rw [HR.out] <;> rfl, hO8⟩
end
end Go.Proofs.YtpcemipfanimgaaGreatDoor
/- Contracts: a page with what its links lead to. -/
set_option linter.unusedVariables false
set_option linter.unusedSimpArgs false
namespace Go.Proofs.YtpcemipfanimgaaGreatDoor
open Go Go.RowKit Go.Sort
section
variable {a w : World} {R E : List Nat} {sb mb N : Nat} {s : MS}
theorem resK_succ (s : MS) (l : List StoredR) {k : Nat} (h : k < l.length) : (l.take (k + 1)).map (resolveB s) = (l.take k).map (resolveB s) ++ [resolveB s l[k]] := by
  rw [List.take_succ_eq_append_getElem h, List.map_append]
  rfl
set_option maxRecDepth 100000 in
set_option maxHeartbeats 4000000 in
theorem vlinks_any {hb : Nat} {v : Value} {l : List StoredR} (h : HasS a w R E sb mb s N) (hN : N ≤ 100000) (hB : Blk w hb 34 #[.pointer (some ⟨sb, 0, none⟩)]) (hl : Slc w 8 v l.length (l.flatMap StoredR.cells)) (hlen : l.length ≤ 1000000) (hd : ∀ x ∈ l, x.ev.data.size ≤ 1000000) :
    Calls Tryz.prog 61 #[v, .func (.func 62) #[] #[.pointer (some ⟨hb, 0, none⟩)]] w fun e w' => ∃ A cap, e = .returned (.slice A l.length cap) ∧ w'.ownsRow w.heap.size 26 8 (.slice A l.length cap) l.length ((l.map (resolveB s)).flatMap StoredR.cells) ∧ Only [] w w' := by
  obtain ⟨A1, cap1, rfl, hnc1, hcm1, hel1⟩ := hl.openE StoredR.cells (fun _ => rfl)
  unfold maxLen at hcm1
  have hsf := stF
  have HC := Lib.hid (fun (W : World) (hW : Only [] w W) (x : StoredR) (hx : x.ev.data.size ≤ 1000000) => vresolve_any (h.keep hW) hN (hW.blk hB (by simp)) x hx)
  clear h hB hl
  go_enter Tryz.func61, Tryz.ntmps61
  go_wp2
  go_loopw [5, 10] (fun o i wr => ∃ (k : Nat) (A : Option Addr) (cap : Nat), k ≤ l.length ∧ i = .int .i64 k ∧ o = .slice A k cap ∧ wr.ownsRow w.heap.size 26 8 (.slice A k cap) k (((l.take k).map (resolveB s)).flatMap StoredR.cells) ∧ Only [] w wr) (fun _ i _ => l.length - (intOf i).toNat)
  case atStart => exact ⟨0, none, 0, Nat.zero_le _, rfl, rfl, World.ownsRow_nil _ _ _ _, Only.refl _ _⟩
  case round =>
    obtain ⟨k, A, cap, hk, rfl, rfl, hown, hO⟩ := hrel
    by_cases hlt : k < l.length
    · obtain ⟨b, off, rfl, hbb, hcc⟩ := hel1 k hlt
      have hnx := resK_succ s l hlt
      obtain ⟨x, hx⟩ : ∃ x, x = l[k] := ⟨_, rfl⟩
      have hxd := hd x (by rw [hx]; exact List.getElem_mem hlt)
      rw [← hx] at hcc hnx
      have c0 : wr.cell? ⟨b, off + k * 8, none⟩ = some (.int .i64 x.ev.id) := (hO.cell hbb (by simp)).trans (hcc 0 (by omega))
      have c1 : wr.cell? ⟨b, off + k * 8 + 1, none⟩ = some (.string x.ev.type) := (hO.cell hbb (by simp)).trans (hcc 1 (by omega))
      have c2 : wr.cell? ⟨b, off + k * 8 + 2, none⟩ = some (.string x.ev.data) := (hO.cell hbb (by simp)).trans (hcc 2 (by omega))
      have c3 : wr.cell? ⟨b, off + k * 8 + 3, none⟩ = some (.float .f64 x.ev.value) := (hO.cell hbb (by simp)).trans (hcc 3 (by omega))
      have c4 : wr.cell? ⟨b, off + k * 8 + 4, none⟩ = some (.string x.stream) := (hO.cell hbb (by simp)).trans (hcc 4 (by omega))
      have c5 : wr.cell? ⟨b, off + k * 8 + 5, none⟩ = some (.int .i64 x.version) := (hO.cell hbb (by simp)).trans (hcc 5 (by omega))
      have c6 : wr.cell? ⟨b, off + k * 8 + 6, none⟩ = some (.int .i64 x.position) := (hO.cell hbb (by simp)).trans (hcc 6 (by omega))
      have c7 : wr.cell? ⟨b, off + k * 8 + 7, none⟩ = some (.int .i64 x.time) := (hO.cell hbb (by simp)).trans (hcc 7 (by omega))
      have HC1 := Lib.hid (fun W hW => HC.out W hW x hxd)
      obtain ⟨y, hy⟩ : ∃ y, resolveB s x = y := ⟨_, rfl⟩
      rw [hy] at HC1 hnx
      unfold StoredR.val at HC1
      obtain ⟨L, hL⟩ : ∃ L, (l.take k).map (resolveB s) = L := ⟨_, rfl⟩
      rw [hL] at hown hnx
      have hLk : L.length = k := by rw [← hL, List.length_map, List.length_take]; omega
      have HNX := Lib.hid hnx
      have HLK := Lib.hid hLk
      clear hcc hx hel1 hL hnx hLk hy HC hxd
      go_wp2_with (first
        | (go_at_call 111; refine (HC1.out _ (hO.alloc _)).mono ?_; rintro e w2 ⟨rfl, ho2⟩
           have hO2 : Only [] wr w2 := ((Only.refl [] wr).alloc _).trans ho2
           obtain ⟨A4, c4', w4, hr4, hown4, hO4⟩ := app8 (W := w2) (base := w.heap.size) (l := L) (by rw [HLK.out]; exact own_only hown hO2 (by simp)) (Nat.le_trans hO.size hO2.size) (by rw [HLK.out]; omega) y
           rw [HLK.out] at hr4 hown4
           have HR4 := Lib.hid hr4
           clear hr4)
        | (at_builtin; refine Lib.wpList_append_run _ rfl (.tmp 14) (.tmp 18) 28 28 rfl _ _ rfl rfl _ _ HR4.out ?_))
      have hb3 := fun g hg => (World.ownsRow.lt hown g hg).1
      have hO5 : Only [] w w4 := ((hO.trans hO2).alloc _).step hO4 (fun g hg => .inr (by have := hb3 g (by simpa using hg); omega))
      refine ⟨⟨k + 1, A4, c4', hlt, by simp, rfl, ?_, hO5⟩, by simp [intOf]; omega⟩
      rw [HNX.out]
      simpa [HLK.out] using hown4
    · have hkl : k = l.length := by omega
      subst hkl
      rw [List.take_length] at hown
      have HO := Lib.hid hown
      clear hel1 HC hown
      go_wp2
      go_ret
      exact ⟨A, cap, rfl, HO.out, hO⟩
set_option maxRecDepth 100000 in
set_option maxHeartbeats 1000000 in
theorem kresolve_any {v : Value} {l : List StoredR} (h : HasS a w R E sb mb s N) (hN : N ≤ 100000) (hl : Slc w 8 v l.length (l.flatMap StoredR.cells)) (hlen : l.length ≤ 1000000) (hd : ∀ x ∈ l, x.ev.data.size ≤ 1000000) :
    Calls Tryz.prog 27 #[.pointer (some ⟨sb, 0, none⟩), v] w fun e w' => ∃ A cap, e = .returned (.slice A l.length cap) ∧ w'.ownsRow w.heap.size 26 8 (.slice A l.length cap) l.length ((l.map (resolveB s)).flatMap StoredR.cells) ∧ Only [] w w' := by
  have hO := (Only.refl [] w).alloc (.cells #[.pointer (some ⟨sb, 0, none⟩)] 34)
  have HL := Lib.hid (vlinks_any (h.keep hO) hN (Blk.new w 34 #[.pointer (some ⟨sb, 0, none⟩)]) (hl.only0 hO) hlen hd)
  clear h
  obtain ⟨A1, cap1, rfl, _, _, _⟩ := hl.openE StoredR.cells (fun _ => rfl)
  clear hl
  go_enter Tryz.func27, Tryz.ntmps27
  go_wp2_with (go_at_call 61; refine HL.out.mono ?_; rintro e w1 ⟨A, cap, rfl, hown, ho1⟩)
  go_ret
  exact ⟨A, cap, rfl, own_base hown (by simp), hO.trans ho1⟩
end
end Go.Proofs.YtpcemipfanimgaaGreatDoor
