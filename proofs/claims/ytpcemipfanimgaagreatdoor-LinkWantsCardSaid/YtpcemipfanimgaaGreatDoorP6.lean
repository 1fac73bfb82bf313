/- Proved here: contracts of functions and plain laws, part 6 of 6 of one proof. Conditions: each theorem names its own. -/
import Derived.Test.YtpcemipfanimgaaGreatDoorP5
/- LinkWants: the walk. -/
set_option linter.unusedVariables false
set_option linter.unusedSimpArgs false
namespace Go.Proofs.YtpcemipfanimgaaGreatDoor
open Go Go.RowKit Go.Sort
section
variable {P : Program} {C : World → Prop} {Q : Exit → Act → World → Prop} {l : List Oper} {H A T2 : List Nat} {r : List (List Nat × List Nat)} {K : Act → World → Prop} {a : Act} {w : World}
theorem stages_nil (h : wpT1 P l.toArray C Q (opsAt l A) (wpStages P l C Q K r) a w) : wpStages P l C Q K (([], A) :: r) a w := wpQuiet_nil (P := P) (ops := l.toArray) (C := C) h
theorem stages_next (h : wpQuiet P l.toArray C (fun a' => wpT1 P l.toArray C Q (opsAt l A) (wpStages P l C Q K r) a' w) (opsAt l H) a) : wpT1 P l.toArray C Q (opsAt l []) (wpStages P l C Q K ((H, A) :: r)) a w := h
theorem stages_end (h : wpList P l.toArray Q (opsAt l T2) a w) : wpT1 P l.toArray C Q (opsAt l []) (wpStages P l C Q (fun a w => wpList P l.toArray Q (opsAt l T2) a w) []) a w := h
end
def StFits (x : StoredR) : Prop := x.stream.size ≤ maxLen ∧ x.ev.type.size ≤ maxLen ∧ x.ev.data.size ≤ maxLen
def StFew (x : StoredR) : Prop := x.stream.size ≤ 100 ∧ x.ev.type.size ≤ 100 ∧ x.ev.data.size ≤ 300
set_option maxRecDepth 100000 in
set_option maxHeartbeats 2000000 in
theorem few_any {w : World} {v : Value} {l : List StoredR} (few : Nat) (hf : few ≤ 1000) (h : Slc w 8 v l.length (l.flatMap StoredR.cells)) (hz : ∀ x ∈ l, StFits x) :
    Calls Tryz.prog 9 #[.int .i64 few, v] w fun e w' => RetB e (fun b => b = true → l.length ≤ few ∧ ∀ x ∈ l, StFew x) ∧ Only [] w w' := by
  obtain ⟨A, cap, rfl, hnc, hcm, hel⟩ := h.openE StoredR.cells (fun _ => rfl)
  unfold maxLen at hcm
  go_enter Tryz.func9, Tryz.ntmps9
  go_wp2
  go_loopw [5] (fun i wr => ∃ k : Nat, k ≤ few ∧ i = .int .i64 k ∧ Hid (∀ j (hj : j < l.length), j < k → StFew l[j]) ∧ Only [] w wr) (fun i _ => few - (intOf i).toNat)
  case atStart => exact ⟨0, by omega, rfl, fun j _ hj => absurd hj (Nat.not_lt_zero _), Only.refl _ _⟩
  case round =>
    obtain ⟨k, hk, rfl, hT, hO⟩ := hrel
    by_cases hlt : k < l.length
    · by_cases h20 : k < few
      · obtain ⟨b, off, rfl, hbb, hcc⟩ := hel k hlt
        obtain ⟨y, hy⟩ : ∃ y, y = l[k] := ⟨_, rfl⟩
        obtain ⟨hy1, hy2, hy3⟩ := hz y (by rw [hy]; exact List.getElem_mem hlt)
        unfold maxLen at hy1 hy2 hy3
        have HN : Hid (StFew y → ∀ j (hj : j < l.length), j < k + 1 → StFew l[j]) := fun hf j hj hjk => by
          by_cases q : j = k
          · subst q
            rw [← hy]
            exact hf
          · exact hT.out j hj (by omega)
        rw [← hy] at hcc
        have c1 : wr.cell? ⟨b, off + k * 8 + 1, none⟩ = some (.string y.ev.type) := (hO.cell hbb (by simp)).trans (hcc 1 (by omega))
        have c2 : wr.cell? ⟨b, off + k * 8 + 2, none⟩ = some (.string y.ev.data) := (hO.cell hbb (by simp)).trans (hcc 2 (by omega))
        have c4 : wr.cell? ⟨b, off + k * 8 + 4, none⟩ = some (.string y.stream) := (hO.cell hbb (by simp)).trans (hcc 4 (by omega))
        clear hcc hz hy hel h hT
        by_cases h1 : y.stream.size > 100
        · go_wp2
          go_ret
          exact ⟨⟨false, rfl, fun q => by cases q⟩, hO⟩
        · by_cases h2 : y.ev.type.size > 100
          · go_wp2
            go_ret
            exact ⟨⟨false, rfl, fun q => by cases q⟩, hO⟩
          · by_cases h3 : y.ev.data.size > 300
            · go_wp2
              go_ret
              exact ⟨⟨false, rfl, fun q => by cases q⟩, hO⟩
            · go_wp2
              exact ⟨⟨k + 1, by omega, by simp, HN.out ⟨by omega, by omega, by omega⟩, hO⟩, by simp [intOf]; omega⟩
      · clear hel hz
        have h2 : ¬ (l.length ≤ few) := by omega
        go_wp2
        go_ret
        exact ⟨⟨_, rfl, fun q => by simp at q <;> omega⟩, hO⟩
    · clear hel hz
      have h2 : l.length ≤ few := by omega
      have HT : Hid (∀ x ∈ l, StFew x) := fun x hx => by
        obtain ⟨j, hj, rfl⟩ := List.mem_iff_getElem.1 hx
        exact hT.out j hj (by omega)
      clear hT
      go_wp2
      go_ret
      exact ⟨⟨_, rfl, fun q => ⟨h2, HT.out⟩⟩, hO⟩
set_option maxRecDepth 100000 in
set_option maxHeartbeats 4000000 in
theorem wants_go (w : World) (t : ByteArray) (s : StoredR) (ht : t.size ≤ maxLen) (hs : StFits s) (hT : Tab w) :
    Calls Tryz.prog 3 #[.string t, s.val] w fun e w' => e = .returned (.bool true) ∧ Only [] w w' := by
  have hsf := stF
  have ht' := ht
  unfold maxLen at ht'
  have HA := Lib.hid (fun (W : World) (hW : Only [] w W) => alive25_any W (hT.only hW))
  have hO1 := (Only.refl [] w).alloc (.cells #[.int .i64 s.ev.id, .string s.ev.type, .string s.ev.data, .float .f64 s.ev.value, .string s.stream, .int .i64 s.version, .int .i64 s.position, .int .i64 s.time] 26)
  have hB := Blk.new w 26 #[.int .i64 s.ev.id, .string s.ev.type, .string s.ev.data, .float .f64 s.ev.value, .string s.stream, .int .i64 s.version, .int .i64 s.position, .int .i64 s.time]
  have hsl := slc_new1 (w := w.alloc (.cells #[.int .i64 s.ev.id, .string s.ev.type, .string s.ev.data, .float .f64 s.ev.value, .string s.stream, .int .i64 s.version, .int .i64 s.position, .int .i64 s.time] 26)) (e := 26) (size := 8) (cs := s.cells) rfl
  have HF := Lib.hid (few_any (l := [s]) 1 (by omega) (by simpa using hsl) (fun x hx => by rw [List.mem_singleton] at hx; rw [hx]; exact hs))
  have HW1 := Lib.hid (fun (W : World) (h2 : s.ev.type.size ≤ 100) => wants_any (w := W) t s hs.1 (by omega))
  have HW2 := Lib.hid (fun (W : World) => lwants_any (w := W) t s ht hs.1)
  unfold StoredR.val at HW1 HW2 ⊢
  simp only [StoredR.cells, EventR.cells, List.cons_append, List.nil_append, World.size_alloc] at HF
  rw [show ((1 : Nat) : Int) = 1 from rfl] at HF
  clear hsl hs
  by_cases h1 : t.size > 100
  · go_enter Tryz.func3, Tryz.ntmps3
    go_wp2_with (go_at_call 10; refine (HA.out _ hO1).mono ?_; rintro e w2 ⟨rfl, ho2⟩)
    go_ret
    exact ⟨rfl, hO1.trans ho2⟩
  · go_enter Tryz.func3, Tryz.ntmps3
    go_wp2_with fail
    refine HF.out.mono ?_
    rintro e w1 ⟨⟨b1, rfl, hb1⟩, ho1⟩
    have hO2 : Only [] w w1 := (hO1.alloc _).trans ho1
    cases b1 with
    | false =>
      clear hb1 HF
      go_wp2_with (go_at_call 10; refine (HA.out _ hO2).mono ?_; rintro e w2 ⟨rfl, ho2⟩)
      go_ret
      exact ⟨rfl, hO2.trans ho2⟩
    | true =>
      obtain ⟨_, h100⟩ := (hb1 rfl).2 s (by simp)
      have HW3 := Lib.hid (fun W => HW1.out W h100.1)
      have hB1 := ho1.blk (((Only.refl [] _).alloc (.cells #[.int .i64 s.ev.id, .string s.ev.type, .string s.ev.data, .float .f64 s.ev.value, .string s.stream, .int .i64 s.version, .int .i64 s.position, .int .i64 s.time] 26)).blk hB (by simp)) (by simp)
      rw [wants_eq] at HW3
      have HA2 := Lib.hid (HA.out _ hO2.drew)
      clear hb1 HF HW1 HA h100 hB
      go_wp2_with fail
      have c0 := Within.cell (S := []) (hB1.cell 0) (by simp)
      have c1 := Within.cell (S := []) (hB1.cell 1) (by simp)
      have c2 := Within.cell (S := []) (hB1.cell 2) (by simp)
      have c3 := Within.cell (S := []) (hB1.cell 3) (by simp)
      have c4 := Within.cell (S := []) (hB1.cell 4) (by simp)
      have c5 := Within.cell (S := []) (hB1.cell 5) (by simp)
      have c6 := Within.cell (S := []) (hB1.cell 6) (by simp)
      have c7 := Within.cell (S := []) (hB1.cell 7) (by simp)
      refine wp_region_stages (C := fun W => ∃ p : Within [] w1, W = p.W) [([], [0, 1]), ([2, 3, 5, 6], [4])] [7, 8, 9, 10] (by kernel_rfl) (by kernel_rfl) (by intro c d u a w h; cases d <;> exact h) ⟨⟨_, (Only.refl _ _).drew⟩, rfl⟩ ?_
      refine stages_nil ?_
      show wpList _ _ _ [_] _ _
      go_wp2_with (go_at_call 10; refine HA2.out.mono ?_; rintro e w2 ⟨rfl, ho2⟩)
      have hk2 : Only [] w1 w2 := (Only.refl [] w1).drew.trans ho2
      refine check_of (S := []) hk2 ?_
      show wpList _ _ _ [_] _ _
      go_wp2_with fail
      refine check_of (S := []) hk2 ?_
      refine stages_next ?_
      show wpQuiet _ _ _ _ [_, _, _, _] _
      try go_frame
      repeat (go_big_quiet_step (fail))
      refine wpQuiet_nil ?_
      clear c0 c1 c2 c3 c4 c5 c6 c7
      show wpList _ _ _ [_] _ _
      go_wp2_with (go_at_call 11; refine (HW3.out _).mono ?_; rintro e w3 ⟨rfl, ho3⟩)
      refine check_of (S := []) (hk2.trans ho3) ?_
      refine stages_end ?_
      show wpList _ _ _ [_, _, _, _] _ _
      go_wp2_with (go_at_call 12; refine (HW2.out _).mono ?_; rintro e w4 ⟨rfl, ho4⟩)
      go_ret
      exact ⟨by simp, ((hO2.trans hk2).trans ho3).trans ho4⟩
end Go.Proofs.YtpcemipfanimgaaGreatDoor
/- Opening an api.Stored; the table of powers of ten out of what the row lists. -/
set_option linter.unusedVariables false
set_option linter.unusedSimpArgs false
namespace Go.Proofs.YtpcemipfanimgaaGreatDoor
open Go.ChangeShapes Go.WideShapes Go.ChangeAt Go.RowKit Go.WideElems Go.ChangeMaps Go.Deep Go.Sort
theorem cellsSt : Tryz.prog.cellsOf 26 = 8 := by kernel_rfl
section
variable {H : Type} {enc : TypeId × Value → H} {W : World}
theorem open_st (n : Nat) (cs : List Value) (x : DataW H × List MemPlace) (h : DataW.trod enc Tryz.prog W 0 (fun _ => true) true n 26 cs = some x) (hlt : ∀ y ∈ x.2, y.block < W.heap.size) :
    ∃ s : StoredR, cs = s.cells ∧ StFits s := by
  obtain ⟨xs, m, _, hx, hl, hlen, hf⟩ := DataW.trod_struct Tryz.underlying26 h
  rw [cellsSt] at hl
  have g0 : DataW.trod enc Tryz.prog W 0 (fun _ => true) true m 24 ((cs.drop 0).take (Tryz.prog.cellsOf 24)) = xs[0]? := hf 0 _ rfl
  have g1 : DataW.trod enc Tryz.prog W 0 (fun _ => true) true m 9 ((cs.drop 4).take (Tryz.prog.cellsOf 9)) = xs[1]? := hf 1 _ rfl
  have g2 : DataW.trod enc Tryz.prog W 0 (fun _ => true) true m 3 ((cs.drop 5).take (Tryz.prog.cellsOf 3)) = xs[2]? := hf 2 _ rfl
  have g3 : DataW.trod enc Tryz.prog W 0 (fun _ => true) true m 3 ((cs.drop 6).take (Tryz.prog.cellsOf 3)) = xs[3]? := hf 3 _ rfl
  have g4 : DataW.trod enc Tryz.prog W 0 (fun _ => true) true m 3 ((cs.drop 7).take (Tryz.prog.cellsOf 3)) = xs[4]? := hf 4 _ rfl
  rw [cellsEv] at g0
  rw [cellsS] at g1
  rw [cellsI] at g2 g3 g4
  clear hf
  match xs, hlen with
  | [y0, y1, y2, y3, y4], _ =>
    simp only [List.getElem?_cons_zero, List.getElem?_cons_succ] at g0 g1 g2 g3 g4
    obtain ⟨e, c0, w0⟩ := open_ev _ _ _ g0 (fun y hy => hlt y (by rw [hx]; simp; left; exact hy))
    obtain ⟨s1, c1, _, w1⟩ := DataW.trod_string Tryz.underlying9 g1
    obtain ⟨k2, c2, _, _⟩ := DataW.trod_int Tryz.underlying3 g2
    obtain ⟨k3, c3, _, _⟩ := DataW.trod_int Tryz.underlying3 g3
    obtain ⟨k4, c4, _, _⟩ := DataW.trod_int Tryz.underlying3 g4
    refine ⟨⟨e, s1, k2, k3, k4⟩, ?_, w1, w0.1, w0.2⟩
    apply List.ext_getElem?
    intro i
    unfold StoredR.cells
    have a1 := one_at c1
    have a2 := one_at c2
    have a3 := one_at c3
    have a4 := one_at c4
    have b : ∀ j, j < 4 → cs[j]? = e.cells[j]? := fun j hj => by
      rw [← c0, List.getElem?_take, if_pos hj, List.getElem?_drop, Nat.zero_add]
    match i with
    | 0 => exact b 0 (by omega)
    | 1 => exact b 1 (by omega)
    | 2 => exact b 2 (by omega)
    | 3 => exact b 3 (by omega)
    | 4 => exact a1
    | 5 => exact a2
    | 6 => exact a3
    | 7 => exact a4
    | i + 8 => simp [EventR.cells]; omega
set_option maxRecDepth 100000 in
theorem open_stv {base : Nat} {v : Value} {d : DataW H} {ps : List MemPlace} (hval : Value.okWide Tryz.prog W .any base 26 v) (hd : DataW.Trod enc Tryz.prog W 0 (fun _ => true) true 26 v d ps) (hlt : ∀ x ∈ ps, x.block < W.heap.size) :
    ∃ s : StoredR, v = s.val ∧ StFits s := by
  obtain ⟨fuel, hf⟩ := hd
  obtain ⟨cs, rfl, _⟩ := okWide_struct Tryz.underlying26 hval
  obtain ⟨o, h1, h2⟩ := open_st _ _ _ hf hlt
  refine ⟨o, ?_, h2⟩
  have h3 : cs.toList = o.cells := by simpa [Value.cells] using h1
  have h4 : cs = o.cells.toArray := by rw [← h3]
  rw [h4]
  rfl
set_option maxRecDepth 100000 in
theorem open_sts {base : Nat} {v : Value} {d : DataW H} {ps : List MemPlace} (hval : Value.okWide Tryz.prog W .any base 28 v) (hd : DataW.Trod enc Tryz.prog W 0 (fun _ => true) true 28 v d ps) (hlt : ∀ x ∈ ps, x.block < W.heap.size) :
    ∃ os : List StoredR, Slc W 8 v os.length (os.flatMap StoredR.cells) ∧ (∀ o ∈ os, StFits o ∧ o.cells.length = 8) ∧ ∀ g, v.ownBlock = some g → g < W.heap.size ∨ os = [] :=
  open_rows Tryz.underlying28 cellsSt (by omega) StoredR.cells StFits open_st hval hd hlt
end
theorem wantsW (t : ByteArray) (ht : t.size ≤ maxLen) (s : StoredR) (W : World) (hT : Tab W) (hs : StFits s) :
    Calls Tryz.prog 3 #[.string t, s.val] W fun e W' => e = .returned (.bool true) ∧ Only [] W W' := wants_go W t s ht hs hT
end Go.Proofs.YtpcemipfanimgaaGreatDoor
