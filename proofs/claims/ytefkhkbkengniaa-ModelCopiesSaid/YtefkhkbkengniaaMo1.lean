/- Contracts of what only looks: New, Len, Done, Now, Count, Floor, Deleted, MetaOf. -/
import Derived.Test.YtefkhkbkengniaaMp
set_option linter.unusedVariables false
set_option linter.unusedSimpArgs false
namespace Go.Proofs.Ytefkhkbkengniaa
open Go.RowKit
def MS.floorS (s : MS) (n : ByteArray) : Int := s.floorOf (s.find n)
theorem fld0 (W : World) (a b c d e f : Value) : Sem.run Try.prog (Instr.field 77 (.agg #[a, b, c, d, e, f]) 0) W = .ok a W := by kernel_rfl
theorem fld1 (W : World) (a b c d e f : Value) : Sem.run Try.prog (Instr.field 77 (.agg #[a, b, c, d, e, f]) 1) W = .ok (.agg #[b, c, d]) W := by kernel_rfl
theorem fld3 (W : World) (a b c d e f : Value) : Sem.run Try.prog (Instr.field 77 (.agg #[a, b, c, d, e, f]) 3) W = .ok f W := by kernel_rfl
set_option maxRecDepth 100000 in
theorem newS_any (w : World) (pf : ByteArray → Value) : Calls Try.prog 12 #[] w fun e w' => e = .returned (.pointer (some ⟨w.heap.size + 1, 0, none⟩)) ∧ StAt w' [w.heap.size + 1, w.heap.size] (w.heap.size + 1) w.heap.size (.slice none 0 0) pf MS.new ∧ Only [] w w' := by
  have hmm := @run_makeMap Try.prog
  go_enter Try.func12, Try.ntmps12
  go_wp2
  go_ret
  refine ⟨rfl, ⟨?_, World.ownsRow_nil _ _ _ _, (MapIs.new Value.string w).alloc _, (fun n x hx => by simp [MS.new] at hx), ⟨by simp, by simp, (fun g hg => by cases hg)⟩, (fun g hg => ?_)⟩, ((Only.refl [] w).alloc _).alloc _⟩
  · have := Blk.new (w.alloc (.map #[] 0)) 75 #[.slice none 0 0, .map (some w.heap.size), .int .i64 0, .int .i64 0]
    simpa [MS.new] using this
  · simp at hg ⊢
    omega
section
variable {w : World} {M : List Nat} {sb mb N : Nat} {av : Value} {pf : ByteArray → Value} {s : MS}
set_option maxRecDepth 100000 in
theorem lenS_any (h : StAt w M sb mb av pf s) : Calls Try.prog 14 #[.pointer (some ⟨sb, 0, none⟩)] w fun e w' => e = .returned (.int .i64 s.all.length) ∧ w = w' := by
  obtain ⟨A2, cap2, rfl, hnc2, hcm2, hel2⟩ := h.cell
  unfold maxLen at hcm2
  have c0 : w.cell? ⟨sb, 0, none⟩ = some (.slice A2 s.all.length cap2) := h.blk.cell 0
  clear hel2
  go_enter Try.func14, Try.ntmps14
  go_wp2
  go_ret
  exact ⟨rfl, rfl⟩
set_option maxRecDepth 100000 in
theorem doneS_any (h : StAt w M sb mb av pf s) : Calls Try.prog 21 #[.pointer (some ⟨sb, 0, none⟩)] w fun e w' => e = .returned (.int .i64 s.done) ∧ w = w' := by
  have c0 : w.cell? ⟨sb, 2, none⟩ = some (.int .i64 s.done) := h.blk.cell 2
  go_enter Try.func21, Try.ntmps21
  go_wp2
  go_ret
  exact ⟨rfl, rfl⟩
set_option maxRecDepth 100000 in
theorem nowS_any (h : StAt w M sb mb av pf s) : Calls Try.prog 22 #[.pointer (some ⟨sb, 0, none⟩)] w fun e w' => e = .returned (.int .i64 s.now) ∧ w = w' := by
  have c0 : w.cell? ⟨sb, 3, none⟩ = some (.int .i64 s.now) := h.blk.cell 3
  go_enter Try.func22, Try.ntmps22
  go_wp2
  go_ret
  exact ⟨rfl, rfl⟩
set_option maxRecDepth 100000 in
theorem findv (h : StAt w M sb mb av pf s) (n : ByteArray) : ∃ A cap, pvOf s pf n = .slice A (s.find n).places.length cap ∧ cap ≤ maxLen ∧ ∀ W, Only [] w W → Calls Try.prog 37 #[.pointer (some ⟨sb, 0, none⟩), .string n] W fun e w' => e = .returned (.agg #[.slice A (s.find n).places.length cap, .int .i64 (s.find n).mt.maxCount, .int .i64 (s.find n).mt.maxAge, .int .i64 (s.find n).mt.before, .int .i64 (s.find n).floor, .bool (s.find n).deleted]) ∧ Only [] W w' := by
  obtain ⟨A, cap, hpv, h1, h2, _⟩ := (h.rd n).1.openI
  refine ⟨A, cap, hpv, h2, fun W hW => ?_⟩
  have := find_any (h.only0 hW) n
  rw [hpv] at this
  exact this
set_option maxRecDepth 100000 in
theorem countS_any (h : StAt w M sb mb av pf s) (n : ByteArray) : Calls Try.prog 20 #[.pointer (some ⟨sb, 0, none⟩), .string n] w fun e w' => e = .returned (.int .i64 (s.find n).places.length) ∧ Only [] w w' := by
  obtain ⟨A, cap, _, hcm, hf⟩ := findv h n
  unfold maxLen at hcm
  have HF := Lib.hid hf
  clear hf
  have hq := fld0
  go_enter Try.func20, Try.ntmps20
  go_wp2_with (go_at_call 37; refine (HF.out _ (Only.refl _ _)).mono ?_; rintro e w1 ⟨rfl, ho1⟩)
  go_ret
  exact ⟨rfl, ho1⟩
set_option maxRecDepth 100000 in
theorem deletedS_any (h : StAt w M sb mb av pf s) (n : ByteArray) : Calls Try.prog 15 #[.pointer (some ⟨sb, 0, none⟩), .string n] w fun e w' => e = .returned (.bool (s.find n).deleted) ∧ Only [] w w' := by
  obtain ⟨A, cap, _, hcm, hf⟩ := findv h n
  have HF := Lib.hid hf
  clear hf
  have hq := fld3
  go_enter Try.func15, Try.ntmps15
  go_wp2_with (go_at_call 37; refine (HF.out _ (Only.refl _ _)).mono ?_; rintro e w1 ⟨rfl, ho1⟩)
  go_ret
  exact ⟨rfl, ho1⟩
set_option maxRecDepth 100000 in
theorem metaOfS_any (h : StAt w M sb mb av pf s) (n : ByteArray) : Calls Try.prog 35 #[.pointer (some ⟨sb, 0, none⟩), .string n] w fun e w' => e = .returned (s.find n).mt.val ∧ Only [] w w' := by
  obtain ⟨A, cap, _, hcm, hf⟩ := findv h n
  have HF := Lib.hid hf
  unfold MetaR.val
  clear hf
  have hq := fld1
  go_enter Try.func35, Try.ntmps35
  go_wp2_with (go_at_call 37; refine (HF.out _ ((Only.refl _ _).alloc _)).mono ?_; rintro e w1 ⟨rfl, ho1⟩
               have hf := fun i => (ho1.blk (Blk.new w 33 _) (by simp)).free i
               have hc := fun i => (ho1.blk (Blk.new w 33 _) (by simp)).cell i)
  refine bodyPost_ret (v := .agg #[.int .i64 (s.find n).mt.maxCount, .int .i64 (s.find n).mt.maxAge, .int .i64 (s.find n).mt.before]) (by simp [results, Try.results35, go_sem, hc]) rfl ⟨rfl, ?hw⟩
  case hw =>
    iterate 3 (refine Only.setCell ?_ (.inr (Nat.le_refl _)) _)
    exact ((Only.refl [] w).alloc _).trans ho1
set_option maxRecDepth 100000 in
theorem floorS_any (h : StAt w M sb mb av pf s) (hs : s.Ok N) (hN : N ≤ 100000) (n : ByteArray) : Calls Try.prog 28 #[.pointer (some ⟨sb, 0, none⟩), .string n] w fun e w' => e = .returned (.int .i64 (s.floorS n)) ∧ Only [] w w' := by
  obtain ⟨A, cap, hpv, hcm, hf⟩ := findv h n
  have hx := hs.xok n
  have hal := hs.all
  have hfl : ∀ W, Only [] w W → Calls Try.prog 38 #[.pointer (some ⟨sb, 0, none⟩), .agg #[.slice A (s.find n).places.length cap, .int .i64 (s.find n).mt.maxCount, .int .i64 (s.find n).mt.maxAge, .int .i64 (s.find n).mt.before, .int .i64 (s.find n).floor, .bool (s.find n).deleted]] W fun e w' => e = .returned (.int .i64 (s.floorS n)) ∧ Only [] W w' := fun W hW => by
    have hW' := h.only0 hW
    have hr := (hW'.rd n).1
    rw [hpv] at hr
    exact floorOf_any (x := s.find n) hW' hs.now hr hx.pl (by have := hx.few; omega) hx.mt hx.fl
  have HF := Lib.hid hf
  have HG := Lib.hid hfl
  clear hf hfl hpv hx hal hcm
  go_enter Try.func28, Try.ntmps28
  go_wp2_with (first
    | (go_at_call 37; refine (HF.out _ (Only.refl _ _)).mono ?_; rintro e w1 ⟨rfl, ho1⟩)
    | (go_at_call 38; go_loud (refine (HG.out _ ho1).mono ?_; rintro e w2 ⟨rfl, ho2⟩)))
  go_ret
  exact ⟨rfl, ho1.trans ho2⟩
end
/-! ## of a nil state -/
set_option maxRecDepth 100000 in
theorem lenN_any (w : World) : Calls Try.prog 14 #[.pointer none] w fun e w' => e = .returned (.int .i64 0) ∧ w = w' := by
  go_enter Try.func14, Try.ntmps14
  go_wp2
  go_ret
  exact ⟨rfl, rfl⟩
set_option maxRecDepth 100000 in
theorem doneN_any (w : World) : Calls Try.prog 21 #[.pointer none] w fun e w' => e = .returned (.int .i64 0) ∧ w = w' := by
  go_enter Try.func21, Try.ntmps21
  go_wp2
  go_ret
  exact ⟨rfl, rfl⟩
set_option maxRecDepth 100000 in
theorem nowN_any (w : World) : Calls Try.prog 22 #[.pointer none] w fun e w' => e = .returned (.int .i64 0) ∧ w = w' := by
  go_enter Try.func22, Try.ntmps22
  go_wp2
  go_ret
  exact ⟨rfl, rfl⟩
set_option maxRecDepth 100000 in
theorem findN_any (n : ByteArray) (w : World) : Calls Try.prog 37 #[.pointer none, .string n] w fun e w' => e = .returned (.agg #[.slice none 0 0, .int .i64 0, .int .i64 0, .int .i64 0, .int .i64 0, .bool false]) ∧ Only [] w w' := by
  go_enter Try.func37, Try.ntmps37
  go_wp2
  exact bodyPost_ret (v := .agg #[.slice none 0 0, .int .i64 0, .int .i64 0, .int .i64 0, .int .i64 0, .bool false]) (by simp [results, Try.results37, go_sem]) rfl ⟨rfl, (Only.refl [] w).alloc _⟩
set_option maxRecDepth 100000 in
theorem countN_any (n : ByteArray) (w : World) : Calls Try.prog 20 #[.pointer none, .string n] w fun e w' => e = .returned (.int .i64 0) ∧ Only [] w w' := by
  have hq := fld0
  go_enter Try.func20, Try.ntmps20
  go_wp2_with (go_at_call 37; refine (findN_any _ _).mono ?_; rintro e w1 ⟨rfl, ho1⟩)
  go_ret
  exact ⟨rfl, ho1⟩
set_option maxRecDepth 100000 in
theorem deletedN_any (n : ByteArray) (w : World) : Calls Try.prog 15 #[.pointer none, .string n] w fun e w' => e = .returned (.bool false) ∧ Only [] w w' := by
  have hq := fld3
  go_enter Try.func15, Try.ntmps15
  go_wp2_with (go_at_call 37; refine (findN_any _ _).mono ?_; rintro e w1 ⟨rfl, ho1⟩)
  go_ret
  exact ⟨rfl, ho1⟩
set_option maxRecDepth 100000 in
theorem metaOfN_any (n : ByteArray) (w : World) : Calls Try.prog 35 #[.pointer none, .string n] w fun e w' => e = .returned (.agg #[.int .i64 0, .int .i64 0, .int .i64 0]) ∧ Only [] w w' := by
  have hq := fld1
  go_enter Try.func35, Try.ntmps35
  go_wp2_with (go_at_call 37; refine (findN_any _ _).mono ?_; rintro e w1 ⟨rfl, ho1⟩
               have hf := fun i => (ho1.blk (Blk.new w 33 _) (by simp)).free i
               have hc := fun i => (ho1.blk (Blk.new w 33 _) (by simp)).cell i)
  refine bodyPost_ret (v := .agg #[.int .i64 0, .int .i64 0, .int .i64 0]) (by simp [results, Try.results35, go_sem, hc]) rfl ⟨rfl, ?hw⟩
  case hw =>
    iterate 3 (refine Only.setCell ?_ (.inr (Nat.le_refl _)) _)
    exact ((Only.refl [] w).alloc _).trans ho1
set_option maxRecDepth 100000 in
theorem floorN_any (n : ByteArray) (w : World) : Calls Try.prog 28 #[.pointer none, .string n] w fun e w' => e = .returned (.int .i64 0) ∧ w = w' := by
  go_enter Try.func28, Try.ntmps28
  go_wp2
  go_ret
  exact ⟨rfl, rfl⟩
set_option maxRecDepth 100000 in
theorem everyN_any (w : World) : Calls Try.prog 19 #[.pointer none] w fun e w' => e = .returned (.slice none 0 0) ∧ w = w' := by
  go_enter Try.func19, Try.ntmps19
  go_wp2
  go_ret
  exact ⟨rfl, rfl⟩
set_option maxRecDepth 100000 in
theorem streamsN_any (w : World) : Calls Try.prog 34 #[.pointer none] w fun e w' => e = .returned (.slice none 0 0) ∧ Only [] w w' := by
  go_enter Try.func34, Try.ntmps34
  go_wp2
  go_ret
  exact ⟨rfl, (Only.refl [] w).alloc _⟩
set_option maxRecDepth 100000 in
theorem copyN_any (w : World) : Calls Try.prog 29 #[.pointer none] w fun e w' => e = .returned (.pointer none) ∧ w = w' := by
  go_enter Try.func29, Try.ntmps29
  go_wp2
  go_ret
  exact ⟨rfl, rfl⟩
set_option maxRecDepth 100000 in
theorem seenN_any (p : Int) (w : World) : Calls Try.prog 24 #[.pointer none, .int .i64 p] w fun e w' => e = .returned (.bool false) ∧ Only [] w w' := by
  by_cases hp : p < 0
  · go_enter Try.func24, Try.ntmps24
    go_wp2
    go_ret
    exact ⟨rfl, Only.refl _ _⟩
  · have hp' : p ≥ 0 := by omega
    go_enter Try.func24, Try.ntmps24
    go_wp2_with (go_at_call 14; refine (lenN_any _).mono ?_; rintro e w1 ⟨rfl, rfl⟩)
    go_ret
    exact ⟨rfl, Only.refl _ _⟩
set_option maxRecDepth 100000 in
theorem readN_any (n : ByteArray) (f k : Int) (b : Bool) (w : World) : Calls Try.prog 27 #[.pointer none, .string n, .int .i64 f, .int .i64 k, .bool b] w fun e w' => e = .returned (.tuple #[.agg #[.slice none 0 0, .int .i64 0, .bool false], .int .i64 1]) ∧ Only [] w w' := by
  go_enter Try.func27, Try.ntmps27
  go_wp2
  exact bodyPost_ret (v := .tuple #[.agg #[.slice none 0 0, .int .i64 0, .bool false], .int .i64 1]) (by simp [results, Try.results27, go_sem]) rfl ⟨rfl, (Only.refl [] w).alloc _⟩
set_option maxRecDepth 100000 in
theorem allN_any (f k : Int) (b : Bool) (w : World) : Calls Try.prog 32 #[.pointer none, .int .i64 f, .int .i64 k, .bool b] w fun e w' => e = .returned (.tuple #[.agg #[.slice none 0 0, .int .i64 0, .bool false], .int .i64 1]) ∧ Only [] w w' := by
  have hc := fun o i => (Blk.new (w.alloc o) 60 #[.slice none 0 0, .int .i64 0, .bool false]).cell i
  simp only [World.size_alloc] at hc
  go_enter Try.func32, Try.ntmps32
  go_wp2
  exact bodyPost_ret (v := .tuple #[.agg #[.slice none 0 0, .int .i64 0, .bool false], .int .i64 1]) (by simp [results, Try.results32, go_sem, hc]) rfl ⟨rfl, ((Only.refl [] w).alloc _).alloc _⟩
def stored0 : Value := .agg #[.int .i64 0, .string ⟨#[]⟩, .string ⟨#[]⟩, .float .f64 0, .string ⟨#[]⟩, .int .i64 0, .int .i64 0, .int .i64 0]
set_option maxRecDepth 100000 in
theorem atN_any (n : ByteArray) (v : Int) (w : World) : Calls Try.prog 33 #[.pointer none, .string n, .int .i64 v] w fun e w' => e = .returned (.tuple #[stored0, .bool false]) ∧ Only [] w w' := by
  by_cases hp : v < 0
  · have hsf := stF
    go_enter Try.func33, Try.ntmps33
    go_wp2_with (go_at_call 37; refine (findN_any _ _).mono ?_; rintro e w1 ⟨rfl, ho1⟩
                 have hf := fun o i => (((Only.refl [] w1).alloc o).blk (ho1.blk (Blk.new w 48 _) (by simp)) (by simp)).free i
                 have hc := fun o i => (((Only.refl [] w1).alloc o).blk (ho1.blk (Blk.new w 48 _) (by simp)) (by simp)).cell i)
    refine bodyPost_ret (v := .tuple #[stored0, .bool false]) (by simp [results, Try.results33, go_sem, hc, stored0]) rfl ⟨rfl, ?hw⟩
    case hw =>
      iterate 8 (refine Only.setCell ?_ (.inr (Nat.le_refl _)) _)
      exact (((Only.refl [] w).alloc _).trans ho1).alloc _
  · have hp1 : v ≥ 0 := by omega
    have hsf := stF
    go_enter Try.func33, Try.ntmps33
    go_wp2_with (go_at_call 37; refine (findN_any _ _).mono ?_; rintro e w1 ⟨rfl, ho1⟩
                 have hf := fun o i => (((Only.refl [] w1).alloc o).blk (ho1.blk (Blk.new w 48 _) (by simp)) (by simp)).free i
                 have hc := fun o i => (((Only.refl [] w1).alloc o).blk (ho1.blk (Blk.new w 48 _) (by simp)) (by simp)).cell i)
    refine bodyPost_ret (v := .tuple #[stored0, .bool false]) (by simp [results, Try.results33, go_sem, hc, stored0]) rfl ⟨rfl, ?hw⟩
    case hw =>
      iterate 8 (refine Only.setCell ?_ (.inr (Nat.le_refl _)) _)
      exact (((Only.refl [] w).alloc _).trans ho1).alloc _
end Go.Proofs.Ytefkhkbkengniaa
