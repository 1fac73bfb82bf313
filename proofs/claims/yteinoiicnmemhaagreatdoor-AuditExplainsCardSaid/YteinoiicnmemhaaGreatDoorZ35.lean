/- Proved here: contracts of functions and plain laws, part 35 of one proof. Conditions: each theorem names its own. -/
import Derived.Test.YteinoiicnmemhaaGreatDoorZ6
import Derived.Test.YteinoiicnmemhaaGreatDoorZ32
import Derived.Test.YteinoiicnmemhaaGreatDoorZ33
import Derived.Test.YteinoiicnmemhaaGreatDoorZ34
import Derived.Handy
import Derived.BigRegion
set_option linter.unusedSimpArgs false
set_option linter.unusedVariables false
namespace Go.Proofs.YteinoiicnmemhaaGreatDoor.J
section
open Go Go.RowKit Go.Sort
set_option maxRecDepth 100000 in
theorem fread0 (w : World) : Calls Tryz.prog 197 #[.string ⟨#[]⟩, .func (.func 198) #[] #[], .func (.func 199) #[] #[], .func (.func 200) #[] #[]] w fun e w' => e = .returned (.tuple #[.string ⟨#[]⟩, .int .i64 0, .int .i64 5]) ∧ Only [] w w' := by
  go_enter Tryz.func197, Tryz.ntmps197
  go_wp2
  go_ret3
  exact ⟨rfl, Only.refl _ _⟩
set_option maxRecDepth 100000 in
theorem ffirst0 (w : World) : Calls Tryz.prog 173 #[.string ⟨#[]⟩] w fun e w' => e = .returned (.tuple #[.string ⟨#[]⟩, .int .i64 0, .int .i64 5]) ∧ Only [] w w' := by
  have HR := Lib.hid (fun W => fread0 W)
  go_enter Tryz.func173, Tryz.ntmps173
  go_wp2_with (go_at_call 197; refine (HR.out _).mono ?_; rintro e w1 ⟨rfl, k1⟩)
  go_ret3
  exact ⟨rfl, k1⟩
set_option maxRecDepth 100000 in
theorem fall0 (w : World) : Calls Tryz.prog 149 #[.string ⟨#[]⟩] w fun e w' => e = .returned (.tuple #[.slice none 0 0, .int .i64 0]) ∧ Only [] w w' := by
  have HF := Lib.hid (fun W => ffirst0 W)
  go_enter Tryz.func149, Tryz.ntmps149
  go_wp2
  go_loopw [4, 5] (fun o i wr => o = .slice none 0 0 ∧ i = .int .i64 0 ∧ wr = w) (fun _ _ _ => 0)
  case atStart => exact ⟨rfl, rfl, rfl⟩
  case round =>
    obtain ⟨rfl, rfl, rfl⟩ := hrel
    go_wp2_with fail
    refine (show Calls Tryz.prog 173 #[.string ByteArray.empty] wr fun e w' => e = .returned (.tuple #[.string ⟨#[]⟩, .int .i64 0, .int .i64 5]) ∧ Only [] wr w' from HF.out wr).mono ?_
    rintro e w1 ⟨rfl, k1⟩
    go_wp2
    go_ret2
    exact ⟨rfl, k1⟩
/-- A log in memory that has nothing. -/
def logC (db : Nat) : Array Value := #[.pointer (some ⟨db, 0, none⟩), .string ⟨#[108, 111, 103]⟩, .int .i64 20000, .slice none 0 0, .int .i64 0, .int .i64 0, .int .i64 0]
section
variable {w : World} {db mb lb : Nat} {kv : Value}
theorem remove0 (h : DiskAt w db mb (DS.new 0) kv) {n : ByteArray} (hn : ((DS.new 0).find n).2 = 8) : Calls Tryz.prog 154 #[.pointer (some ⟨db, 0, none⟩), .string n] w fun e w' => e = .returned (.int .i64 8) ∧ Only [] w w' := by
  have hf := find_any h n
  rw [hn] at hf
  have HC := Lib.hid (show Calls Tryz.prog 151 #[.pointer (some ⟨db, 0, none⟩), .string n] w fun e w' => e = .returned (.tuple #[.agg #[.string ((DS.new 0).find n).1.b, .int .i64 ((DS.new 0).find n).1.lasts, .bool ((DS.new 0).find n).1.known], .int .i64 8]) ∧ Only [] w w' from hf)
  clear hf hn h
  go_enter Tryz.func154, Tryz.ntmps154
  go_wp2_with (go_at_call 151; refine HC.out.mono ?_; rintro e w1 ⟨rfl, ho1⟩)
  go_ret
  exact ⟨rfl, ho1.alloc _⟩
set_option maxRecDepth 100000 in
theorem jdrop0 (hB : Blk w lb 203 (logC db)) (h : DiskAt w db mb (DS.new 0) kv) : Calls Tryz.prog 130 #[.pointer (some ⟨lb, 0, none⟩), .string ⟨#[108, 111, 103, 110, 101, 119]⟩] w fun e w' => e = .returned (.int .i64 0) ∧ Only [] w w' := by
  have HR := Lib.hid (remove0 h (n := ⟨#[108, 111, 103, 110, 101, 119]⟩) (by kernel_rfl))
  unfold logC at hB
  have c0 := hB.cell 0
  clear hB h
  go_enter Tryz.func130, Tryz.ntmps130
  go_wp2_with (go_at_call 154; refine HR.out.mono ?_; rintro e1 w1 ⟨rfl, k1⟩)
  go_ret
  exact ⟨rfl, k1⟩
set_option maxRecDepth 100000 in
set_option maxHeartbeats 2000000 in
theorem jchunks0 (hB : Blk w lb 203 (logC db)) (h : DiskAt w db mb (DS.new 0) kv) : Calls Tryz.prog 131 #[.pointer (some ⟨lb, 0, none⟩)] w fun e w' => e = .returned (.tuple #[.int .i64 0, .bool true]) ∧ Only [] w w' := by
  have hl : (DS.new 0).list ⟨#[108, 111, 103]⟩ = [] := by kernel_rfl
  have HL := Lib.hid (fun (W : World) (hW : DiskAt W db mb (DS.new 0) kv) => show Calls Tryz.prog 155 #[.pointer (some ⟨db, 0, none⟩), .string ⟨#[108, 111, 103]⟩] W fun e w' => ∃ A cap, e = .returned (.slice A 0 cap) ∧ Only [] W w' from by
    have := list_any hW (M := 0) ⟨fun p hp => (by cases hp), Nat.le_refl _, by simp [DS.new], List.nodup_nil, fun p hp => (by cases hp)⟩ ⟨#[108, 111, 103]⟩
    rw [hl] at this
    refine this.mono ?_
    rintro e w' ⟨v, rfl, ⟨A, cap, rfl, _⟩, _, k⟩
    exact ⟨A, cap, rfl, k⟩)
  have HD := Lib.hid (h.only0 (Only.refl [] w).drew)
  unfold logC at hB
  have c0 := Within.cell (S := []) (hB.cell 0) (by simp)
  have c1 := Within.cell (S := []) (hB.cell 1) (by simp)
  clear hB h hl
  go_enter Tryz.func131, Tryz.ntmps131
  go_wp2_with fail
  refine wp_region_plan (C := fun X => ∃ p : Within [] w, X = p.W) [0, 1, 2, 3, 4, 5, 6, 7, 10] [8, 9] [] (by kernel_rfl) (by kernel_rfl) (by intro c d u a w h; cases d <;> exact h) ⟨⟨_, (Only.refl [] w).drew⟩, rfl⟩ ?_
  show wpQuiet _ _ _ _ [_, _, _, _, _, _, _, _, _] _
  repeat (go_big_quiet_step (fail))
  refine wpQuiet_nil ?_
  show wpList _ _ _ [_] _ _
  go_wp2_with (go_at_call 155; refine (HL.out _ HD.out).mono ?_; rintro e1 w1 ⟨A, cap, rfl, k1⟩)
  refine check_of (S := []) ((Only.refl [] w).drew.trans k1) ?_
  show wpList _ _ _ [_] _ _
  go_wp2_with fail
  have k2 := (Only.refl [] w).drew.trans k1
  refine check_last (S := []) k2 (fun _ _ q => q) ?_
  clear c0 c1 HL HD
  go_wp2_with fail
  go_loopw [4, 5, 20] (fun a b i wr => a = .int .i64 0 ∧ b = .int .i64 (-1) ∧ i = .int .i64 0 ∧ wr = w1) (fun _ _ _ _ => 0)
  case atStart => exact ⟨rfl, rfl, rfl, rfl⟩
  case round =>
    obtain ⟨rfl, rfl, rfl, hwr⟩ := hrel
    have hwr' := hwr.symm
    subst hwr'
    go_wp2
    go_ret2
    exact ⟨rfl, k2⟩
set_option maxRecDepth 100000 in
theorem jbytes0 (hB : Blk w lb 203 (logC db)) (h : DiskAt w db mb (DS.new 0) kv) : Calls Tryz.prog 158 #[.pointer (some ⟨lb, 0, none⟩), .string ⟨#[108, 111, 103, 109, 97, 114, 107]⟩] w fun e w' => e = .returned (.tuple #[.string ⟨#[]⟩, .int .i64 8]) ∧ Only [] w w' := by
  have hsz : (DS.new 0).size ⟨#[108, 111, 103, 109, 97, 114, 107]⟩ = (0, 8) := by kernel_rfl
  have hs := size_any h ⟨#[108, 111, 103, 109, 97, 114, 107]⟩
  rw [hsz] at hs
  have HS := Lib.hid hs
  unfold logC at hB
  have c0 := hB.cell 0
  clear hB h hsz hs
  go_enter Tryz.func158, Tryz.ntmps158
  go_wp2_with (go_at_call 125; refine HS.out.mono ?_; rintro e1 w1 ⟨rfl, k1⟩)
  go_ret2
  exact ⟨rfl, k1⟩
set_option maxRecDepth 100000 in
theorem jmarked0 (hB : Blk w lb 203 (logC db)) (h : DiskAt w db mb (DS.new 0) kv) : Calls Tryz.prog 133 #[.pointer (some ⟨lb, 0, none⟩)] w fun e w' => e = .returned (.int .i64 0) ∧ Only [] w w' := by
  have HS := Lib.hid (jbytes0 hB h)
  unfold logC at hB
  have c1 := hB.cell 1
  clear hB h
  go_enter Tryz.func133, Tryz.ntmps133
  go_wp2_with fail
  rw [show (⟨#[108, 111, 103]⟩ ++ ⟨#[109, 97, 114, 107]⟩ : ByteArray) = ⟨#[108, 111, 103, 109, 97, 114, 107]⟩ from by kernel_rfl]
  refine HS.out.mono ?_
  rintro e1 w1 ⟨rfl, k1⟩
  go_wp2
  go_ret
  exact ⟨rfl, k1⟩
set_option maxRecDepth 100000 in
theorem jchs0 (hB : Blk w lb 203 (logC db)) : Calls Tryz.prog 135 #[.pointer (some ⟨lb, 0, none⟩)] w fun e w' => e = .returned (.slice none 0 0) ∧ Only [] w w' := by
  unfold logC at hB
  have c3 := hB.cell 3
  clear hB
  go_enter Tryz.func135, Tryz.ntmps135
  go_wp2_with fail
  go_loopw [3, 13] (fun o i wr => o = .slice none 0 0 ∧ i = .int .i64 0 ∧ wr = w) (fun _ _ _ => 0)
  case atStart => exact ⟨rfl, rfl, rfl⟩
  case round =>
    obtain ⟨rfl, rfl, rfl⟩ := hrel
    go_wp2
    go_ret
    exact ⟨rfl, Only.refl _ _⟩
set_option maxRecDepth 100000 in
theorem jlen0 (hB : Blk w lb 203 (logC db)) : Calls Tryz.prog 92 #[.pointer (some ⟨lb, 0, none⟩)] w fun e w' => e = .returned (.int .i64 0) ∧ Only [] w w' := by
  have HC := Lib.hid (jchs0 hB)
  clear hB
  go_enter Tryz.func92, Tryz.ntmps92
  go_wp2_with (go_at_call 135; refine HC.out.mono ?_; rintro e w1 ⟨rfl, k1⟩)
  go_loopw [3, 9] (fun o i wr => o = .int .i64 0 ∧ i = .int .i64 0 ∧ wr = w1) (fun _ _ _ => 0)
  case atStart => exact ⟨rfl, rfl, rfl⟩
  case round =>
    obtain ⟨rfl, rfl, hwr⟩ := hrel
    have hwr' := hwr.symm
    subst hwr'
    go_wp2
    go_ret
    exact ⟨rfl, k1⟩
set_option maxRecDepth 100000 in
theorem jrange0 (hB : Blk w lb 203 (logC db)) : Calls Tryz.prog 91 #[.pointer (some ⟨lb, 0, none⟩), .int .i64 0, .int .i64 0] w fun e w' => e = .returned (.slice none 0 0) ∧ Only [] w w' := by
  have HC := Lib.hid (jlen0 hB)
  clear hB
  go_enter Tryz.func91, Tryz.ntmps91
  go_wp2_with fail
  go_loopw [7, 8] (fun o i wr => o = .slice none 0 0 ∧ i = .int .i64 0 ∧ wr = w) (fun _ _ _ => 0)
  case atStart => exact ⟨rfl, rfl, rfl⟩
  case round =>
    obtain ⟨rfl, rfl, rfl⟩ := hrel
    go_wp2_with (go_at_call 92; refine HC.out.mono ?_; rintro e w1 ⟨rfl, k1⟩)
    go_ret
    exact ⟨rfl, k1⟩
set_option maxRecDepth 100000 in
set_option maxHeartbeats 2000000 in
theorem jopen0 (h : DiskAt w db mb (DS.new 0) kv) : Calls Tryz.prog 90 #[.pointer (some ⟨db, 0, none⟩), .string ⟨#[108, 111, 103]⟩, .int .i64 20000] w fun e w' => ∃ lb, e = .returned (.tuple #[.pointer (some ⟨lb, 0, none⟩), .int .i64 0]) ∧ w.heap.size ≤ lb ∧ Blk w' lb 203 (logC db) ∧ Only [] w w' := by
  have HCl := Lib.hid (fun (W : World) => strClone_any ⟨#[108, 111, 103]⟩ W (by decide))
  have H0 := Lib.hid h
  clear h
  go_enter Tryz.func90, Tryz.ntmps90
  go_wp2_with (go_at_call 129; refine (HCl.out _).mono ?_; rintro e1 w1 ⟨rfl, k1⟩)
  rw [show (⟨#[108, 111, 103]⟩ ++ ⟨#[110, 101, 119]⟩ : ByteArray) = ⟨#[108, 111, 103, 110, 101, 119]⟩ from by kernel_rfl]
  have k2 : Only [] w1 (w1.alloc (.cells (logC db) 203)) := (Only.refl [] w1).alloc _
  have b2 : Blk (w1.alloc (.cells (logC db) 203)) w1.heap.size 203 (logC db) := Blk.new _ _ _
  have hlb := k1.size
  obtain ⟨W2, hW2⟩ : ∃ W2, W2 = w1.alloc (.cells (logC db) 203) := ⟨_, rfl⟩
  rw [← hW2] at k2 b2
  unfold logC at hW2
  have h2 := (H0.out.only0 k1).only0 k2
  obtain ⟨lb, hl⟩ : ∃ lb, w1.heap.size = lb := ⟨_, rfl⟩
  rw [hl] at b2 hlb ⊢
  rw [← hW2]
  clear hW2
  refine (jdrop0 b2 h2).mono ?_
  rintro e3 w3 ⟨rfl, k3⟩
  have b3 := k3.blk b2 (by simp)
  have h3 := h2.only0 k3
  go_wp2_with fail
  refine (jchunks0 b3 h3).mono ?_
  rintro e4 w4 ⟨rfl, k4⟩
  have b4 := k4.blk b3 (by simp)
  have h4 := h3.only0 k4
  have k04 := ((k1.trans k2).trans k3).trans k4
  have HB4 := Lib.hid b4
  have H4 := Lib.hid h4
  have K04 := Lib.hid k04
  clear b2 b3 b4 h2 h3 h4 k1 k2 k3 k4 k04 H0 HCl hl
  go_wp2_with fail
  go_loopw [59] (fun i wr => i = .int .i64 0 ∧ wr = w4) (fun _ _ => 0)
  case atStart => exact ⟨rfl, rfl⟩
  case round =>
    obtain ⟨rfl, hwr⟩ := hrel
    have hwr' := hwr.symm
    subst hwr'
    go_wp2_with fail
    refine (jmarked0 HB4.out H4.out).mono ?_
    rintro e5 w5 ⟨rfl, k5⟩
    have b5 := k5.blk HB4.out (by simp)
    go_wp2_with fail
    refine (jlen0 b5).mono ?_
    rintro e6 w6 ⟨rfl, k6⟩
    have b6 := k6.blk b5 (by simp)
    have hk6 := (K04.out.trans k5).trans k6
    have hf : Blk (w6.setCell ⟨lb, 4, none⟩ (.int .i64 0)) lb 203 (logC db) := b6.set 4 (.int .i64 0)
    have hof := hk6.setCell (p := ⟨lb, 4, none⟩) (.inr hlb) (.int .i64 0)
    have HF := Lib.hid hf
    have HOF := Lib.hid hof
    unfold logC at b6
    have c4 := b6.cell 4
    have f4 := b6.free 4
    clear hf hof b5 b6 hk6 k5 k6
    go_wp2
    go_ret2
    exact ⟨lb, rfl, hlb, HF.out, HOF.out⟩
end
end
end Go.Proofs.YteinoiicnmemhaaGreatDoor.J
