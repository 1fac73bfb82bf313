/- DiskRoom: the plain law and the walk. -/
import Derived.Test.YtgahjdfjlfoioaaDl1
import Derived.Laws.BytesArg
import Derived.Laws.MakeOwn
import Derived.Laws.Bits128
namespace Go.Proofs.Ytgahjdfjlfoioaa
open Go.RowKit Go.Sort
set_option linter.unusedVariables false
namespace Rm
def fN : ByteArray := ⟨#[102]⟩
def gN : ByteArray := ⟨#[103]⟩
def rf : Option ByteArray → Files
  | none => []
  | some b => [(fN, ⟨b, 0, false⟩)]
def R (room : Int) (o : Option ByteArray) : DS := ⟨true, room, rf o, false, 0, []⟩
def us : Option ByteArray → Int
  | none => 0
  | some b => b.size
def ad : Option ByteArray → ByteArray → ByteArray
  | none, x => x
  | some b, x => b ++ x
def G (room : Int) (z : ByteArray) : DS := ⟨true, room, [(gN, ⟨z, 0, false⟩)], false, 0, []⟩
theorem us_ad (o : Option ByteArray) (x : ByteArray) : us (some (ad o x)) = us o + x.size := by
  cases o <;> simp [us, ad]
theorem used_is (room : Int) (o : Option ByteArray) : (R room o).used = us o := by
  cases o <;> simp [R, DS.used, us, rf]
theorem app_in (room : Int) (o : Option ByteArray) (x : ByteArray) (h : (x.size : Int) ≤ room - us o) : (R room o).append fN x = (0, R room (some (ad o x))) := by
  unfold DS.append
  have hf : (R room o).full fN x.size = false := by
    unfold DS.full
    rw [used_is]
    have : ¬ (room - us o < (x.size : Int)) := by omega
    cases o <;> simp [R, aget, rf, this]
  rw [if_neg (fun q => q rfl), hf, if_neg (by simp)]
  cases o
  · simp [DS.doneE, DS.done, DS.goes, DS.tick, R, aput, DS.get, aget, ad, rf, File.zero]
    exact ByteArray.empty_append
  · simp [DS.doneE, DS.done, DS.goes, DS.tick, R, aput, DS.get, aget, ad, rf]
theorem app_out (room : Int) (hr : 1 ≤ room) (o : Option ByteArray) (x : ByteArray) (h : ¬ (x.size : Int) ≤ room - us o) : (R room o).append fN x = (20, R room o) := by
  unfold DS.append
  have hf : (R room o).full fN x.size = true := by
    unfold DS.full
    rw [used_is]
    have h1 : (room - us o < (x.size : Int)) := by omega
    have h2 : 0 < room := by omega
    cases o <;> simp [R, h1, h2]
  rw [if_neg (fun q => q rfl), hf, if_pos rfl]
theorem rem_some (room : Int) (b : ByteArray) : (R room (some b)).remove fN = (0, R room none) := by
  have h : ((R room (some b)).find fN).2 = 0 := by
    unfold DS.find
    rw [if_pos (show (R room (some b)).may [fN] = 0 from rfl)]
    simp [R, aget, rf]
  unfold DS.remove
  rw [if_neg (by simp [h]), if_neg (by simp [DS.doneE, DS.goes, R])]
  simp [DS.done, DS.goes, DS.tick, R, adel, rf]
theorem rem_none (room : Int) : (R room none).remove fN = (8, R room none) := by
  have h : ((R room none).find fN).2 = 8 := by
    unfold DS.find
    rw [if_pos (show (R room none).may [fN] = 0 from rfl)]
    simp [R, aget, rf]
  unfold DS.remove
  rw [if_pos (by simp [h]), h]
theorem g_in (room : Int) (z : ByteArray) (h : (z.size : Int) = room) : (R room none).append gN z = (0, G room z) := by
  unfold DS.append
  have hf : (R room none).full gN z.size = false := by
    unfold DS.full
    rw [used_is]
    have : ¬ (room < (z.size : Int)) := by omega
    simp [R, aget, rf, us, this]
  rw [if_neg (fun q => q rfl), hf, if_neg (by simp)]
  simp [DS.doneE, DS.done, DS.goes, DS.tick, R, aput, DS.get, aget, rf, File.zero, G]
  exact ByteArray.empty_append
theorem g_out (room : Int) (hr : 1 ≤ room) (z : ByteArray) (h : (z.size : Int) = room) : (G room z).append gN ⟨#[120]⟩ = (20, G room z) := by
  unfold DS.append
  have hf : (G room z).full gN (ByteArray.size ⟨#[120]⟩) = true := by
    unfold DS.full
    have h2 : 0 < room := by omega
    have h3 : (ByteArray.size ⟨#[120]⟩) = 1 := rfl
    have h4 : (G room z).used = z.size := by simp [G, DS.used]
    rw [h3, h4]
    have h5 : (room - (z.size : Int) < 1) := by omega
    simp [G, h2, h5, aget]
  rw [if_neg (fun q => q rfl), hf, if_pos rfl]
section
variable {A w : World} {db mb M : Nat} {room : Int} {o : Option ByteArray}
theorem cIn (w : World) (h : Has A w db mb (R room o) M) (x : ByteArray) (hM : M + x.size ≤ 1000000) (hx : (x.size : Int) ≤ room - us o) :
    Calls Try.prog 11 #[.pointer (some ⟨db, 0, none⟩), .string ⟨#[102]⟩, .string x] w fun e w' => e = .returned (.int .i64 0) ∧ Has A w' db mb (R room (some (ad o x))) (M + x.size) := by
  have := has_append h fN x (by omega)
  rwa [app_in room o x hx] at this
theorem cOut (w : World) (h : Has A w db mb (R room o) M) (hr : 1 ≤ room) (x : ByteArray) (hM : M + x.size ≤ 1000000) (hx : ¬ (x.size : Int) ≤ room - us o) :
    Calls Try.prog 11 #[.pointer (some ⟨db, 0, none⟩), .string ⟨#[102]⟩, .string x] w fun e w' => e = .returned (.int .i64 20) ∧ Has A w' db mb (R room o) (M + x.size) := by
  have := has_append h fN x (by omega)
  rwa [app_out room hr o x hx] at this
theorem cUsed (w : World) (h : Has A w db mb (R room o) M) (hM : M ≤ 1000000) :
    Calls Try.prog 12 #[.pointer (some ⟨db, 0, none⟩)] w fun e w' => e = .returned (.int .i64 (us o)) ∧ Has A w' db mb (R room o) M := by
  have := has_used h (by omega)
  rwa [used_is] at this
theorem cRem (w : World) (b : ByteArray) (h : Has A w db mb (R room (some b)) M) (hM : M ≤ 1000000) :
    Calls Try.prog 13 #[.pointer (some ⟨db, 0, none⟩), .string ⟨#[102]⟩] w fun e w' => e = .returned (.int .i64 0) ∧ Has A w' db mb (R room none) M := by
  have := has_remove h (by omega) fN
  rwa [rem_some] at this
theorem cRem0 (w : World) (h : Has A w db mb (R room none) M) (hM : M ≤ 1000000) :
    Calls Try.prog 13 #[.pointer (some ⟨db, 0, none⟩), .string ⟨#[102]⟩] w fun e w' => e = .returned (.int .i64 8) ∧ Has A w' db mb (R room none) M := by
  have := has_remove h (by omega) fN
  rwa [rem_none] at this
theorem cGin (w : World) (h : Has A w db mb (R room none) M) (z : ByteArray) (hM : M + z.size ≤ 1000000) (hz : (z.size : Int) = room) :
    Calls Try.prog 11 #[.pointer (some ⟨db, 0, none⟩), .string ⟨#[103]⟩, .string z] w fun e w' => e = .returned (.int .i64 0) ∧ Has A w' db mb (G room z) (M + z.size) := by
  have := has_append h gN z (by omega)
  rwa [g_in room z hz] at this
theorem cGout (w : World) (z : ByteArray) (h : Has A w db mb (G room z) M) (hr : 1 ≤ room) (hM : M + 1 ≤ 1000000) (hz : (z.size : Int) = room) :
    Calls Try.prog 11 #[.pointer (some ⟨db, 0, none⟩), .string ⟨#[103]⟩, .string ⟨#[120]⟩] w fun e w' => e = .returned (.int .i64 20) ∧ Only [] A w' := by
  have := has_append h gN ⟨#[120]⟩ (by show M + 1 ≤ _; omega)
  rw [g_out room hr z hz] at this
  exact this.mono fun e w' ⟨q1, q2⟩ => ⟨q1, q2.only⟩
end
end Rm
open Rm in
set_option maxRecDepth 100000 in
set_option maxHeartbeats 2000000 in
theorem room_big {w0 : World} (room : Int) (hk : (Lit.int .i64 room).wf = true) (v : Value) (zs : List Int) (hv : Slc w0 1 v zs.length (ints zs)) (w : World) (hs : room < 1 ∨ 3000 < room ∨ 30 < zs.length) :
    Calls Try.prog 3 #[.int .i64 room, v] w fun e w' => e = .returned (.bool true) ∧ Only [] w w' := by
  obtain ⟨A1, cap1, rfl, hnc1, hcm1, hl1⟩ := hv
  rcases (show room < 1 ∨ (¬ room < 1 ∧ 3000 < room) ∨ (¬ room < 1 ∧ ¬ 3000 < room ∧ (30 : Int) < zs.length) by omega) with q | ⟨q, q2⟩ | ⟨q, q2, q3⟩
  all_goals
    clear hs
    go_enter Try.func3, Try.ntmps3
    go_wp2_with (go_at_call 9; refine (alive_any _).mono ?_; rintro e w1 ⟨rfl, hal⟩)
    go_ret
    exact ⟨rfl, hal⟩
theorem u8_info : ∃ i, Try.prog.info? 5 = some i ∧ i.zero = some (.int .u8 0) ∧ i.size = 1 ∧ i.bytes = 1 := by
  have h : (Try.prog.info? 5).map (fun i => (i.zero, i.size, i.bytes)) = some (some (.int .u8 0), 1, 1) := by kernel_rfl
  cases hi : Try.prog.info? 5 with
  | none => rw [hi] at h; cases h
  | some i =>
    rw [hi] at h
    simp only [Option.map_some, Option.some.injEq, Prod.mk.injEq] at h
    exact ⟨i, rfl, h.1, h.2.1, h.2.2⟩
def zerosN (n : Nat) : ByteArray := strOfNums (List.replicate n 0)
theorem zerosN_size (n : Nat) : (zerosN n).size = n := by
  show ((List.replicate n (0 : Int)).map fun n => UInt8.ofNat n.toNat).toArray.size = n
  simp
theorem mk_is (w : World) (n : Nat) (h : n ≤ 4000) : (Instr.makeSlice 28 (.int .i64 n) (.int .i64 n)).run Try.prog w = .ok (.slice (some ⟨w.heap.size, 0, none⟩) n n) (w.alloc (.cells (madeCells #[.int .u8 0] n) 5)) := by
  obtain ⟨i, hi, hz, hs, hb⟩ := u8_info
  have := run_make (P := Try.prog) w 28 5 i _ Try.underlying28 hi hz .i64 .i64 (n : Int) n (by omega) (Int.le_refl _) (by rw [hb]; omega) (by omega)
  rw [hs] at this
  simp only [Int.toNat_natCast, Nat.mul_one] at this
  exact this
theorem mk_cell (w : World) (n : Nat) (i : Nat) (hi : i < n) : (w.alloc (.cells (madeCells #[.int .u8 0] n) 5)).cell? ⟨w.heap.size, i, none⟩ = some (.int .u8 0) := by
  rw [Blk.cell (Blk.new w 5 _) i]
  simp [madeCells, hi, Nat.mod_one]
theorem cv_is (w W : World) (g n : Nat) (hW : ∀ i, i < n → W.cell? ⟨g, i, none⟩ = some (.int .u8 0)) : (convert 28 9 (.slice (some ⟨g, 0, none⟩) n n)).run Try.prog W = .ok (.string (zerosN n)) W :=
  run_convert_bytes_arg W 28 5 Try.underlying28 Try.underlying5 g 0 n n (List.replicate n 0) (by simp) (fun i hi => by
    rw [Nat.zero_add, hW i hi]
    simp [List.getD, hi]) 9 Try.underlying9
theorem and511 (n : Int) : bits .and .i64 n 511 = n % 512 := by
  have h511 : (BitVec.ofInt 64 511).toNat = 2 ^ 9 - 1 := by decide
  have key : (BitVec.ofInt 64 n &&& BitVec.ofInt 64 511).toNat = (n % ((2 ^ 64 : Nat) : Int)).toNat % 2 ^ 9 := by
    rw [BitVec.toNat_and, BitVec.toNat_ofInt, h511, Nat.and_two_pow_sub_one_eq_mod]
  show IntKind.i64.wrap ((BitVec.ofInt 64 n &&& BitVec.ofInt 64 511).toNat : Nat) = n % 512
  rw [key, IntKind.wrap_i64]
  omega
open Rm in
set_option maxRecDepth 100000 in
set_option maxHeartbeats 2000000 in
theorem room_go (room : Int) (hk : (Lit.int .i64 room).wf = true) (v : Value) (zs : List Int) (w : World) (hv : Slc w 1 v zs.length (ints zs)) (hz : ∀ z ∈ zs, (Lit.int .i64 z).wf = true) (hr : 1 ≤ room) (hr2 : room ≤ 3000) (hl : zs.length ≤ 30) :
    Calls Try.prog 3 #[.int .i64 room, v] w fun e w' => e = .returned (.bool true) ∧ Only [] w w' := by
  obtain ⟨A1, cap1, rfl, hnc1, hcm1, hl1, hc1⟩ := hv.cell
  have q1 : ¬ room < 1 := by omega
  have q2 : ¬ 3000 < room := by omega
  have q3 : ¬ (30 : Int) < zs.length := by omega
  go_enter Try.func3, Try.ntmps3
  go_wp2_with (go_at_call 10; refine (has_new w w (Only.refl [] w) room (by omega)).mono ?_; rintro e w1 ⟨rfl, h0⟩)
  go_loopw [6, 7] (fun u i wr => ∃ (j : Nat) (o : Option ByteArray), j ≤ zs.length ∧ i = .int .i64 j ∧ u = .int .i64 (us o) ∧ 0 ≤ us o ∧ us o ≤ room ∧ Has w wr (w.heap.size + 1) w.heap.size (R room o) (512 * j)) (fun _ i _ => zs.length - (intOf i).toNat)
  case atStart => exact ⟨0, none, Nat.zero_le _, rfl, rfl, Int.le_refl _, by show (0 : Int) ≤ _; omega, h0⟩
  case round =>
    obtain ⟨j, o, hj, rfl, rfl, hu0, hu1, hH⟩ := hrel
    by_cases hlt : j < zs.length
    case pos =>
      obtain ⟨b, off, rfl, hb, hcc⟩ : ∃ b off, A1 = some ⟨b, off, none⟩ ∧ b < w.heap.size ∧ ∀ j, j < (ints zs).length → w.cell? ⟨b, off + j, none⟩ = (ints zs)[j]? := by
        rcases hc1 with q | q
        · omega
        · exact q
      obtain ⟨z, hze⟩ : ∃ z, z = zs[j] := ⟨_, rfl⟩
      have cz : wr.cell? ⟨b, off + j, none⟩ = some (.int .i64 z) := by
        rw [hH.only.cell hb (by simp), hcc j (by simpa [ints] using hlt), hze]
        simp [ints, hlt]
      clear hcc hc1 hze
      obtain ⟨n, hn⟩ : ∃ n : Nat, bits .and .i64 z 511 = n := ⟨(z % 512).toNat, by rw [and511]; omega⟩
      have hn5 : n < 512 := by have := and511 z; omega
      have hmk := mk_is wr n (by omega)
      have hcv := cv_is wr _ _ _ (mk_cell wr n)
      have hzs := zerosN_size n
      have hus : us (some (ad o (zerosN n))) = us o + n := by rw [us_ad, hzs]
      by_cases hin : (n : Int) ≤ room - us o
      · go_wp2_with (first
          | (go_at_call 11; refine (cIn _ (hH.keep ((Only.refl [] wr).alloc _)) (zerosN n) (by omega) (by omega)).mono ?_; rintro e w2 ⟨rfl, h2⟩)
          | (go_at_call 12; refine (cUsed _ h2 (by omega)).mono ?_; rintro e w3 ⟨rfl, h3⟩))
        exact ⟨⟨j + 1, _, by omega, by simp, by rw [hus], by rw [hus]; omega, by rw [hus]; omega, h3.mono (by omega)⟩, by simp [intOf]; omega⟩
      · go_wp2_with (first
          | (go_at_call 11; refine (cOut _ (hH.keep ((Only.refl [] wr).alloc _)) hr (zerosN n) (by omega) (by omega)).mono ?_; rintro e w2 ⟨rfl, h2⟩)
          | (go_at_call 12; refine (cUsed _ h2 (by omega)).mono ?_; rintro e w3 ⟨rfl, h3⟩))
        exact ⟨⟨j + 1, o, by omega, by simp, rfl, hu0, hu1, h3.mono (by omega)⟩, by simp [intOf]; omega⟩
    case neg =>
      obtain ⟨rn, rfl⟩ : ∃ rn : Nat, room = rn := ⟨room.toNat, by omega⟩
      have hmk := fun W => mk_is W rn (by omega)
      have hcv := fun W => cv_is W _ _ _ (mk_cell W rn)
      have hzs := zerosN_size rn
      have hus0 : us none = 0 := rfl
      by_cases hpos : 0 < us o
      · obtain ⟨bb, rfl⟩ : ∃ bb, o = some bb := by
          cases o with
          | none => exact absurd hpos (by simp [us])
          | some bb => exact ⟨bb, rfl⟩
        go_wp2_with (first
          | (go_at_call 13; first | (refine (cRem0 _ h2 (by omega)).mono ?_; rintro e w3 ⟨rfl, h3⟩) | (refine (cRem _ bb hH (by omega)).mono ?_; rintro e w2 ⟨rfl, h2⟩))
          | (go_at_call 9; refine (alive_any _).mono ?_; rintro e w4 ⟨rfl, hal⟩; have h4 := h3.keep hal)
          | (go_at_call 12; refine (cUsed _ h4 (by omega)).mono ?_; rintro e w5 ⟨rfl, h5⟩)
          | (go_at_call 11; first | (refine (cGout _ (zerosN rn) h6 hr (by omega) (by rw [hzs])).mono ?_; rintro e w7 ⟨rfl, h7⟩) | (refine (cGin _ (h5.keep ((Only.refl [] _).alloc _)) (zerosN rn) (by omega) (by rw [hzs])).mono ?_; rintro e w6 ⟨rfl, h6⟩)))
        go_ret
        exact ⟨rfl, h7⟩
      · cases o with
        | none =>
          go_wp2_with (first
            | (go_at_call 13; refine (cRem0 _ hH (by omega)).mono ?_; rintro e w3 ⟨rfl, h3⟩)
            | (go_at_call 9; refine (alive_any _).mono ?_; rintro e w4 ⟨rfl, hal⟩; have h4 := h3.keep hal)
            | (go_at_call 12; refine (cUsed _ h4 (by omega)).mono ?_; rintro e w5 ⟨rfl, h5⟩)
            | (go_at_call 11; first | (refine (cGout _ (zerosN rn) h6 hr (by omega) (by rw [hzs])).mono ?_; rintro e w7 ⟨rfl, h7⟩) | (refine (cGin _ (h5.keep ((Only.refl [] _).alloc _)) (zerosN rn) (by omega) (by rw [hzs])).mono ?_; rintro e w6 ⟨rfl, h6⟩)))
          go_ret
          exact ⟨rfl, h7⟩
        | some bb =>
          go_wp2_with (first
            | (go_at_call 13; refine (cRem _ bb hH (by omega)).mono ?_; rintro e w3 ⟨rfl, h3⟩)
            | (go_at_call 9; refine (alive_any _).mono ?_; rintro e w4 ⟨rfl, hal⟩; have h4 := h3.keep hal)
            | (go_at_call 12; refine (cUsed _ h4 (by omega)).mono ?_; rintro e w5 ⟨rfl, h5⟩)
            | (go_at_call 11; first | (refine (cGout _ (zerosN rn) h6 hr (by omega) (by rw [hzs])).mono ?_; rintro e w7 ⟨rfl, h7⟩) | (refine (cGin _ (h5.keep ((Only.refl [] _).alloc _)) (zerosN rn) (by omega) (by rw [hzs])).mono ?_; rintro e w6 ⟨rfl, h6⟩)))
          go_ret
          exact ⟨rfl, h7⟩
theorem roomW (room : Int) (hk : (Lit.int .i64 room).wf = true) (v : Value) (zs : List Int) (w : World) : Slc w 1 v zs.length (ints zs) → (∀ z ∈ zs, (Lit.int .i64 z).wf = true) → (∀ g, v.ownBlock = some g → g < w.heap.size ∨ zs = []) →
    Calls Try.prog 3 #[.int .i64 room, v] w fun e w' => e = .returned (.bool true) ∧ Only [] w w' := by
  intro hv hz _
  by_cases hs : room < 1 ∨ 3000 < room ∨ 30 < zs.length
  · exact room_big room hk v zs hv w hs
  · exact room_go room hk v zs w hv hz (by omega) (by omega) (by omega)
end Go.Proofs.Ytgahjdfjlfoioaa
