/- DiskRenames: the plain law and the walk. -/
import Derived.Test.YtgahjdfjlfoioaaDl1
import Derived.Test.YtgahjdfjlfoioaaDk14
set_option linter.unusedVariables false
namespace Go.Proofs.Ytgahjdfjlfoioaa
open Go.RowKit Go.Sort
namespace Rn
def xN : ByteArray := ⟨#[120]⟩
def yN : ByteArray := ⟨#[121]⟩
def zN : ByteArray := ⟨#[122]⟩
def D (fs : Files) : DS := ⟨true, 0, fs, false, 0, []⟩
def F1 (a : ByteArray) : Files := [(xN, ⟨a, 0, false⟩)]
def F2 (a b : ByteArray) : Files := [(xN, ⟨a, 0, false⟩), (yN, ⟨b, 0, false⟩)]
def F3 (a b : ByteArray) : Files := [(xN, ⟨a, a.size, true⟩), (yN, ⟨b, 0, false⟩)]
def F4 (a : ByteArray) (s : Bool) : Files := [(yN, ⟨a, if s then a.size else 0, s⟩)]
def E (fs : Files) : DS := ⟨true, 0, fs, false, -1, []⟩
theorem nxy : (xN = yN) = False := by simp [xN, yN]
theorem nyx : (yN = xN) = False := by simp [xN, yN]
theorem nyz : (yN = zN) = False := by simp [zN, yN]
theorem emp (a : ByteArray) : (⟨#[]⟩ : ByteArray) ++ a = a := ByteArray.empty_append
theorem may_x (fs : Files) : (D fs).may [xN] = 0 := rfl
theorem may_y (fs : Files) : (D fs).may [yN] = 0 := rfl
theorem app_x (a : ByteArray) : (DS.new 0).append xN a = (0, D (F1 a)) := by
  unfold DS.append
  rw [if_neg (fun q => q rfl), if_neg (by simp [DS.full, DS.new, aget, DS.used])]
  simp [DS.doneE, DS.done, DS.goes, DS.tick, DS.new, D, F1, aput, DS.get, aget, File.zero, emp]
theorem app_y (a b : ByteArray) : (D (F1 a)).append yN b = (0, D (F2 a b)) := by
  unfold DS.append
  rw [if_neg (fun q => q rfl), if_neg (by simp [DS.full, D, F1, aget, DS.used, nxy])]
  simp [DS.doneE, DS.done, DS.goes, DS.tick, D, F1, F2, aput, DS.get, aget, File.zero, emp, nxy]
theorem syn_x (a b : ByteArray) : (D (F2 a b)).sync xN = (0, D (F3 a b)) := by
  have h : ((D (F2 a b)).find xN).2 = 0 := by
    unfold DS.find
    rw [if_pos (may_x _)]
    simp [D, F2, aget]
  unfold DS.sync
  rw [if_neg (by simp [h]), if_neg (by simp [DS.doneE, DS.goes, D])]
  simp [DS.done, DS.goes, DS.tick, D, F2, F3, aput, DS.get, aget]
theorem ren2 (a b : ByteArray) : (D (F2 a b)).rename xN yN = (0, D (F4 a false)) := by
  have h : ((D (F2 a b)).find xN).2 = 0 := by
    unfold DS.find
    rw [if_pos (may_x _)]
    simp [D, F2, aget]
  unfold DS.rename
  rw [if_neg (fun q => q rfl), if_neg (by simp [h]), if_neg (by simp [DS.doneE, DS.goes, D])]
  simp [DS.done, DS.goes, DS.tick, D, F2, F4, aput, adel, DS.get, aget]
theorem ren3 (a b : ByteArray) : (D (F3 a b)).rename xN yN = (0, D (F4 a true)) := by
  have h : ((D (F3 a b)).find xN).2 = 0 := by
    unfold DS.find
    rw [if_pos (may_x _)]
    simp [D, F3, aget]
  unfold DS.rename
  rw [if_neg (fun q => q rfl), if_neg (by simp [h]), if_neg (by simp [DS.doneE, DS.goes, D])]
  simp [DS.done, DS.goes, DS.tick, D, F3, F4, aput, adel, DS.get, aget]
theorem size_x (a : ByteArray) (s : Bool) : ((D (F4 a s)).size xN).2 = 8 := by
  unfold DS.size DS.find
  rw [if_pos (may_x _)]
  simp [D, F4, aget, nyx]
theorem read_y (a : ByteArray) (s : Bool) : (D (F4 a s)).read yN 0 (a.size : Nat) = (a, 0) := by
  unfold DS.read
  have h : ((D (F4 a s)).find yN).2 = 0 := by
    unfold DS.find
    rw [if_pos (may_y _)]
    simp [D, F4, aget]
  rw [if_neg (by simp [h]), if_neg (by simp [D, F4, DS.get, aget])]
  simp [D, F4, DS.get, aget]
theorem used_4 (a : ByteArray) (s : Bool) : (D (F4 a s)).used = a.size := by simp [D, F4, DS.used]
theorem list_4 (a : ByteArray) (s : Bool) : ((D (F4 a s)).list ⟨#[]⟩).length = 1 := by
  unfold DS.list
  rw [if_pos (by rfl), names_one _ yN _ rfl]
  simp
theorem crash_t (a : ByteArray) : (D (F4 a true)).crash [] = { E (F4 a true) with on := false } := by
  unfold DS.crash
  rw [if_pos (by rfl), names_one _ yN ⟨a, a.size, true⟩ rfl]
  simp [DS.crashAll, DS.crashOne, DS.crashFile, D, F4, aget, aput, E]
theorem crash_f (a : ByteArray) : (D (F4 a false)).crash [] = { E [] with on := false } := by
  unfold DS.crash
  rw [if_pos (by rfl), names_one _ yN ⟨a, 0, false⟩ rfl]
  simp [DS.crashAll, DS.crashOne, DS.crashFile, D, F4, aget, aput, adel, E]
  omega
theorem size_t (a : ByteArray) : (E (F4 a true)).size yN = (((a.size : Nat) : Int), 0) := by
  unfold DS.size DS.find
  rw [if_pos (by rfl)]
  simp [E, F4, aget, DS.get]
theorem size_f : (E []).size yN = (0, 8) := by kernel_rfl
theorem ren_yz : (E []).rename yN zN = (8, E []) := by kernel_rfl
theorem ren_zz : (E []).rename zN zN = (8, E []) := by kernel_rfl
section
variable {A w : World} {db mb : Nat} {a b : ByteArray} {s : Bool}
theorem c1 (w : World) (h : Has A w db mb (DS.new 0) 0) (a : ByteArray) (ha : a.size ≤ 1000) : Calls Try.prog 11 #[.pointer (some ⟨db, 0, none⟩), .string ⟨#[120]⟩, .string a] w fun e w' => e = .returned (.int .i64 0) ∧ Has A w' db mb (D (F1 a)) 1000 := by
  have := has_append h xN a (by omega)
  rw [app_x] at this
  exact this.mono fun e w' ⟨q1, q2⟩ => ⟨q1, q2.mono (by omega)⟩
theorem c2 (w : World) (h : Has A w db mb (D (F1 a)) 1000) (b : ByteArray) (hb : b.size ≤ 1000) : Calls Try.prog 11 #[.pointer (some ⟨db, 0, none⟩), .string ⟨#[121]⟩, .string b] w fun e w' => e = .returned (.int .i64 0) ∧ Has A w' db mb (D (F2 a b)) 2000 := by
  have := has_append h yN b (by omega)
  rw [app_y] at this
  exact this.mono fun e w' ⟨q1, q2⟩ => ⟨q1, q2.mono (by omega)⟩
theorem c3 (w : World) (h : Has A w db mb (D (F2 a b)) 2000) : Calls Try.prog 14 #[.pointer (some ⟨db, 0, none⟩), .string ⟨#[120]⟩] w fun e w' => e = .returned (.int .i64 0) ∧ Has A w' db mb (D (F3 a b)) 2000 := by
  have := has_sync h (by decide) xN
  rwa [syn_x] at this
theorem c4 (w : World) (h : Has A w db mb (D (F2 a b)) 2000) : Calls Try.prog 24 #[.pointer (some ⟨db, 0, none⟩), .string ⟨#[120]⟩, .string ⟨#[121]⟩] w fun e w' => e = .returned (.int .i64 0) ∧ Has A w' db mb (D (F4 a false)) 2000 := by
  have := has_rename h (by decide) xN yN
  rwa [ren2] at this
theorem c5 (w : World) (h : Has A w db mb (D (F3 a b)) 2000) : Calls Try.prog 24 #[.pointer (some ⟨db, 0, none⟩), .string ⟨#[120]⟩, .string ⟨#[121]⟩] w fun e w' => e = .returned (.int .i64 0) ∧ Has A w' db mb (D (F4 a true)) 2000 := by
  have := has_rename h (by decide) xN yN
  rwa [ren3] at this
theorem c6 (w : World) (h : Has A w db mb (D (F4 a s)) 2000) : Calls Try.prog 21 #[.pointer (some ⟨db, 0, none⟩), .string ⟨#[120]⟩] w fun e w' => (∃ z, e = .returned (.tuple #[.int .i64 z, .int .i64 8])) ∧ Has A w' db mb (D (F4 a s)) 2000 := by
  have := has_size h xN
  rw [size_x] at this
  exact this.mono fun e w' ⟨q1, q2⟩ => ⟨⟨_, q1⟩, q2⟩
theorem c7 (w : World) (h : Has A w db mb (D (F4 a s)) 2000) : Calls Try.prog 20 #[.pointer (some ⟨db, 0, none⟩), .string ⟨#[121]⟩, .int .i64 0, .int .i64 (a.size : Nat)] w fun e w' => e = .returned (.tuple #[.string a, .int .i64 0]) ∧ Has A w' db mb (D (F4 a s)) 2000 := by
  have := has_read h (by decide) yN 0 (a.size : Nat)
  rwa [read_y] at this
theorem c8 (w : World) (h : Has A w db mb (D (F4 a s)) 2000) : Calls Try.prog 12 #[.pointer (some ⟨db, 0, none⟩)] w fun e w' => e = .returned (.int .i64 (a.size : Nat)) ∧ Has A w' db mb (D (F4 a s)) 2000 := by
  have := has_used h (by decide)
  rwa [used_4] at this
theorem c9 (w : World) (h : Has A w db mb (D (F4 a s)) 2000) : Calls Try.prog 23 #[.pointer (some ⟨db, 0, none⟩), .string ⟨#[]⟩] w fun e w' => (∃ A' cap, e = .returned (.slice A' 1 cap)) ∧ Has A w' db mb (D (F4 a s)) 2000 := by
  obtain ⟨kv, h1, _⟩ := h.disk
  refine (list_any h1 h.ok.fs ⟨#[]⟩).mono fun e w' ⟨v, q1, q2, q3, q4⟩ => ⟨?_, h.keep q4⟩
  rw [list_4] at q2
  obtain ⟨A', cap, hv, _⟩ := q2
  subst hv
  exact ⟨A', cap, q1⟩
theorem c10 (w : World) (h : Has A w db mb (D (F4 a true)) 2000) : Calls Try.prog 18 #[.pointer (some ⟨db, 0, none⟩), .slice none 0 0] w fun e w' => (∃ z, e = .returned (.int .i64 z)) ∧ Has A w' db mb { E (F4 a true) with on := false } 2000 := by
  have := has_crash (keep := []) h (by decide) (Slc.nil w 1) (fun g hg => by cases hg)
  rw [crash_t] at this
  exact this.mono fun e w' ⟨q1, q2⟩ => ⟨⟨_, q1⟩, q2⟩
theorem c11 (w : World) (h : Has A w db mb (D (F4 a false)) 2000) : Calls Try.prog 18 #[.pointer (some ⟨db, 0, none⟩), .slice none 0 0] w fun e w' => (∃ z, e = .returned (.int .i64 z)) ∧ Has A w' db mb { E [] with on := false } 2000 := by
  have := has_crash (keep := []) h (by decide) (Slc.nil w 1) (fun g hg => by cases hg)
  rw [crash_f] at this
  exact this.mono fun e w' ⟨q1, q2⟩ => ⟨⟨_, q1⟩, q2⟩
theorem c12 (w : World) (fs : Files) (h : Has A w db mb { E fs with on := false } 2000) : Calls Try.prog 19 #[.pointer (some ⟨db, 0, none⟩)] w fun e w' => e = .returned (.tuple #[]) ∧ Has A w' db mb (E fs) 2000 := has_restore h
theorem c13 (w : World) (h : Has A w db mb (E (F4 a true)) 2000) : Calls Try.prog 21 #[.pointer (some ⟨db, 0, none⟩), .string ⟨#[121]⟩] w fun e w' => e = .returned (.tuple #[.int .i64 (a.size : Nat), .int .i64 0]) ∧ Has A w' db mb (E (F4 a true)) 2000 := by
  have := has_size h yN
  rwa [size_t] at this
theorem c14 (w : World) (h : Has A w db mb (E []) 2000) : Calls Try.prog 21 #[.pointer (some ⟨db, 0, none⟩), .string ⟨#[121]⟩] w fun e w' => e = .returned (.tuple #[.int .i64 0, .int .i64 8]) ∧ Has A w' db mb (E []) 2000 := by
  have := has_size h yN
  rwa [size_f] at this
theorem c15 (w : World) (h : Has A w db mb (E []) 2000) : Calls Try.prog 24 #[.pointer (some ⟨db, 0, none⟩), .string ⟨#[121]⟩, .string ⟨#[122]⟩] w fun e w' => e = .returned (.int .i64 8) ∧ Has A w' db mb (E []) 2000 := by
  have := has_rename h (by decide) yN zN
  rwa [ren_yz] at this
theorem c16 (w : World) (h : Has A w db mb (E []) 2000) : Calls Try.prog 24 #[.pointer (some ⟨db, 0, none⟩), .string ⟨#[122]⟩, .string ⟨#[122]⟩] w fun e w' => e = .returned (.int .i64 8) ∧ Has A w' db mb (E []) 2000 := by
  have := has_rename h (by decide) zN zN
  rwa [ren_zz] at this
end
end Rn
open Rn in
set_option maxRecDepth 100000 in
set_option maxHeartbeats 2000000 in
theorem renames_big (a : ByteArray) (ma : a.size ≤ maxLen) (b : ByteArray) (mb : b.size ≤ maxLen) (s : Bool) (w : World) (hs : 1000 < a.size ∨ 1000 < b.size ∨ a.size = 0) :
    Calls Try.prog 6 #[.string a, .string b, .bool s] w fun e w' => e = .returned (.bool true) ∧ Only [] w w' := by
  unfold maxLen at ma mb
  rcases (show (1000 : Int) < a.size ∨ (¬ (1000 : Int) < a.size ∧ (1000 : Int) < b.size) ∨ (¬ (1000 : Int) < a.size ∧ ¬ (1000 : Int) < b.size ∧ (a.size : Int) = 0) by omega) with q | ⟨q, q2⟩ | ⟨q, q2, q3⟩
  all_goals
    clear hs
    go_enter Try.func6, Try.ntmps6
    go_wp2_with (go_at_call 9; refine (alive_any _).mono ?_; rintro e w1 ⟨rfl, hal⟩)
    go_ret
    exact ⟨rfl, hal⟩
open Rn in
set_option maxRecDepth 100000 in
set_option maxHeartbeats 2000000 in
theorem renames_t (a : ByteArray) (b : ByteArray) (w : World) (ha : a.size ≤ 1000) (hb : b.size ≤ 1000) (hp : 0 < a.size) :
    Calls Try.prog 6 #[.string a, .string b, .bool true] w fun e w' => e = .returned (.bool true) ∧ Only [] w w' := by
  have q1 : ¬ (1000 : Int) < a.size := by omega
  have q2 : ¬ (1000 : Int) < b.size := by omega
  have q3 : ¬ (a.size : Int) = 0 := by omega
  go_enter Try.func6, Try.ntmps6
  go_wp2_with (first
      | (go_at_call 9; refine (alive_any _).mono ?_; rintro e w1 ⟨rfl, hal⟩)
      | (go_at_call 10; refine (has_new w w (Only.refl [] w) 0 (by decide)).mono ?_; rintro e w1 ⟨rfl, h0⟩)
      | (go_at_call 11; first | (refine (c2 _ h1 b hb).mono ?_; rintro e w1 ⟨rfl, h2⟩) | (refine (c1 _ h0 a ha).mono ?_; rintro e w1 ⟨rfl, h1⟩))
      | (go_at_call 14; refine (c3 _ h2).mono ?_; rintro e w1 ⟨rfl, h3⟩)
      | (go_at_call 20; refine (c7 _ h5).mono ?_; rintro e w1 ⟨rfl, h6⟩)
      | (go_at_call 12; refine (c8 _ h6).mono ?_; rintro e w1 ⟨rfl, h7⟩)
      | (go_at_call 23; refine (c9 _ h7).mono ?_; rintro e w1 ⟨⟨A', cap', rfl⟩, h8⟩)
      | (go_at_call 19; refine (c12 _ _ h9).mono ?_; rintro e w1 ⟨rfl, h10⟩)
      | (go_at_call 24; refine (c5 _ h3).mono ?_; rintro e w1 ⟨rfl, h4⟩)
      | (go_at_call 21; first | (refine (c13 _ h10).mono ?_; rintro e w1 ⟨rfl, h11⟩) | (refine (c6 _ h4).mono ?_; rintro e w1 ⟨⟨z, rfl⟩, h5⟩))
      | (go_at_call 18; refine (c10 _ h8).mono ?_; rintro e w1 ⟨⟨z, rfl⟩, h9⟩))
  go_ret
  exact ⟨rfl, h11.only.trans hal⟩
open Rn in
set_option maxRecDepth 100000 in
set_option maxHeartbeats 2000000 in
theorem renames_f (a : ByteArray) (b : ByteArray) (w : World) (ha : a.size ≤ 1000) (hb : b.size ≤ 1000) (hp : 0 < a.size) :
    Calls Try.prog 6 #[.string a, .string b, .bool false] w fun e w' => e = .returned (.bool true) ∧ Only [] w w' := by
  have q1 : ¬ (1000 : Int) < a.size := by omega
  have q2 : ¬ (1000 : Int) < b.size := by omega
  have q3 : ¬ (a.size : Int) = 0 := by omega
  go_enter Try.func6, Try.ntmps6
  go_wp2_with (first
      | (go_at_call 9; refine (alive_any _).mono ?_; rintro e w1 ⟨rfl, hal⟩)
      | (go_at_call 10; refine (has_new w w (Only.refl [] w) 0 (by decide)).mono ?_; rintro e w1 ⟨rfl, h0⟩)
      | (go_at_call 11; first | (refine (c2 _ h1 b hb).mono ?_; rintro e w1 ⟨rfl, h2⟩) | (refine (c1 _ h0 a ha).mono ?_; rintro e w1 ⟨rfl, h1⟩))
      | (go_at_call 14; refine (c3 _ h2).mono ?_; rintro e w1 ⟨rfl, h3⟩)
      | (go_at_call 20; refine (c7 _ h5).mono ?_; rintro e w1 ⟨rfl, h6⟩)
      | (go_at_call 12; refine (c8 _ h6).mono ?_; rintro e w1 ⟨rfl, h7⟩)
      | (go_at_call 23; refine (c9 _ h7).mono ?_; rintro e w1 ⟨⟨A', cap', rfl⟩, h8⟩)
      | (go_at_call 19; refine (c12 _ _ h9).mono ?_; rintro e w1 ⟨rfl, h10⟩)
      | (go_at_call 24; first | (refine (c16 _ h12).mono ?_; rintro e w1 ⟨rfl, h13⟩) | (refine (c15 _ (h11.keep hal)).mono ?_; rintro e w1 ⟨rfl, h12⟩) | (refine (c4 _ h2).mono ?_; rintro e w1 ⟨rfl, h4⟩))
      | (go_at_call 21; first | (refine (c14 _ h10).mono ?_; rintro e w1 ⟨rfl, h11⟩) | (refine (c6 _ h4).mono ?_; rintro e w1 ⟨⟨z, rfl⟩, h5⟩))
      | (go_at_call 18; refine (c11 _ h8).mono ?_; rintro e w1 ⟨⟨z, rfl⟩, h9⟩))
  go_ret
  exact ⟨rfl, h13.only⟩
theorem renamesW (a : ByteArray) (ma : a.size ≤ maxLen) (b : ByteArray) (mb : b.size ≤ maxLen) (s : Bool) (w : World) :
    Calls Try.prog 6 #[.string a, .string b, .bool s] w fun e w' => e = .returned (.bool true) ∧ Only [] w w' := by
  by_cases hs : 1000 < a.size ∨ 1000 < b.size ∨ a.size = 0
  · exact renames_big a ma b mb s w hs
  · cases s
    · exact renames_f a b w (by omega) (by omega) (by omega)
    · exact renames_t a b w (by omega) (by omega) (by omega)
end Go.Proofs.Ytgahjdfjlfoioaa
