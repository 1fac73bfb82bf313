/- DiskKeeps: the plain law and the walk. -/
import Derived.Test.YtgahjdfjlfoioaaDl1
namespace Go.Proofs.Ytgahjdfjlfoioaa
open Go.RowKit Go.Sort
namespace Keeps
def fN : ByteArray := ⟨#[102]⟩
def K1 (a : ByteArray) : DS := ⟨true, 0, [(fN, ⟨a, 0, false⟩)], false, 0, []⟩
def K2 (a : ByteArray) : DS := ⟨true, 0, [(fN, ⟨a, a.size, true⟩)], false, 0, []⟩
def K3 (a b : ByteArray) : DS := ⟨true, 0, [(fN, ⟨a ++ b, a.size, true⟩)], false, 0, []⟩
def K4 (a : ByteArray) (k : Int) : DS := ⟨true, 0, [(fN, ⟨a, a.size, true⟩)], true, 0, [k]⟩
def nk (b : ByteArray) (k : Int) : Nat := (min (max k 0) (b.size : Int)).toNat
def want (a b : ByteArray) (k : Int) : ByteArray := a ++ b.extract 0 (nk b k)
def K5 (a b : ByteArray) (k : Int) : DS := ⟨false, 0, [(fN, ⟨want a b k, (want a b k).size, true⟩)], false, -1, []⟩
def K6 (a b : ByteArray) (k : Int) : DS := ⟨true, 0, [(fN, ⟨want a b k, (want a b k).size, true⟩)], false, -1, []⟩
theorem emp (a : ByteArray) : (⟨#[]⟩ : ByteArray) ++ a = a := ByteArray.empty_append
theorem k1_is (a : ByteArray) : (DS.new 0).append fN a = (0, K1 a) := by
  unfold DS.append
  rw [if_neg (by decide), if_neg (by simp [DS.full, DS.new, aget, DS.used])]
  simp [DS.doneE, DS.done, DS.goes, DS.tick, DS.new, K1, aput, DS.get, aget, File.zero, emp]
theorem k2_is (a : ByteArray) : (K1 a).sync fN = (0, K2 a) := by
  have h : (K1 a).find fN = (⟨a, 0, false⟩, 0) := by
    unfold DS.find
    rw [if_pos (by show (K1 a).may [fN] = 0; rfl)]
    simp [K1, aget, DS.get]
  unfold DS.sync
  rw [h, if_neg (by simp), if_neg (by simp [DS.doneE, DS.goes, K1])]
  simp [DS.done, DS.goes, DS.tick, K1, K2, aput, DS.get, aget]
theorem want_size (a b : ByteArray) (k : Int) : (want a b k).size = a.size + nk b k := by
  unfold want
  have : nk b k ≤ b.size := by unfold nk; omega
  simp
  omega
theorem crash_file (a b : ByteArray) (k : Int) : DS.crashFile ⟨a ++ b, a.size, true⟩ (max k 0) = ⟨want a b k, (want a b k).size, true⟩ := by
  have h1 : nk b k ≤ b.size := by unfold nk; omega
  have h2 : ((a.size : Int) + min (max k 0) (((a ++ b).size : Nat) - (a.size : Nat) : Int)) = ((a.size + nk b k : Nat) : Int) := by
    unfold nk
    simp
    omega
  unfold DS.crashFile
  simp only []
  rw [h2, want_size]
  have h3 : (a ++ b).extract 0 (a.size + nk b k) = want a b k := by
    unfold want
    apply ByteArray.ext
    simp only [ByteArray.data_extract, ByteArray.data_append, Array.extract_append]
    have e1 : a.data.extract 0 (a.size + nk b k) = a.data := Array.extract_eq_self_of_le (by show a.data.size ≤ _; have : a.size = a.data.size := rfl; omega)
    rw [e1]
    rw [show a.size + nk b k - a.data.size = nk b k from (by have : a.size = a.data.size := rfl; omega), Nat.zero_sub]
  rw [Int.toNat_natCast, h3]
  simp
theorem crash_all (a b : ByteArray) (k : Int) : DS.crashAll [(fN, ⟨a ++ b, a.size, true⟩)] [fN] [k] = [(fN, ⟨want a b k, (want a b k).size, true⟩)] := by
  simp [DS.crashAll, DS.crashOne, aget, crash_file, aput]
theorem k3_is (a b : ByteArray) : (K2 a).append fN b = (0, K3 a b) := by
  unfold DS.append
  rw [if_neg (fun q => q rfl), if_neg (by simp [DS.full, K2, aget, DS.used])]
  simp [DS.doneE, DS.done, DS.goes, DS.tick, K2, K3, aput, DS.get, aget]
theorem k4_is (a b : ByteArray) (k : Int) : (K4 a k).append fN b = (14, K5 a b k) := by
  unfold DS.append
  rw [if_neg (fun q => q rfl), if_neg (by simp [DS.full, K4, aget, DS.used])]
  simp [DS.doneE, DS.done, DS.goes, DS.tick, K4, aput, DS.get, aget]
  unfold DS.crash
  rw [if_pos rfl, names_one _ fN ⟨a ++ b, a.size, true⟩ rfl]
  simp [crash_all, K5]
theorem k3_uns (a b : ByteArray) : (K3 a b).unsynced fN = b.size := by
  simp [DS.unsynced, DS.get, K3, aget]
  omega
theorem k5_is (a b : ByteArray) (k : Int) : (K3 a b).crash [k] = K5 a b k := by
  unfold DS.crash
  rw [if_pos (show (K3 a b).on = true from rfl), names_one _ fN ⟨a ++ b, a.size, true⟩ rfl]
  simp [crash_all, K5, K3]
theorem k6_find (a b : ByteArray) (k : Int) : (K6 a b k).find fN = (⟨want a b k, (want a b k).size, true⟩, 0) := by
  unfold DS.find
  rw [if_pos (by show (K6 a b k).may [fN] = 0; rfl)]
  simp [K6, aget, DS.get]
theorem k6_read (a b : ByteArray) (k : Int) : (K6 a b k).read fN 0 ((want a b k).size : Nat) = (want a b k, 0) := by
  unfold DS.read
  rw [k6_find, if_neg (by simp), if_neg (by simp [K6, DS.get, aget])]
  simp [K6, DS.get, aget]
theorem k6_size (a b : ByteArray) (k : Int) : (K6 a b k).size fN = ((((want a b k).size : Nat) : Int), 0) := by
  unfold DS.size
  rw [k6_find]
theorem k6_uns (a b : ByteArray) (k : Int) : (K6 a b k).unsynced fN = 0 := by
  simp [DS.unsynced, DS.get, K6, aget]
section
variable {A w : World} {db mb : Nat}
theorem cN (w : World) (h : Has A w db mb (DS.new 0) 0) (a : ByteArray) (ha : a.size ≤ 2000) : Calls Try.prog 11 #[.pointer (some ⟨db, 0, none⟩), .string ⟨#[102]⟩, .string a] w fun e w' => e = .returned (.int .i64 0) ∧ Has A w' db mb (K1 a) 9000 := by
  have := has_append h fN a (by omega)
  rw [k1_is] at this
  exact this.mono fun e w' ⟨q1, q2⟩ => ⟨q1, q2.mono (by omega)⟩
theorem cS (w : World) (a : ByteArray) (h : Has A w db mb (K1 a) 9000) : Calls Try.prog 14 #[.pointer (some ⟨db, 0, none⟩), .string ⟨#[102]⟩] w fun e w' => e = .returned (.int .i64 0) ∧ Has A w' db mb (K2 a) 9000 := by
  have := has_sync h (by decide) fN
  rwa [k2_is] at this
theorem cA (w : World) (a : ByteArray) (k : Int) (h : Has A w db mb (K2 a) 9000) (g : Nat) (e : TypeId) (hb : w.heap[g]? = some (.cells #[.int .i64 k] e (0, 0))) :
    Calls Try.prog 15 #[.pointer (some ⟨db, 0, none⟩), .int .i64 0, .slice (some ⟨g, 0, none⟩) 1 1] w fun e w' => e = .returned (.tuple #[]) ∧ Has A w' db mb (K4 a k) 9000 :=
  has_arm h (n := 0) (by decide) (slc_int hb) (by simp)
theorem cF (w : World) (a b : ByteArray) (k : Int) (hb : b.size ≤ 2000) (h : Has A w db mb (K4 a k) 9000) : Calls Try.prog 11 #[.pointer (some ⟨db, 0, none⟩), .string ⟨#[102]⟩, .string b] w fun e w' => e = .returned (.int .i64 14) ∧ Has A w' db mb (K5 a b k) 11000 := by
  have := has_append h fN b (by omega)
  rw [k4_is] at this
  exact this.mono fun e w' ⟨q1, q2⟩ => ⟨q1, q2.mono (by omega)⟩
theorem cG (w : World) (a b : ByteArray) (hb : b.size ≤ 2000) (h : Has A w db mb (K2 a) 9000) : Calls Try.prog 11 #[.pointer (some ⟨db, 0, none⟩), .string ⟨#[102]⟩, .string b] w fun e w' => e = .returned (.int .i64 0) ∧ Has A w' db mb (K3 a b) 11000 := by
  have := has_append h fN b (by omega)
  rw [k3_is] at this
  exact this.mono fun e w' ⟨q1, q2⟩ => ⟨q1, q2.mono (by omega)⟩
theorem cU (w : World) (a b : ByteArray) (h : Has A w db mb (K3 a b) 11000) : Calls Try.prog 17 #[.pointer (some ⟨db, 0, none⟩), .string ⟨#[102]⟩] w fun e w' => e = .returned (.int .i64 b.size) ∧ Has A w' db mb (K3 a b) 11000 := by
  have := has_unsynced h (by decide) fN
  rwa [k3_uns] at this
theorem cC (w : World) (a b : ByteArray) (k : Int) (h : Has A w db mb (K3 a b) 11000) (g : Nat) (e : TypeId) (hb : w.heap[g]? = some (.cells #[.int .i64 k] e (0, 0))) (hg : g ≠ db ∧ g ≠ mb) :
    Calls Try.prog 18 #[.pointer (some ⟨db, 0, none⟩), .slice (some ⟨g, 0, none⟩) 1 1] w fun e w' => (∃ z, e = .returned (.int .i64 z)) ∧ Has A w' db mb (K5 a b k) 11000 := by
  have := has_crash h (by decide) (slc_int hb) (fun i hi => by cases hi; exact hg)
  rw [k5_is] at this
  exact this.mono fun e w' ⟨q1, q2⟩ => ⟨⟨_, q1⟩, q2⟩
theorem cR (w : World) (a b : ByteArray) (k : Int) (h : Has A w db mb (K5 a b k) 11000) : Calls Try.prog 19 #[.pointer (some ⟨db, 0, none⟩)] w fun e w' => e = .returned (.tuple #[]) ∧ Has A w' db mb (K6 a b k) 11000 := has_restore h
theorem cO (w : World) (a b : ByteArray) (k : Int) (h : Has A w db mb (K5 a b k) 11000) : Calls Try.prog 16 #[.pointer (some ⟨db, 0, none⟩)] w fun e w' => e = .returned (.bool false) ∧ w = w' := has_on h
theorem cD (w : World) (a b : ByteArray) (k n : Int) (h : Has A w db mb (K6 a b k) 11000) (hn : n = (want a b k).size) : Calls Try.prog 20 #[.pointer (some ⟨db, 0, none⟩), .string ⟨#[102]⟩, .int .i64 0, .int .i64 n] w fun e w' => e = .returned (.tuple #[.string (want a b k), .int .i64 0]) ∧ Has A w' db mb (K6 a b k) 11000 := by
  subst hn
  have := has_read h (by decide) fN 0 ((want a b k).size : Nat)
  rwa [k6_read] at this
theorem cZ (w : World) (a b : ByteArray) (k : Int) (h : Has A w db mb (K6 a b k) 11000) : Calls Try.prog 21 #[.pointer (some ⟨db, 0, none⟩), .string ⟨#[102]⟩] w fun e w' => e = .returned (.tuple #[.int .i64 ((want a b k).size : Nat), .int .i64 0]) ∧ Has A w' db mb (K6 a b k) 11000 := by
  have := has_size h fN
  rwa [k6_size] at this
theorem cV (w : World) (a b : ByteArray) (k : Int) (h : Has A w db mb (K6 a b k) 11000) : Calls Try.prog 17 #[.pointer (some ⟨db, 0, none⟩), .string ⟨#[102]⟩] w fun e w' => e = .returned (.int .i64 0) ∧ Has A w' db mb (K6 a b k) 11000 := by
  have := has_unsynced h (by decide) fN
  rwa [k6_uns] at this
end
end Keeps
open Keeps in
set_option maxRecDepth 100000 in
set_option maxHeartbeats 2000000 in
theorem keeps_big (a b : ByteArray) (k : Int) (arm : Bool) (hk : (Lit.int .i64 k).wf = true) (w : World) (hs : 2000 < a.size ∨ 2000 < b.size ∨ a.size = 0) (ma : a.size ≤ maxLen) (mb : b.size ≤ maxLen) :
    Calls Try.prog 4 #[.string a, .string b, .int .i64 k, .bool arm] w fun e w' => e = .returned (.bool true) ∧ Only [] w w' := by
  unfold maxLen at ma mb
  rcases (show (2000 : Int) < a.size ∨ (¬ (2000 : Int) < a.size ∧ (2000 : Int) < b.size) ∨ (¬ (2000 : Int) < a.size ∧ ¬ (2000 : Int) < b.size ∧ (a.size : Int) = 0) by omega) with q | ⟨q, q2⟩ | ⟨q, q2, q3⟩
  all_goals
    clear hs
    go_enter Try.func4, Try.ntmps4
    go_wp2_with (go_at_call 9; refine (alive_any _).mono ?_; rintro e w1 ⟨rfl, hal⟩)
    go_ret
    exact ⟨rfl, hal⟩
open Keeps in
set_option maxRecDepth 100000 in
set_option maxHeartbeats 2000000 in
theorem keeps_arm (a b : ByteArray) (k : Int) (hk : (Lit.int .i64 k).wf = true) (w : World) (ha : a.size ≤ 2000) (hb : b.size ≤ 2000) (hp : 0 < a.size) :
    Calls Try.prog 4 #[.string a, .string b, .int .i64 k, .bool true] w fun e w' => e = .returned (.bool true) ∧ Only [] w w' := by
  have q1 : ¬ (2000 : Int) < a.size := by omega
  have q2 : ¬ (2000 : Int) < b.size := by omega
  have q3 : ¬ (a.size : Int) = 0 := by omega
  have hZ : (((want a b k).size : Nat) : Int) = ↑a.size + ↑(min (min (max k 0) ↑b.size).toNat b.size) := by
    rw [want_size]
    unfold nk
    omega
  go_enter Try.func4, Try.ntmps4
  go_wp2_with (first
      | (go_at_call 9; refine (alive_any _).mono ?_; rintro e w1 ⟨rfl, hal⟩)
      | (go_at_call 10; refine (has_new w w (Only.refl [] w) 0 (by decide)).mono ?_; rintro e w1 ⟨rfl, h0⟩)
      | (go_at_call 11; first | (refine (cF _ a b k hb h4).mono ?_; rintro e w1 ⟨rfl, h5⟩) | (refine (cG _ a b hb h2).mono ?_; rintro e w1 ⟨rfl, h3⟩) | (refine (cN _ h0 a ha).mono ?_; rintro e w1 ⟨rfl, h1⟩))
      | (go_at_call 14; refine (cS _ a h1).mono ?_; rintro e w1 ⟨rfl, h2⟩)
      | (go_at_call 15; refine (cA _ a k (h2.keep ((Only.refl [] _).alloc _)) _ _ (heap_alloc_new _ _)).mono ?_; rintro e w1 ⟨rfl, h4⟩)
      | (go_at_call 16; refine (cO _ a b k h5).mono ?_; rintro e w1 ⟨rfl, rfl⟩)
      | (go_at_call 19; refine (cR _ a b k h5).mono ?_; rintro e w1 ⟨rfl, h6⟩)
      | (go_at_call 18; refine (cC _ a b k (h3.keep ((Only.refl [] _).alloc _)) _ _ (heap_alloc_new _ _) ?_).mono ?_; rotate_left; rintro e w1 ⟨⟨z, rfl⟩, h5⟩)
      | (go_at_call 20; refine (cD _ a b k _ h6 ?_).mono ?_; rotate_left; rintro e w1 ⟨rfl, h7⟩)
      | (go_at_call 21; refine (cZ _ a b k h7).mono ?_; rintro e w1 ⟨rfl, h8⟩)
      | (go_at_call 17; first | (refine (cV _ a b k (h8.keep hal)).mono ?_; rintro e w1 ⟨rfl, h9⟩) | (refine (cU _ a b h3).mono ?_; rintro e w1 ⟨rfl, h3⟩)))
  · go_ret
    exact ⟨rfl, h9.only⟩
  · exact hZ.symm
open Keeps in
set_option maxRecDepth 100000 in
set_option maxHeartbeats 2000000 in
theorem keeps_plain (a b : ByteArray) (k : Int) (hk : (Lit.int .i64 k).wf = true) (w : World) (ha : a.size ≤ 2000) (hb : b.size ≤ 2000) (hp : 0 < a.size) :
    Calls Try.prog 4 #[.string a, .string b, .int .i64 k, .bool false] w fun e w' => e = .returned (.bool true) ∧ Only [] w w' := by
  have q1 : ¬ (2000 : Int) < a.size := by omega
  have q2 : ¬ (2000 : Int) < b.size := by omega
  have q3 : ¬ (a.size : Int) = 0 := by omega
  have hZ : (((want a b k).size : Nat) : Int) = ↑a.size + ↑(min (min (max k 0) ↑b.size).toNat b.size) := by
    rw [want_size]
    unfold nk
    omega
  go_enter Try.func4, Try.ntmps4
  go_wp2_with (first
      | (go_at_call 9; refine (alive_any _).mono ?_; rintro e w1 ⟨rfl, hal⟩)
      | (go_at_call 10; refine (has_new w w (Only.refl [] w) 0 (by decide)).mono ?_; rintro e w1 ⟨rfl, h0⟩)
      | (go_at_call 11; first | (refine (cF _ a b k hb h4).mono ?_; rintro e w1 ⟨rfl, h5⟩) | (refine (cG _ a b hb h2).mono ?_; rintro e w1 ⟨rfl, h3⟩) | (refine (cN _ h0 a ha).mono ?_; rintro e w1 ⟨rfl, h1⟩))
      | (go_at_call 14; refine (cS _ a h1).mono ?_; rintro e w1 ⟨rfl, h2⟩)
      | (go_at_call 15; refine (cA _ a k (h2.keep ((Only.refl [] _).alloc _)) _ _ (heap_alloc_new _ _)).mono ?_; rintro e w1 ⟨rfl, h4⟩)
      | (go_at_call 16; refine (cO _ a b k h5).mono ?_; rintro e w1 ⟨rfl, rfl⟩)
      | (go_at_call 19; refine (cR _ a b k h5).mono ?_; rintro e w1 ⟨rfl, h6⟩)
      | (go_at_call 18; refine (cC _ a b k (h3.keep ((Only.refl [] _).alloc _)) _ _ (heap_alloc_new _ _) ?_).mono ?_; rotate_left; rintro e w1 ⟨⟨z, rfl⟩, h5⟩)
      | (go_at_call 20; refine (cD _ a b k _ h6 ?_).mono ?_; rotate_left; rintro e w1 ⟨rfl, h7⟩)
      | (go_at_call 21; refine (cZ _ a b k h7).mono ?_; rintro e w1 ⟨rfl, h8⟩)
      | (go_at_call 17; first | (refine (cV _ a b k (h8.keep hal)).mono ?_; rintro e w1 ⟨rfl, h9⟩) | (refine (cU _ a b h3).mono ?_; rintro e w1 ⟨rfl, h3⟩)))
  · go_ret
    exact ⟨rfl, h9.only⟩
  · exact hZ.symm
  · have := h3.lt
    omega
theorem keepsW (a : ByteArray) (ma : a.size ≤ maxLen) (b : ByteArray) (mb : b.size ≤ maxLen) (k : Int) (hk : (Lit.int .i64 k).wf = true) (arm : Bool) (w : World) :
    Calls Try.prog 4 #[.string a, .string b, .int .i64 k, .bool arm] w fun e w' => e = .returned (.bool true) ∧ Only [] w w' := by
  by_cases hs : 2000 < a.size ∨ 2000 < b.size ∨ a.size = 0
  · exact keeps_big a b k arm hk w hs ma mb
  · cases arm
    · exact keeps_plain a b k hk w (by omega) (by omega) (by omega)
    · exact keeps_arm a b k hk w (by omega) (by omega) (by omega)
end Go.Proofs.Ytgahjdfjlfoioaa
