/- alive of the groups' laws: a first call whose answer is fixed. -/
import Derived.Test.YthjgplgfcbhihaaGv1
set_option linter.unusedVariables false
set_option linter.unusedSimpArgs false
namespace Go.Proofs.Ythjgplgfcbhihaa
open Go.RowKit Go Go.Sort Go.Lib
def nA : ByteArray := ⟨#[97]⟩
def nB : ByteArray := ⟨#[98]⟩
def al1 : GS := ⟨0, 2, 0, 0, [], [(nA, [])], [], [], [], []⟩
def al2 : GS := ⟨0, 2, 0, 3, [0, 1, 2], [(nA, [])], [], [], [], []⟩
def al3 : GS := ⟨0, 2, 0, 3, [1, 2], [(nA, [0])], [], [], [], [(0, 1)]⟩
def al4 : GS := ⟨0, 2, 0, 3, [2], [(nA, [0, 1])], [], [], [], [(0, 1), (1, 1)]⟩
def al5 : GS := ⟨0, 2, 0, 3, [2], [(nA, [1])], [0], [], [], [(0, 1), (1, 1)]⟩
theorem al_join : (GS.new 0 2 0).join nA = (0, al1) := by kernel_rfl
theorem al_feed : al1.feed 3 = (3, al2) := by
  unfold GS.feed
  rw [if_neg (by decide)]
  have e : (max (min (3 : Int) (1000 - (al1.openN : Int))) 0).toNat = 3 := by decide
  dsimp only
  rw [e]
  have e2 : (al1.waiting ++ rangeUp 3 al1.next) = [0, 1, 2] := by decide
  rw [e2, ris_sort (by simp [Ris])]
  rfl
theorem al_next1 : al2.next1 nA = ((0, true), al3) := by kernel_rfl
theorem al_next2 : al3.next1 nA = ((1, true), al4) := by kernel_rfl
theorem al_next3 : al4.next1 nA = ((0, false), al4) := by kernel_rfl
theorem al_nak : al4.nak nA 2 [0] = (1, al5) := by kernel_rfl
theorem al_ckpt : al5.checkpoint = 1 := by kernel_rfl
theorem one_int {w : World} {b : Nat} {n : Int} (h : Blk w b 3 #[.int .i64 n]) : Slc w 1 (.slice (some ⟨b, 0, none⟩) 1 1) [n].length (ints [n]) :=
  ⟨_, _, rfl, rfl, Nat.le_refl _, by unfold maxLen; omega, fun _ => ⟨b, 0, rfl, h.lt, fun j hj => by rw [Nat.zero_add, h.cell]; simp [ints]⟩⟩
theorem nA_lim : nA.size ≤ maxLen := by unfold maxLen; decide
theorem nB_lim : nB.size ≤ maxLen := by unfold maxLen; decide
set_option maxRecDepth 100000 in
set_option maxHeartbeats 2000000 in
theorem alive_any (w : World) : Calls Try.prog 7 #[] w fun e w' => e = .returned (.bool true) ∧ Only [] w w' := by
  have HNew := Lib.hid (in_new w w (Only.refl _ _) 0 2 0 (by decide))
  have HJoin := Lib.hid (fun (W : World) (H : List Nat) (gb : Nat) (h : HasG w W H gb (GS.new 0 2 0) 0) => (by have := in_join h nA nA_lim; rw [al_join] at this; exact this : Calls Try.prog 9 #[.pointer (some ⟨gb, 0, none⟩), .string nA] W fun e w' => e = .returned (.int .i64 0) ∧ GTo w W H gb al1 1 w'))
  have HFeed := Lib.hid (fun (W : World) (H : List Nat) (gb : Nat) (h : HasG w W H gb al1 1) => (by have := in_feed h (by omega) 3; rw [al_feed] at this; exact this : Calls Try.prog 10 #[.pointer (some ⟨gb, 0, none⟩), .int .i64 3] W fun e w' => e = .returned (.int .i64 3) ∧ GTo w W H gb al2 2 w'))
  have HN1 := Lib.hid (fun (W : World) (H : List Nat) (gb : Nat) (h : HasG w W H gb al2 2) => (by have := in_next h (by omega) nA; rw [al_next1] at this; exact this : Calls Try.prog 11 #[.pointer (some ⟨gb, 0, none⟩), .string nA] W fun e w' => e = .returned (.tuple #[.int .i64 0, .bool true]) ∧ GTo w W H gb al3 3 w'))
  have HN2 := Lib.hid (fun (W : World) (H : List Nat) (gb : Nat) (h : HasG w W H gb al3 3) => (by have := in_next h (by omega) nA; rw [al_next2] at this; exact this : Calls Try.prog 11 #[.pointer (some ⟨gb, 0, none⟩), .string nA] W fun e w' => e = .returned (.tuple #[.int .i64 1, .bool true]) ∧ GTo w W H gb al4 4 w'))
  have HN3 := Lib.hid (fun (W : World) (H : List Nat) (gb : Nat) (h : HasG w W H gb al4 4) => (by have := in_next h (by omega) nA; rw [al_next3] at this; exact this : Calls Try.prog 11 #[.pointer (some ⟨gb, 0, none⟩), .string nA] W fun e w' => e = .returned (.tuple #[.int .i64 0, .bool false]) ∧ GTo w W H gb al4 5 w'))
  have HNak := Lib.hid (fun (W : World) (H : List Nat) (gb B : Nat) (h : HasG w W H gb al4 5) (hB : Blk W B 3 #[.int .i64 0]) (hb : B ∉ H) => (by have := in_nak h (by omega) nA 2 (one_int hB) (fun b hb' => .inl (fun q => by cases hb'; exact hb q)) (by simp); rw [al_nak] at this; exact this : Calls Try.prog 20 #[.pointer (some ⟨gb, 0, none⟩), .string nA, .int .i64 2, .slice (some ⟨B, 0, none⟩) 1 1] W fun e w' => e = .returned (.int .i64 1) ∧ GTo w W H gb al5 5 w'))
  have HPark : Hid (∀ (W : World) (H : List Nat) (gb : Nat), HasG w W H gb al5 5 → Calls Try.prog 17 #[.pointer (some ⟨gb, 0, none⟩)] W (RowRet W [0])) := fun W H gb h => in_parked h (by omega)
  have HCk := Lib.hid (fun (W : World) (H : List Nat) (gb : Nat) (h : HasG w W H gb al5 5) => (by have := in_ckpt h (by omega); rw [al_ckpt] at this; exact this : Calls Try.prog 14 #[.pointer (some ⟨gb, 0, none⟩)] W fun e w' => e = .returned (.int .i64 1) ∧ Only [] W w'))
  rw [show nA = (⟨#[97]⟩ : ByteArray) from rfl] at HJoin HN1 HN2 HN3 HNak
  go_enter Try.func7, Try.ntmps7
  go_wp2_with (first
    | (go_at_call 8; refine HNew.out.mono ?_; rintro e w1 ⟨gb, H1, rfl, h1, k1, f1⟩)
    | (go_at_call 9; refine (HJoin.out _ _ _ h1).mono ?_; rintro e w2 ⟨rfl, H2, h2, k2⟩)
    | (go_at_call 10; refine (HFeed.out _ _ _ h2).mono ?_; rintro e w3 ⟨rfl, H3, h3, k3⟩)
    | (go_at_call 11; refine (HN3.out _ _ _ h5).mono ?_; rintro e w6 ⟨rfl, H6, h6, k6⟩; have hb6 := h6.keep0 ((Only.refl [] w6).alloc (.cells #[.int .i64 0] 3)))
    | (go_at_call 11; refine (HN2.out _ _ _ h4).mono ?_; rintro e w5 ⟨rfl, H5, h5, k5⟩)
    | (go_at_call 11; refine (HN1.out _ _ _ h3).mono ?_; rintro e w4 ⟨rfl, H4, h4, k4⟩)
    | (go_at_call 20; refine (HNak.out _ _ _ _ hb6 (Blk.new w6 3 _) (fun q => by have := h6.gin.lt _ q; omega)).mono ?_; rintro e w7 ⟨rfl, H7, h7, k7⟩)
    | (go_at_call 17; refine (HPark.out _ _ _ h7).mono ?_; rintro e w8 ⟨v8, rfl, ho8, hf8, hk8⟩; obtain ⟨A8, c8, e8, _, _, hel8⟩ := ho8.slc.openI; subst e8; obtain ⟨b8, o8, rfl, hb8, hc8⟩ := hel8 0 (by decide); have hc8' : w8.cell? ⟨b8, o8, none⟩ = some (.int .i64 0) := hc8; clear hel8 hc8; have h8 := h7.keep0 hk8)
    | (go_at_call 14; refine (HCk.out _ _ _ h8).mono ?_; rintro e w9 ⟨rfl, hk9⟩; have h9 := h8.keep0 hk9))
  go_ret
  exact ⟨rfl, h9.only⟩
end Go.Proofs.Ythjgplgfcbhihaa
