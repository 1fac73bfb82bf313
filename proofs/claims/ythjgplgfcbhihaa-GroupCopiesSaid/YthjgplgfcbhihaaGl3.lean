/- The law GroupRetries. -/
import Derived.Test.YthjgplgfcbhihaaGl2
set_option linter.unusedVariables false
set_option linter.unusedSimpArgs false
namespace Go.Proofs.Ythjgplgfcbhihaa
open Go.RowKit Go Go.Sort Go.Lib
theorem HasG.more {a w : World} {H : List Nat} {gb N M : Nat} {g : GS} (h : HasG a w H gb g N) (hm : N ≤ M) : HasG a w H gb g M := by
  obtain ⟨⟨fb, tb, vw, vp, va, vs, pf, h1, h2, hok, hnm⟩, ho, hab⟩ := h
  exact ⟨⟨fb, tb, vw, vp, va, vs, pf, h1, h2, hok.more hm, hnm⟩, ho, hab⟩
def stR (r : Int) (k : Nat) : GS := if (k : Int) ≤ r then rS r (trOf k) else pS r k
theorem re_nak (r : Int) (k : Nat) : (fS r (k + 1)).nak nA 2 [0] = (1, stR r (k + 1)) := by
  unfold stR
  by_cases h : (k : Int) + 1 ≤ r
  · rw [re_nak_le h, if_pos (by simpa using h)]
    rfl
  · rw [re_nak_gt h, if_neg (by simpa using h)]
    simp
set_option maxRecDepth 100000 in
set_option maxHeartbeats 4000000 in
theorem retriesW (r : Int) (hr : (Lit.int .i64 r).wf = true) (late : Bool) (n : Int) (hn : (Lit.int .i64 n).wf = true) (W : World) :
    Calls Try.prog 4 #[.int .i64 r, .bool late, .int .i64 n] W fun e w' => e = .returned (.bool true) ∧ Only [] W w' := by
  have HAl := Lib.hid (fun w => alive_any w)
  by_cases hout : r < 0 ∨ 20 < r ∨ n < 1 ∨ 3 < n
  · have hal : Hid (∀ w, Calls Try.prog 7 #[] w fun e w' => e = .returned (.bool true) ∧ Only [] w w') := HAl
    by_cases h1 : r < 0
    · go_enter Try.func4, Try.ntmps4
      go_wp2_with (go_at_call 7; refine (HAl.out _).mono ?_; rintro e w1 ⟨rfl, ho1⟩)
      go_ret
      exact ⟨rfl, ho1⟩
    by_cases h2 : 20 < r
    · go_enter Try.func4, Try.ntmps4
      go_wp2_with (go_at_call 7; refine (HAl.out _).mono ?_; rintro e w1 ⟨rfl, ho1⟩)
      go_ret
      exact ⟨rfl, ho1⟩
    by_cases h3 : n < 1
    · go_enter Try.func4, Try.ntmps4
      go_wp2_with (go_at_call 7; refine (HAl.out _).mono ?_; rintro e w1 ⟨rfl, ho1⟩)
      go_ret
      exact ⟨rfl, ho1⟩
    have h4 : 3 < n := by omega
    go_enter Try.func4, Try.ntmps4
    go_wp2_with (go_at_call 7; refine (HAl.out _).mono ?_; rintro e w1 ⟨rfl, ho1⟩)
    go_ret
    exact ⟨rfl, ho1⟩
  have h1 : 0 ≤ r := by omega
  have h2 : r ≤ 20 := by omega
  have h3 : 1 ≤ n := by omega
  have h4 : n ≤ 3 := by omega
  clear hout
  have HNew := Lib.hid (in_new W W (Only.refl _ _) 0 1 r (by simp [GS.okNew]; omega))
  have HJoin : Hid (∀ (w : World) (H : List Nat) (gb : Nat), HasG W w H gb (GS.new 0 1 r) 0 → Calls Try.prog 9 #[.pointer (some ⟨gb, 0, none⟩), .string ⟨#[97]⟩] w fun e w' => e = .returned (.int .i64 0) ∧ GTo W w H gb ⟨0, 1, r, 0, [], [(nA, [])], [], [], [], []⟩ 1 w') := fun w H gb h => by
    have := in_join h nA nA_lim
    rw [re_join] at this
    exact this
  have HFeed : Hid (∀ (w : World) (H : List Nat) (gb : Nat), HasG W w H gb ⟨0, 1, r, 0, [], [(nA, [])], [], [], [], []⟩ 1 → Calls Try.prog 10 #[.pointer (some ⟨gb, 0, none⟩), .int .i64 1] w fun e w' => e = .returned (.int .i64 1) ∧ GTo W w H gb (rS r []) 2 w') := fun w H gb h => by
    have := in_feed h (by omega) 1
    rw [re_feed] at this
    exact this
  have HNext : Hid (∀ (w : World) (H : List Nat) (gb N : Nat) (k : Nat), N ≤ 1000 → HasG W w H gb (rS r (trOf k)) N → Calls Try.prog 11 #[.pointer (some ⟨gb, 0, none⟩), .string ⟨#[97]⟩] w fun e w' => e = .returned (.tuple #[.int .i64 0, .bool true]) ∧ GTo W w H gb (fS r (k + 1)) (N + 1) w') := fun w H gb N k hN h => by
    have := in_next h hN nA
    rw [re_next] at this
    exact this
  have HTries : Hid (∀ (w : World) (H : List Nat) (gb N : Nat) (t : Int), HasG W w H gb (fS r t) N → Calls Try.prog 18 #[.pointer (some ⟨gb, 0, none⟩), .int .i64 0] w fun e w' => e = .returned (.int .i64 t) ∧ w = w') := fun w H gb N t h => in_tries h 0
  have HPark0 : Hid (∀ (w : World) (H : List Nat) (gb N : Nat) (t : Int), N ≤ 1000 → HasG W w H gb (fS r t) N → Calls Try.prog 17 #[.pointer (some ⟨gb, 0, none⟩)] w (RowRet w [])) := fun w H gb N t hN h => in_parked h hN
  have HLate : Hid (∀ (w : World) (H : List Nat) (gb N : Nat) (k : Nat), N ≤ 1000 → HasG W w H gb (fS r (k + 1)) N → Calls Try.prog 19 #[.pointer (some ⟨gb, 0, none⟩)] w fun e w' => e = .returned (.int .i64 1) ∧ GTo W w H gb (stR r (k + 1)) N w') := fun w H gb N k hN h => by
    have := in_late h hN
    rw [re_late, re_nak] at this
    exact this
  have HNak : Hid (∀ (w : World) (H : List Nat) (gb B N : Nat) (k : Nat), N ≤ 1000 → HasG W w H gb (fS r (k + 1)) N → Blk w B 3 #[.int .i64 0] → B ∉ H → Calls Try.prog 20 #[.pointer (some ⟨gb, 0, none⟩), .string ⟨#[97]⟩, .int .i64 2, .slice (some ⟨B, 0, none⟩) 1 1] w fun e w' => e = .returned (.int .i64 1) ∧ GTo W w H gb (stR r (k + 1)) N w') := fun w H gb B N k hN h hB hb => by
    have := in_nak h hN nA 2 (one_int hB) (fun b hb' => .inl (fun q => by cases hb'; exact hb q)) (by simp)
    rw [re_nak] at this
    exact this
  have HEnd : Hid (∀ (w : World) (H : List Nat) (gb N : Nat) (t : Int), N ≤ 1000 → HasG W w H gb (pS r t) N → Calls Try.prog 11 #[.pointer (some ⟨gb, 0, none⟩), .string ⟨#[97]⟩] w fun e w' => e = .returned (.tuple #[.int .i64 0, .bool false]) ∧ GTo W w H gb (pS r t) (N + 1) w') := fun w H gb N t hN h => in_next h hN nA
  have HPark1 : Hid (∀ (w : World) (H : List Nat) (gb N : Nat) (t : Int), N ≤ 1000 → HasG W w H gb (pS r t) N → Calls Try.prog 17 #[.pointer (some ⟨gb, 0, none⟩)] w (RowRet w [0])) := fun w H gb N t hN h => in_parked h hN
  have HCk1 : Hid (∀ (w : World) (H : List Nat) (gb N : Nat) (t : Int), N ≤ 1000 → HasG W w H gb (pS r t) N → Calls Try.prog 14 #[.pointer (some ⟨gb, 0, none⟩)] w fun e w' => e = .returned (.int .i64 1) ∧ Only [] w w') := fun w H gb N t hN h => in_ckpt h hN
  have HRep : Hid (∀ (w : World) (H : List Nat) (gb N : Nat) (t : Int), N ≤ 1000 → HasG W w H gb (pS r t) N → Calls Try.prog 21 #[.pointer (some ⟨gb, 0, none⟩)] w fun e w' => e = .returned (.int .i64 1) ∧ GTo W w H gb (rS r []) N w') := fun w H gb N t hN h => in_replay h hN
  have HCk0 : Hid (∀ (w : World) (H : List Nat) (gb N : Nat), N ≤ 1000 → HasG W w H gb (rS r []) N → Calls Try.prog 14 #[.pointer (some ⟨gb, 0, none⟩)] w fun e w' => e = .returned (.int .i64 0) ∧ Only [] w w') := fun w H gb N hN h => in_ckpt h hN
  have HTr0 : Hid (∀ (w : World) (H : List Nat) (gb N : Nat), HasG W w H gb (rS r []) N → Calls Try.prog 18 #[.pointer (some ⟨gb, 0, none⟩), .int .i64 0] w fun e w' => e = .returned (.int .i64 0) ∧ w = w') := fun w H gb N h => in_tries h 0
  clear hr hn
  go_enter Try.func4, Try.ntmps4
  go_wp2_with (first
    | (go_at_call 8; refine HNew.out.mono ?_; rintro e w1 ⟨gb, H1, rfl, h1', k1, f1⟩)
    | (go_at_call 9; refine (HJoin.out _ _ _ h1').mono ?_; rintro e w2 ⟨rfl, H2, h2', k2⟩)
    | (go_at_call 10; refine (HFeed.out _ _ _ h2').mono ?_; rintro e w3 ⟨rfl, H3, h3', k3⟩))
  go_loopw [9] (fun iv wr => ∃ (i : Nat) (H : List Nat), (i : Int) ≤ n ∧ iv = .int .i64 i ∧ HasG W wr H gb (rS r []) (2 + 30 * i)) (fun iv _ => 3 - (intOf iv).toNat)
  case atStart => exact ⟨0, H3, by omega, rfl, h3'⟩
  case round =>
    obtain ⟨i, H, hin, rfl, hG⟩ := hrel
    by_cases hlt : (i : Int) < n
    · have HG := Lib.hid hG
      clear hG h1' h2' h3' k1 k2 k3 f1
      go_wp2_with fail
      go_loopw [10] (fun jv wq => ∃ (k : Nat) (H : List Nat), (k : Int) ≤ r + 1 ∧ jv = .int .i64 k ∧ HasG W wq H gb (stR r k) (2 + 30 * i + k)) (fun jv _ => 22 - (intOf jv).toNat)
      case atStart =>
        refine ⟨0, H, by omega, rfl, ?_⟩
        have : stR r 0 = rS r [] := by
          unfold stR
          rw [if_pos (by simpa using h1)]
          rfl
        rw [this]
        exact HG.out
      case round =>
        obtain ⟨k, Hk, hkr, rfl, hK⟩ := hrel
        by_cases hk : (k : Int) ≤ r
        · have hst : stR r k = rS r (trOf k) := by
            unfold stR
            rw [if_pos hk]
          rw [hst] at hK
          have hadd := IntWalk.i64_in ((k : Int) + 1) ⟨by omega, by omega⟩
          have hb : 2 + 30 * i + k ≤ 900 := by omega
          have HHN := Lib.hid (HNext.out _ _ _ _ k (by omega) hK)
          have HK := Lib.hid hK
          clear hK hst
          cases late with
          | true =>
            go_wp2_with (first
              | (go_at_call 11; refine HHN.out.mono ?_; rintro e w5 ⟨rfl, H5, h5, k5⟩)
              | (go_at_call 18; refine (HTries.out _ _ _ _ _ h5).mono ?_; rintro e w6 ⟨rfl, rfl⟩)
              | (go_at_call 17; refine (HPark0.out _ _ _ _ _ (by omega) h5).mono ?_; rintro e w7 ⟨v7, rfl, ho7, hf7, hk7⟩; obtain ⟨A7, c7, rfl, _, _⟩ := own_form ho7; have h7 := h5.keep0 hk7)
              | (go_at_call 19; refine (HLate.out _ _ _ _ _ (by omega) h7).mono ?_; rintro e w8 ⟨rfl, H8, h8, k8⟩))
            refine ⟨⟨k + 1, H8, by omega, by simp, ?_⟩, by simp [intOf]; omega⟩
            exact h8
          | false =>
            go_wp2_with (first
              | (go_at_call 11; refine HHN.out.mono ?_; rintro e w5 ⟨rfl, H5, h5, k5⟩)
              | (go_at_call 18; refine (HTries.out _ _ _ _ _ h5).mono ?_; rintro e w6 ⟨rfl, rfl⟩)
              | (go_at_call 17; refine (HPark0.out _ _ _ _ _ (by omega) h5).mono ?_; rintro e w7 ⟨v7, rfl, ho7, hf7, hk7⟩; obtain ⟨A7, c7, rfl, _, _⟩ := own_form ho7; have h7 := h5.keep0 hk7; have h7b := h7.keep0 ((Only.refl [] w7).alloc (.cells #[.int .i64 0] 3)))
              | (go_at_call 20; refine (HNak.out _ _ _ _ _ _ (by omega) h7b (Blk.new w7 3 _) (fun q => by have := h7.gin.lt _ q; omega)).mono ?_; rintro e w8 ⟨rfl, H8, h8, k8⟩))
            refine ⟨⟨k + 1, H8, by omega, by simp, ?_⟩, by simp [intOf]; omega⟩
            exact h8
        · have hst : stR r k = pS r k := by
            unfold stR
            rw [if_neg hk]
          rw [hst] at hK
          have hadd := IntWalk.i64_in ((i : Int) + 1) ⟨by omega, by omega⟩
          have hb : 2 + 30 * i + k ≤ 900 := by omega
          have HHN := Lib.hid (HEnd.out _ _ _ _ _ (by omega) hK)
          clear hK hst
          go_wp2_with (first
            | (go_at_call 11; refine HHN.out.mono ?_; rintro e w5 ⟨rfl, H5, h5, k5⟩)
            | (go_at_call 17; refine (HPark1.out _ _ _ _ _ (by omega) h5).mono ?_; rintro e w7 ⟨v7, rfl, ho7, hf7, hk7⟩; obtain ⟨A7, c7, e7, _, _, hel7⟩ := ho7.slc.openI; subst e7; obtain ⟨b7, o7, rfl, hb7, hc7⟩ := hel7 0 (by decide); have hc7' : w7.cell? ⟨b7, o7, none⟩ = some (.int .i64 0) := hc7; clear hel7 hc7; have h7 := h5.keep0 hk7)
            | (go_at_call 14; first | (refine (HCk0.out _ _ _ _ (by omega) h9).mono ?_; rintro e w10 ⟨rfl, ho10⟩; have h10 := h9.keep0 ho10) | (refine (HCk1.out _ _ _ _ _ (by omega) h7).mono ?_; rintro e w8 ⟨rfl, ho8⟩; have h8 := h7.keep0 ho8))
            | (go_at_call 21; refine (HRep.out _ _ _ _ _ (by omega) h8).mono ?_; rintro e w9 ⟨rfl, H9, h9, k9⟩)
            | (go_at_call 18; refine (HTr0.out _ _ _ _ h10).mono ?_; rintro e w11 ⟨rfl, rfl⟩))
          refine ⟨⟨i + 1, H9, by omega, by simp, h10.more (by omega)⟩, by simp [intOf]; omega⟩
    · have hie : (i : Int) = n := by omega
      go_wp2_with (go_at_call 7; refine (HAl.out _).mono ?_; rintro e w5 ⟨rfl, ho5⟩)
      go_ret
      exact ⟨rfl, hG.only.trans ho5⟩
end Go.Proofs.Ythjgplgfcbhihaa
