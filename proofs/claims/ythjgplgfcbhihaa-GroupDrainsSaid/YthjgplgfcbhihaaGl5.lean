/- The law GroupDrains. -/
import Derived.Test.YthjgplgfcbhihaaGl4
set_option linter.unusedVariables false
set_option linter.unusedSimpArgs false
namespace Go.Proofs.Ythjgplgfcbhihaa
open Go.RowKit Go Go.Sort Go.Lib
set_option maxRecDepth 100000 in
set_option maxHeartbeats 4000000 in
theorem drains_out (f : Int) (n : Int) (buf : Int) (A : Option Addr) (k cap : Nat) (W : World) (ho : f < 0 ∨ 1000 < f ∨ n < 0 ∨ 100 < n ∨ buf < 1 ∨ 20 < buf ∨ 300 < k) :
    Calls Try.prog 3 #[.int .i64 f, .int .i64 n, .int .i64 buf, .slice A k cap] W fun e w' => e = .returned (.bool true) ∧ Only [] W w' := by
  have HAl := Lib.hid (fun w => alive_any w)
  by_cases h1 : f < 0
  · clear ho
    go_enter Try.func3, Try.ntmps3
    go_wp2_with (go_at_call 7; refine (HAl.out _).mono ?_; rintro e w1 ⟨rfl, ho1⟩)
    go_ret
    exact ⟨rfl, ho1⟩
  by_cases h2 : 1000 < f
  · clear ho
    go_enter Try.func3, Try.ntmps3
    go_wp2_with (go_at_call 7; refine (HAl.out _).mono ?_; rintro e w1 ⟨rfl, ho1⟩)
    go_ret
    exact ⟨rfl, ho1⟩
  by_cases h3 : n < 0
  · clear ho
    go_enter Try.func3, Try.ntmps3
    go_wp2_with (go_at_call 7; refine (HAl.out _).mono ?_; rintro e w1 ⟨rfl, ho1⟩)
    go_ret
    exact ⟨rfl, ho1⟩
  by_cases h4 : 100 < n
  · clear ho
    go_enter Try.func3, Try.ntmps3
    go_wp2_with (go_at_call 7; refine (HAl.out _).mono ?_; rintro e w1 ⟨rfl, ho1⟩)
    go_ret
    exact ⟨rfl, ho1⟩
  by_cases h5 : buf < 1
  · clear ho
    go_enter Try.func3, Try.ntmps3
    go_wp2_with (go_at_call 7; refine (HAl.out _).mono ?_; rintro e w1 ⟨rfl, ho1⟩)
    go_ret
    exact ⟨rfl, ho1⟩
  by_cases h6 : 20 < buf
  · clear ho
    go_enter Try.func3, Try.ntmps3
    go_wp2_with (go_at_call 7; refine (HAl.out _).mono ?_; rintro e w1 ⟨rfl, ho1⟩)
    go_ret
    exact ⟨rfl, ho1⟩
  have h7 : 300 < k := by omega
  clear ho
  go_enter Try.func3, Try.ntmps3
  go_wp2_with (go_at_call 7; refine (HAl.out _).mono ?_; rintro e w1 ⟨rfl, ho1⟩)
  go_ret
  exact ⟨rfl, ho1⟩
set_option maxRecDepth 100000 in
set_option maxHeartbeats 4000000 in
theorem drains_in (f : Int) (n : Int) (buf : Int) (v : Value) (zs : List Int) (W : World) (hv : Slc W 1 v zs.length (ints zs)) (h1 : 0 ≤ f) (h2 : f ≤ 1000) (h3 : 0 ≤ n) (h4 : n ≤ 100) (h5 : 1 ≤ buf) (h6 : buf ≤ 20) (h7 : zs.length ≤ 300) :
    Calls Try.prog 3 #[.int .i64 f, .int .i64 n, .int .i64 buf, v] W fun e w' => e = .returned (.bool true) ∧ Only [] W w' := by
  have HAl := Lib.hid (fun w => alive_any w)
  have HNew := Lib.hid (in_new W W (Only.refl _ _) f buf 0 (by simp [GS.okNew]; omega))
  have HJoin : Hid (∀ (w : World) (H : List Nat) (gb : Nat), HasG W w H gb (GS.new f buf 0) 0 → Calls Try.prog 9 #[.pointer (some ⟨gb, 0, none⟩), .string ⟨#[97]⟩] w fun e w' => e = .returned (.int .i64 0) ∧ GTo W w H gb ⟨f, buf, 0, f, [], [(nA, [])], [], [], [], []⟩ 1 w') := fun w H gb h => by
    have := in_join h nA nA_lim
    rw [dS_join] at this
    exact this
  have HJoin2 : Hid (∀ (w : World) (H : List Nat) (gb : Nat), HasG W w H gb ⟨f, buf, 0, f, [], [(nA, [])], [], [], [], []⟩ 1 → Calls Try.prog 9 #[.pointer (some ⟨gb, 0, none⟩), .string ⟨#[98]⟩] w fun e w' => e = .returned (.int .i64 0) ∧ GTo W w H gb ⟨f, buf, 0, f, [], [(nA, []), (nB, [])], [], [], [], []⟩ 2 w') := fun w H gb h => by
    have := in_join h nB nB_lim
    rw [dS_join2] at this
    exact this
  have HFeed : Hid (∀ (w : World) (H : List Nat) (gb : Nat), HasG W w H gb ⟨f, buf, 0, f, [], [(nA, []), (nB, [])], [], [], [], []⟩ 2 → Calls Try.prog 10 #[.pointer (some ⟨gb, 0, none⟩), .int .i64 n] w fun e w' => e = .returned (.int .i64 n) ∧ GTo W w H gb (dS f buf (f + n) f (fun _ => []) [] []) 3 w') := fun w H gb h => by
    have := in_feed h (by omega) n
    rw [dS_feed f buf n h3 h4] at this
    exact this
  have hm := IntWalk.i64_in (f + n) ⟨by omega, by omega⟩
  obtain ⟨A, cap, rfl, _, _, hel⟩ := hv.openI
  have hel' : Hid (∀ i (h : i < zs.length), ∃ b off, A = some ⟨b, off, none⟩ ∧ b < W.heap.size ∧ W.cell? ⟨b, off + i, none⟩ = some (.int .i64 zs[i])) := hel
  clear hel hv
  go_enter Try.func3, Try.ntmps3
  go_wp2_with (first
    | (go_at_call 8; refine HNew.out.mono ?_; rintro e w1 ⟨gb, H1, rfl, h1', k1, f1⟩)
    | (go_at_call 9; first | (refine (HJoin2.out _ _ _ h2').mono ?_; rintro e w3 ⟨rfl, H3, h3', k3⟩) | (refine (HJoin.out _ _ _ h1').mono ?_; rintro e w2 ⟨rfl, H2, h2', k2⟩))
    | (go_at_call 10; refine (HFeed.out _ _ _ h3').mono ?_; rintro e w4 ⟨rfl, H4, h4', k4⟩))
  have hm2 : f + n - f = n := by omega
  go_loopw [11, 12] (fun nv iv wr => ∃ (c : Nat) (x : Int) (F : Bool → List Int) (AK : List Int) (T : List (Int × Int)) (H : List Nat), DInv f buf (f + n) x c F AK ∧ nv = .int .i64 x ∧ iv = .int .i64 (x - f + c) ∧ HasG W wr H gb (dS f buf (f + n) x F AK T) (3 + (x - f).toNat + c)) (fun _ iv _ => 400 - (intOf iv).toNat)
  case atStart => exact ⟨0, f, _, _, _, H4, DInv.start f buf (f + n) h5 (by omega), rfl, by simp, by simpa using h4'⟩
  case round =>
    obtain ⟨c, x, F, AK, T, H, hI, rfl, rfl, hG⟩ := hrel
    have hc := hI.count
    have hlo := hI.lo
    have hhi := hI.hi
    obtain ⟨i, hi⟩ : ∃ i : Nat, (i : Int) = x - f + c := ⟨(x - f + c).toNat, by omega⟩
    rw [← hi]
    have Hi := Lib.hid hi
    have hi4 : (i : Int) < 400 := by omega
    by_cases hx : x < f + n
    · by_cases hlen : (i : Int) < zs.length
      · obtain ⟨b, o, hA, hb, hcell⟩ := hel'.out i (by omega)
        obtain ⟨z, hz⟩ : ∃ z, z = zs[i]'(by omega) := ⟨_, rfl⟩
        rw [← hz] at hcell
        subst hA
        have hcw := (hG.only.cell (by exact hb) (by simp)).trans hcell
        have HG := Lib.hid hG
        clear hcell hz hi hG
        go_wp2_with fail
        · by_cases hl : ((F true).length : Int) < buf
          · obtain ⟨T', ht⟩ := dS_next (f := f) (buf := buf) (m := f + n) (x := x) (F := F) (AK := AK) (T := T) true hx hl
            have hnx := in_next HG.out (by omega) (nm true)
            rw [ht] at hnx
            have HNx : Hid (Calls Try.prog 11 #[.pointer (some ⟨gb, 0, none⟩), .string ⟨#[98]⟩] wr fun e w' => e = .returned (.tuple #[.int .i64 x, .bool true]) ∧ GTo W wr H gb (dS f buf (f + n) (x + 1) (setF F true (insL (F true) x)) AK T') (3 + (x - f).toNat + c + 1) w') := hnx
            have hadd := IntWalk.i64_in (x + 1) ⟨by omega, by omega⟩
            have hI2 := hI.next true hx hl
            clear hnx ht
            refine HNx.out.mono ?_
            rintro e w5 ⟨rfl, H5, h5', k5⟩
            go_wp2
            refine ⟨⟨c, x + 1, _, _, _, H5, hI2, rfl, by have := Hi.out; simp; omega, h5'.more (by omega)⟩, by simp [intOf]; omega⟩
          · have hle : buf ≤ ((F true).length : Int) := by omega
            have hee : ((F true).length : Int) = buf := by have := hI.few true; omega
            have hnx := in_next HG.out (by omega) (nm true)
            rw [dS_full true hle] at hnx
            have HNx : Hid (Calls Try.prog 11 #[.pointer (some ⟨gb, 0, none⟩), .string ⟨#[98]⟩] wr fun e w' => e = .returned (.tuple #[.int .i64 0, .bool false]) ∧ GTo W wr H gb (dS f buf (f + n) x F AK T) (3 + (x - f).toNat + c + 1) w') := hnx
            have HFl : Hid (∀ (w5 : World) (H5 : List Nat), HasG W w5 H5 gb (dS f buf (f + n) x F AK T) (3 + (x - f).toNat + c + 1) → Calls Try.prog 12 #[.pointer (some ⟨gb, 0, none⟩), .string ⟨#[98]⟩] w5 (RowRet w5 (F true))) := fun w5 H5 h => by
              have := in_flight h (by omega) (nm true)
              rw [dS_fl] at this
              exact this
            have hne : F true ≠ [] := fun q => by rw [q] at hee; simp at hee; omega
            obtain ⟨T', hta⟩ := dS_ack (f := f) (buf := buf) (m := f + n) (x := x) (F := F) (AK := AK) (T := T) true (hI.fed true).ris
            rw [if_neg hne, hee] at hta
            have HAck : Hid (∀ (w5 : World) (H5 : List Nat) (v : Value), HasG W w5 H5 gb (dS f buf (f + n) x F AK T) (3 + (x - f).toNat + c + 1) → Own w5 v (F true) → (∀ b, v.ownBlock = some b → b ∉ H5) → Calls Try.prog 13 #[.pointer (some ⟨gb, 0, none⟩), .string ⟨#[98]⟩, v] w5 fun e w' => e = .returned (.int .i64 buf) ∧ GTo W w5 H5 gb (dS f buf (f + n) x (setF F true []) (ackL (f + n) x F true AK) T') (3 + (x - f).toNat + c + 1) w') := fun w5 H5 v h ho hb => by
              have := in_ack h (by omega) (nm true) ho.slc hb (by omega)
              rw [hta] at this
              exact this
            have hadd := IntWalk.i64_in ((i : Int) + 1) ⟨by omega, by omega⟩
            have hI2 := hI.full true hee
            obtain ⟨L, hL⟩ : ∃ L, L = F true := ⟨_, rfl⟩
            rw [← hL] at HFl HAck hee
            have hee2 : ((L.length : Int) == buf) = true := by rw [beq_iff_eq]; exact hee
            have hee3 : ((L.length : Int) != buf) = false := by rw [bne_eq_false_iff_eq]; exact hee
            have HEe := Lib.hid hee
            clear hnx hta hL hle hl hne hee
            refine HNx.out.mono ?_
            rintro e w5 ⟨rfl, H5, h5', k5⟩
            go_wp2_with (first
              | (go_at_call 12; refine (HFl.out _ _ h5').mono ?_; rintro e w6 ⟨v6, rfl, ho6, hf6, hk6⟩; obtain ⟨A6, c6, rfl, _, _⟩ := own_form ho6; have h6' := h5'.keep0 hk6; have hn6 := h5'.fresh hf6)
              | (go_at_call 13; refine (HAck.out _ _ _ h6' ho6 hn6).mono ?_; rintro e w7 ⟨rfl, H7, h7', k7⟩))
            refine ⟨⟨c + 1, x, _, _, _, H7, hI2, rfl, by have := Hi.out; simp; omega, h7'.more (by omega)⟩, by simp [intOf]; omega⟩
        · by_cases hl : ((F false).length : Int) < buf
          · obtain ⟨T', ht⟩ := dS_next (f := f) (buf := buf) (m := f + n) (x := x) (F := F) (AK := AK) (T := T) false hx hl
            have hnx := in_next HG.out (by omega) (nm false)
            rw [ht] at hnx
            have HNx : Hid (Calls Try.prog 11 #[.pointer (some ⟨gb, 0, none⟩), .string ⟨#[97]⟩] wr fun e w' => e = .returned (.tuple #[.int .i64 x, .bool true]) ∧ GTo W wr H gb (dS f buf (f + n) (x + 1) (setF F false (insL (F false) x)) AK T') (3 + (x - f).toNat + c + 1) w') := hnx
            have hadd := IntWalk.i64_in (x + 1) ⟨by omega, by omega⟩
            have hI2 := hI.next false hx hl
            clear hnx ht
            refine HNx.out.mono ?_
            rintro e w5 ⟨rfl, H5, h5', k5⟩
            go_wp2
            refine ⟨⟨c, x + 1, _, _, _, H5, hI2, rfl, by have := Hi.out; simp; omega, h5'.more (by omega)⟩, by simp [intOf]; omega⟩
          · have hle : buf ≤ ((F false).length : Int) := by omega
            have hee : ((F false).length : Int) = buf := by have := hI.few false; omega
            have hnx := in_next HG.out (by omega) (nm false)
            rw [dS_full false hle] at hnx
            have HNx : Hid (Calls Try.prog 11 #[.pointer (some ⟨gb, 0, none⟩), .string ⟨#[97]⟩] wr fun e w' => e = .returned (.tuple #[.int .i64 0, .bool false]) ∧ GTo W wr H gb (dS f buf (f + n) x F AK T) (3 + (x - f).toNat + c + 1) w') := hnx
            have HFl : Hid (∀ (w5 : World) (H5 : List Nat), HasG W w5 H5 gb (dS f buf (f + n) x F AK T) (3 + (x - f).toNat + c + 1) → Calls Try.prog 12 #[.pointer (some ⟨gb, 0, none⟩), .string ⟨#[97]⟩] w5 (RowRet w5 (F false))) := fun w5 H5 h => by
              have := in_flight h (by omega) (nm false)
              rw [dS_fl] at this
              exact this
            have hne : F false ≠ [] := fun q => by rw [q] at hee; simp at hee; omega
            obtain ⟨T', hta⟩ := dS_ack (f := f) (buf := buf) (m := f + n) (x := x) (F := F) (AK := AK) (T := T) false (hI.fed false).ris
            rw [if_neg hne, hee] at hta
            have HAck : Hid (∀ (w5 : World) (H5 : List Nat) (v : Value), HasG W w5 H5 gb (dS f buf (f + n) x F AK T) (3 + (x - f).toNat + c + 1) → Own w5 v (F false) → (∀ b, v.ownBlock = some b → b ∉ H5) → Calls Try.prog 13 #[.pointer (some ⟨gb, 0, none⟩), .string ⟨#[97]⟩, v] w5 fun e w' => e = .returned (.int .i64 buf) ∧ GTo W w5 H5 gb (dS f buf (f + n) x (setF F false []) (ackL (f + n) x F false AK) T') (3 + (x - f).toNat + c + 1) w') := fun w5 H5 v h ho hb => by
              have := in_ack h (by omega) (nm false) ho.slc hb (by omega)
              rw [hta] at this
              exact this
            have hadd := IntWalk.i64_in ((i : Int) + 1) ⟨by omega, by omega⟩
            have hI2 := hI.full false hee
            obtain ⟨L, hL⟩ : ∃ L, L = F false := ⟨_, rfl⟩
            rw [← hL] at HFl HAck hee
            have hee2 : ((L.length : Int) == buf) = true := by rw [beq_iff_eq]; exact hee
            have hee3 : ((L.length : Int) != buf) = false := by rw [bne_eq_false_iff_eq]; exact hee
            have HEe := Lib.hid hee
            clear hnx hta hL hle hl hne hee
            refine HNx.out.mono ?_
            rintro e w5 ⟨rfl, H5, h5', k5⟩
            go_wp2_with (first
              | (go_at_call 12; refine (HFl.out _ _ h5').mono ?_; rintro e w6 ⟨v6, rfl, ho6, hf6, hk6⟩; obtain ⟨A6, c6, rfl, _, _⟩ := own_form ho6; have h6' := h5'.keep0 hk6; have hn6 := h5'.fresh hf6)
              | (go_at_call 13; refine (HAck.out _ _ _ h6' ho6 hn6).mono ?_; rintro e w7 ⟨rfl, H7, h7', k7⟩))
            refine ⟨⟨c + 1, x, _, _, _, H7, hI2, rfl, by have := Hi.out; simp; omega, h7'.more (by omega)⟩, by simp [intOf]; omega⟩
      · have HG := Lib.hid hG
        clear hi hG
        go_wp2_with fail
        · by_cases hl : ((F false).length : Int) < buf
          · obtain ⟨T', ht⟩ := dS_next (f := f) (buf := buf) (m := f + n) (x := x) (F := F) (AK := AK) (T := T) false hx hl
            have hnx := in_next HG.out (by omega) (nm false)
            rw [ht] at hnx
            have HNx : Hid (Calls Try.prog 11 #[.pointer (some ⟨gb, 0, none⟩), .string ⟨#[97]⟩] wr fun e w' => e = .returned (.tuple #[.int .i64 x, .bool true]) ∧ GTo W wr H gb (dS f buf (f + n) (x + 1) (setF F false (insL (F false) x)) AK T') (3 + (x - f).toNat + c + 1) w') := hnx
            have hadd := IntWalk.i64_in (x + 1) ⟨by omega, by omega⟩
            have hI2 := hI.next false hx hl
            clear hnx ht
            refine HNx.out.mono ?_
            rintro e w5 ⟨rfl, H5, h5', k5⟩
            go_wp2
            refine ⟨⟨c, x + 1, _, _, _, H5, hI2, rfl, by have := Hi.out; simp; omega, h5'.more (by omega)⟩, by simp [intOf]; omega⟩
          · have hle : buf ≤ ((F false).length : Int) := by omega
            have hee : ((F false).length : Int) = buf := by have := hI.few false; omega
            have hnx := in_next HG.out (by omega) (nm false)
            rw [dS_full false hle] at hnx
            have HNx : Hid (Calls Try.prog 11 #[.pointer (some ⟨gb, 0, none⟩), .string ⟨#[97]⟩] wr fun e w' => e = .returned (.tuple #[.int .i64 0, .bool false]) ∧ GTo W wr H gb (dS f buf (f + n) x F AK T) (3 + (x - f).toNat + c + 1) w') := hnx
            have HFl : Hid (∀ (w5 : World) (H5 : List Nat), HasG W w5 H5 gb (dS f buf (f + n) x F AK T) (3 + (x - f).toNat + c + 1) → Calls Try.prog 12 #[.pointer (some ⟨gb, 0, none⟩), .string ⟨#[97]⟩] w5 (RowRet w5 (F false))) := fun w5 H5 h => by
              have := in_flight h (by omega) (nm false)
              rw [dS_fl] at this
              exact this
            have hne : F false ≠ [] := fun q => by rw [q] at hee; simp at hee; omega
            obtain ⟨T', hta⟩ := dS_ack (f := f) (buf := buf) (m := f + n) (x := x) (F := F) (AK := AK) (T := T) false (hI.fed false).ris
            rw [if_neg hne, hee] at hta
            have HAck : Hid (∀ (w5 : World) (H5 : List Nat) (v : Value), HasG W w5 H5 gb (dS f buf (f + n) x F AK T) (3 + (x - f).toNat + c + 1) → Own w5 v (F false) → (∀ b, v.ownBlock = some b → b ∉ H5) → Calls Try.prog 13 #[.pointer (some ⟨gb, 0, none⟩), .string ⟨#[97]⟩, v] w5 fun e w' => e = .returned (.int .i64 buf) ∧ GTo W w5 H5 gb (dS f buf (f + n) x (setF F false []) (ackL (f + n) x F false AK) T') (3 + (x - f).toNat + c + 1) w') := fun w5 H5 v h ho hb => by
              have := in_ack h (by omega) (nm false) ho.slc hb (by omega)
              rw [hta] at this
              exact this
            have hadd := IntWalk.i64_in ((i : Int) + 1) ⟨by omega, by omega⟩
            have hI2 := hI.full false hee
            obtain ⟨L, hL⟩ : ∃ L, L = F false := ⟨_, rfl⟩
            rw [← hL] at HFl HAck hee
            have hee2 : ((L.length : Int) == buf) = true := by rw [beq_iff_eq]; exact hee
            have hee3 : ((L.length : Int) != buf) = false := by rw [bne_eq_false_iff_eq]; exact hee
            have HEe := Lib.hid hee
            clear hnx hta hL hle hl hne hee
            refine HNx.out.mono ?_
            rintro e w5 ⟨rfl, H5, h5', k5⟩
            go_wp2_with (first
              | (go_at_call 12; refine (HFl.out _ _ h5').mono ?_; rintro e w6 ⟨v6, rfl, ho6, hf6, hk6⟩; obtain ⟨A6, c6, rfl, _, _⟩ := own_form ho6; have h6' := h5'.keep0 hk6; have hn6 := h5'.fresh hf6)
              | (go_at_call 13; refine (HAck.out _ _ _ h6' ho6 hn6).mono ?_; rintro e w7 ⟨rfl, H7, h7', k7⟩))
            refine ⟨⟨c + 1, x, _, _, _, H7, hI2, rfl, by have := Hi.out; simp; omega, h7'.more (by omega)⟩, by simp [intOf]; omega⟩
    · have hxm : x = f + n := by omega
      have hx2 : (x == f + n) = true := by rw [beq_iff_eq]; exact hxm
      obtain ⟨F1, AK1, T1, ha1, hb1, hc1, hf1, hk1, hj1⟩ := dS_end (f := f) (buf := buf) (m := f + n) (x := x) (F := F) (AK := AK) (T := T) hI.fed hI.ack hI.j hhi false
      obtain ⟨F2, AK2, T2, ha2, hb2, hc2, hf2, hk2, hj2⟩ := dS_end (f := f) (buf := buf) (m := f + n) (x := x) (F := F1) (AK := AK1) (T := T1) hf1 hk1 hj1 hhi true
      have hA0 := hI.few false
      have hA1 := hI.few true
      have hfe : F2 false = [] := by rw [hc2 false (by decide)]; exact hb1
      have hAK : AK2 = [] := hj2 hfe hb2
      have hF1t : F1 true = F true := hc1 true (by decide)
      have hck := dS_ck (f := f) (buf := buf) (m := f + n) (F := F2) (AK := AK2) (T := T2) hfe hb2
      have HG := Lib.hid hG
      have HFl : Hid (Calls Try.prog 12 #[.pointer (some ⟨gb, 0, none⟩), .string ⟨#[97]⟩] wr (RowRet wr (F false))) := by
        have := in_flight hG (by omega) nA
        rw [show nA = nm false from rfl, dS_fl] at this
        exact this
      have HAck : Hid (∀ (w5 : World) (H5 : List Nat) (v : Value), HasG W w5 H5 gb (dS f buf (f + n) x F AK T) (3 + (x - f).toNat + c) → Own w5 v (F false) → (∀ b, v.ownBlock = some b → b ∉ H5) → Calls Try.prog 13 #[.pointer (some ⟨gb, 0, none⟩), .string ⟨#[97]⟩, v] w5 fun e w' => e = .returned (.int .i64 (F false).length) ∧ GTo W w5 H5 gb (dS f buf (f + n) x F1 AK1 T1) (3 + (x - f).toNat + c) w') := fun w5 H5 v h ho hb => by
        have := in_ack h (by omega) (nm false) ho.slc hb (by omega)
        rw [ha1] at this
        exact this
      have HFl2 : Hid (∀ (w5 : World) (H5 : List Nat), HasG W w5 H5 gb (dS f buf (f + n) x F1 AK1 T1) (3 + (x - f).toNat + c) → Calls Try.prog 12 #[.pointer (some ⟨gb, 0, none⟩), .string ⟨#[98]⟩] w5 (RowRet w5 (F1 true))) := fun w5 H5 h => by
        have := in_flight h (by omega) nB
        rw [show nB = nm true from rfl, dS_fl] at this
        exact this
      have HAck2 : Hid (∀ (w5 : World) (H5 : List Nat) (v : Value), HasG W w5 H5 gb (dS f buf (f + n) x F1 AK1 T1) (3 + (x - f).toNat + c) → Own w5 v (F1 true) → (∀ b, v.ownBlock = some b → b ∉ H5) → Calls Try.prog 13 #[.pointer (some ⟨gb, 0, none⟩), .string ⟨#[98]⟩, v] w5 fun e w' => e = .returned (.int .i64 (F1 true).length) ∧ GTo W w5 H5 gb (dS f buf (f + n) x F2 AK2 T2) (3 + (x - f).toNat + c) w') := fun w5 H5 v h ho hb => by
        have := in_ack h (by omega) (nm true) ho.slc hb (by rw [hF1t]; omega)
        rw [ha2] at this
        exact this
      have HCk : Hid (∀ (w5 : World) (H5 : List Nat), HasG W w5 H5 gb (dS f buf (f + n) x F2 AK2 T2) (3 + (x - f).toNat + c) → Calls Try.prog 14 #[.pointer (some ⟨gb, 0, none⟩)] w5 fun e w' => e = .returned (.int .i64 (f + n)) ∧ Only [] w5 w') := fun w5 H5 h => by
        have := in_ckpt h (by omega)
        rw [hxm, hck] at this
        exact this
      have HWt : Hid (∀ (w5 : World) (H5 : List Nat), HasG W w5 H5 gb (dS f buf (f + n) x F2 AK2 T2) (3 + (x - f).toNat + c) → Calls Try.prog 15 #[.pointer (some ⟨gb, 0, none⟩)] w5 (RowRet w5 [])) := fun w5 H5 h => by
        have := in_waiting h (by omega)
        have e : (dS f buf (f + n) x F2 AK2 T2).waiting = [] := by
          show rangeUp (f + n - x).toNat x = []
          have : (f + n - x).toNat = 0 := by omega
          rw [this]
          rfl
        rw [e] at this
        exact this
      have HAc : Hid (∀ (w5 : World) (H5 : List Nat), HasG W w5 H5 gb (dS f buf (f + n) x F2 AK2 T2) (3 + (x - f).toNat + c) → Calls Try.prog 16 #[.pointer (some ⟨gb, 0, none⟩)] w5 (RowRet w5 [])) := fun w5 H5 h => by
        have := in_acked h (by omega)
        have e : (dS f buf (f + n) x F2 AK2 T2).acked = [] := hAK
        rw [e] at this
        exact this
      have HPk : Hid (∀ (w5 : World) (H5 : List Nat), HasG W w5 H5 gb (dS f buf (f + n) x F2 AK2 T2) (3 + (x - f).toNat + c) → Calls Try.prog 17 #[.pointer (some ⟨gb, 0, none⟩)] w5 (RowRet w5 [])) := fun w5 H5 h => in_parked h (by omega)
      clear hG ha1 ha2 hck hAK hfe hj1 hj2 hk1 hk2 hf1 hf2 hb1 hb2 hc1 hc2 hF1t hxm hi
      go_wp2_with (first
        | (go_at_call 12; first | (refine (HFl2.out _ _ h7').mono ?_; rintro e w8 ⟨v8, rfl, ho8, hf8, hk8⟩; obtain ⟨A8, c8, rfl, _, _⟩ := own_form ho8; have h8' := h7'.keep0 hk8; have hn8 := h7'.fresh hf8) | (refine HFl.out.mono ?_; rintro e w6 ⟨v6, rfl, ho6, hf6, hk6⟩; obtain ⟨A6, c6, rfl, _, _⟩ := own_form ho6; have h6' := HG.out.keep0 hk6; have hn6 := HG.out.fresh hf6))
        | (go_at_call 13; first | (refine (HAck2.out _ _ _ h8' ho8 hn8).mono ?_; rintro e w9 ⟨rfl, H9, h9', k9⟩) | (refine (HAck.out _ _ _ h6' ho6 hn6).mono ?_; rintro e w7 ⟨rfl, H7, h7', k7⟩))
        | (go_at_call 7; refine (HAl.out _).mono ?_; rintro e wa ⟨rfl, hoa⟩; have ha' := h9'.keep0 hoa)
        | (go_at_call 14; refine (HCk.out _ _ ha').mono ?_; rintro e wb ⟨rfl, hob⟩; have hb' := ha'.keep0 hob)
        | (go_at_call 15; refine (HWt.out _ _ hb').mono ?_; rintro e wc ⟨vc, rfl, hoc, hfc, hkc⟩; obtain ⟨Ac, cc, rfl, _, _⟩ := own_form hoc; have hc' := hb'.keep0 hkc)
        | (go_at_call 16; refine (HAc.out _ _ hc').mono ?_; rintro e wd ⟨vd, rfl, hod, hfd, hkd⟩; obtain ⟨Ad, cd, rfl, _, _⟩ := own_form hod; have hd' := hc'.keep0 hkd)
        | (go_at_call 17; refine (HPk.out _ _ hd').mono ?_; rintro e we ⟨ve, rfl, hoe, hfe, hke⟩; obtain ⟨Ae, ce, rfl, _, _⟩ := own_form hoe; have he' := hd'.keep0 hke))
      go_ret
      exact ⟨rfl, he'.only⟩
theorem drainsW (f : Int) (hf : (Lit.int .i64 f).wf = true) (n : Int) (hn : (Lit.int .i64 n).wf = true) (buf : Int) (hb : (Lit.int .i64 buf).wf = true) (v : Value) (zs : List Int) (W : World) :
    Slc W 1 v zs.length (ints zs) → (∀ z ∈ zs, (Lit.int .i64 z).wf = true) → (∀ g, v.ownBlock = some g → g < W.heap.size ∨ zs = []) →
    Calls Try.prog 3 #[.int .i64 f, .int .i64 n, .int .i64 buf, v] W fun e w' => e = .returned (.bool true) ∧ Only [] W w' := by
  intro hv hz _
  by_cases ho : f < 0 ∨ 1000 < f ∨ n < 0 ∨ 100 < n ∨ buf < 1 ∨ 20 < buf ∨ 300 < zs.length
  · obtain ⟨A, cap, rfl, _, _, _⟩ := hv.openI
    exact drains_out f n buf A zs.length cap W ho
  · exact drains_in f n buf v zs W hv (by omega) (by omega) (by omega) (by omega) (by omega) (by omega) (by omega)
end Go.Proofs.Ythjgplgfcbhihaa
