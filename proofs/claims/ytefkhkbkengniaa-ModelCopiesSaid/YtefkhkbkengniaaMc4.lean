/- Contracts: young, Floor, expected, Canon. -/
import Derived.Test.YtefkhkbkengniaaMc2
set_option linter.unusedVariables false
set_option linter.unusedSimpArgs false
namespace Go.Proofs.Ytefkhkbkengniaa
open Go.RowKit
theorem young_drop (age now : Int) (ts : List Int) (k : Nat) (h : k < ts.length) : young age now (ts.drop k) = if now - age < ts[k] then 0 else 1 + young age now (ts.drop (k + 1)) := by
  rw [List.drop_eq_getElem_cons h]
  rfl
theorem young_bd (age now : Int) : ∀ ts : List Int, 0 ≤ young age now ts ∧ young age now ts ≤ ts.length
  | [] => ⟨Int.le_refl _, Int.le_refl _⟩
  | t :: l => by
    have := young_bd age now l
    unfold young
    split
    · simp; omega
    · simp; omega
theorem young_any {w : World} {v : Value} {ts : List Int} {age now : Int} (h : Slc w 1 v ts.length (ints ts)) (hn : 0 ≤ now ∧ now ≤ 2199023255552) (ha : 0 ≤ age ∧ age ≤ 2199023255552) :
    Calls Try.prog 91 #[.int .i64 age, .int .i64 now, v] w fun e w' => e = .returned (.int .i64 (young age now ts)) ∧ w = w' := by
  obtain ⟨A, cap, rfl, hnc, hcm, hel⟩ := h.openI
  obtain ⟨hn1, hn2⟩ := hn
  obtain ⟨ha1, ha2⟩ := ha
  have hl : ts.length ≤ 9223372036854775807 := by unfold maxLen at hcm; exact Nat.le_trans hnc (by omega)
  clear hcm hnc h
  go_enter Try.func91, Try.ntmps91
  go_wp2
  go_loop [11] (fun i => ∃ k : Nat, k ≤ ts.length ∧ i = .int .i64 k ∧ Hid (young age now ts = k + young age now (ts.drop k))) (fun i => ts.length - (intOf i).toNat)
  case atStart => exact ⟨0, Nat.zero_le _, rfl, by simp [Hid]⟩
  case round =>
    obtain ⟨k, hk, rfl, hT⟩ := hrel
    by_cases hlt : k < ts.length
    · obtain ⟨b, off, rfl, hb, hc⟩ := hel k hlt
      have hd := young_drop age now ts k hlt
      obtain ⟨t, ht⟩ : ∃ t, t = ts[k] := ⟨_, rfl⟩
      rw [← ht] at hd hc
      by_cases hy : now - age < t
      · have HD : Hid (young age now ts = k) := by unfold Hid; rw [hT.out, hd, if_pos hy]; simp
        clear hd ht hel
        go_wp2
        go_ret
        exact ⟨ret_i (by rw [HD.out]), rfl⟩
      · have HD : Hid (young age now ts = ((k + 1 : Nat) : Int) + young age now (ts.drop (k + 1))) := by unfold Hid; rw [hT.out, hd, if_neg hy]; omega
        clear hd ht hel
        go_wp2
        go_round
        case rel => exact ⟨k + 1, hlt, by go_num, HD⟩
        case measure => simp [intOf]; omega
    · have HD : Hid (young age now ts = ts.length) := by
        have hkl : k = ts.length := by omega
        unfold Hid
        rw [hT.out, hkl, List.drop_length]
        simp [young]
      go_wp2
      go_ret
      exact ⟨ret_i (by rw [HD.out]), rfl⟩
set_option maxHeartbeats 1000000 in
theorem floor_any {w : World} {v : Value} {ts : List Int} {m : MetaR} {floor now : Int} (h : Slc w 1 v ts.length (ints ts)) (hn : 0 ≤ now ∧ now ≤ 2199023255552) (hm : m.ok = true) (hf : 0 ≤ floor ∧ floor ≤ 2199023255552) (hl : ts.length ≤ 1000000000) :
    Calls Try.prog 69 #[m.val, .int .i64 floor, .int .i64 now, v] w fun e w' => e = .returned (.int .i64 (floorE m floor now ts)) ∧ Only [] w w' := by
  obtain ⟨A, cap, rfl, hnc, hcm, _⟩ := h.openI
  obtain ⟨a, b, d⟩ := m
  simp [MetaR.ok, within] at hm
  obtain ⟨⟨⟨ha1, ha2⟩, hb1, hb2⟩, hd1, hd2⟩ := hm
  obtain ⟨hf1, hf2⟩ := hf
  have HY := Lib.hid (young_any (w := w.alloc (.cells #[.int .i64 a, .int .i64 b, .int .i64 d] 33)) (age := b) (h.only0 ((Only.refl [] w).alloc _)) hn ⟨hb1, by omega⟩)
  have hyb := young_bd b now ts
  obtain ⟨y, hy⟩ : ∃ y, y = young b now ts := ⟨_, rfl⟩
  rw [← hy] at HY hyb
  obtain ⟨hy1, hy2⟩ := hyb
  have HR : Hid (floorE ⟨a, b, d⟩ floor now ts = min (if 0 < b then max (if 0 < a then max (max (max floor 0) d) (ts.length - a) else max (max floor 0) d) y else (if 0 < a then max (max (max floor 0) d) (ts.length - a) else max (max floor 0) d)) ts.length) := by
    unfold Hid floorE
    rw [hy]
  clear hcm hnc h hn hy
  unfold MetaR.val
  by_cases h1 : 0 < a
  · by_cases h2 : 0 < b
    · rw [if_pos h1, if_pos h2] at HR
      go_enter Try.func69, Try.ntmps69
      go_wp2_with (go_at_call 91; refine HY.out.mono ?_; rintro e w' ⟨rfl, rfl⟩)
      all_goals
        go_ret
        refine ⟨ret_i ?_, (Only.refl [] w).alloc _⟩
        rw [HR.out]
        omega
    · rw [if_pos h1, if_neg h2] at HR
      go_enter Try.func69, Try.ntmps69
      go_wp2_with (go_at_call 91; refine HY.out.mono ?_; rintro e w' ⟨rfl, rfl⟩)
      all_goals
        go_ret
        refine ⟨ret_i ?_, (Only.refl [] w).alloc _⟩
        rw [HR.out]
        omega
  · by_cases h2 : 0 < b
    · rw [if_neg h1, if_pos h2] at HR
      go_enter Try.func69, Try.ntmps69
      go_wp2_with (go_at_call 91; refine HY.out.mono ?_; rintro e w' ⟨rfl, rfl⟩)
      all_goals
        go_ret
        refine ⟨ret_i ?_, (Only.refl [] w).alloc _⟩
        rw [HR.out]
        omega
    · rw [if_neg h1, if_neg h2] at HR
      go_enter Try.func69, Try.ntmps69
      go_wp2_with (go_at_call 91; refine HY.out.mono ?_; rintro e w' ⟨rfl, rfl⟩)
      all_goals
        go_ret
        refine ⟨ret_i ?_, (Only.refl [] w).alloc _⟩
        rw [HR.out]
        omega
theorem expected_any (want count : Int) (w : World) (hc : 0 ≤ count ∧ count ≤ 2199023255552) : Calls Try.prog 71 #[.int .i64 want, .int .i64 count] w fun e w' => e = .returned (.bool (expected want count)) ∧ w = w' := by
  obtain ⟨hc1, hc2⟩ := hc
  by_cases h1 : want = -2
  · subst h1
    go_enter Try.func71, Try.ntmps71
    go_wp2
    go_ret
    exact ⟨ret_b (by simp [expected]), rfl⟩
  · have b1 : (want == -2) = false := by simpa using h1
    by_cases h2 : want = -1
    · subst h2
      go_enter Try.func71, Try.ntmps71
      go_wp2
      go_ret
      exact ⟨ret_b (by first | (simp [expected]; done) | (simp [expected]; rfl)), rfl⟩
    · have b2 : (want == -1) = false := by simpa using h2
      by_cases h4 : want = -4
      · subst h4
        go_enter Try.func71, Try.ntmps71
        go_wp2
        go_ret
        exact ⟨ret_b (by simp [expected]), rfl⟩
      · have b4 : (want == -4) = false := by simpa using h4
        have hr : Hid (expected want count = decide (want = count - 1)) := by unfold Hid expected; rw [if_neg h1, if_neg h2, if_neg h4]
        clear h1 h2 h4
        by_cases h5 : want = count - 1
        · have b5 : (want == count - 1) = true := by simpa using h5
          have hr' : Hid (expected want count = true) := by unfold Hid; rw [hr.out]; simpa using h5
          clear h5
          go_enter Try.func71, Try.ntmps71
          go_wp2
          go_ret
          exact ⟨ret_b (by rw [hr'.out]), rfl⟩
        · have b5 : (want == count - 1) = false := by simpa using h5
          have hr' : Hid (expected want count = false) := by unfold Hid; rw [hr.out]; simpa using h5
          clear h5
          go_enter Try.func71, Try.ntmps71
          go_wp2
          go_ret
          exact ⟨ret_b (by rw [hr'.out]), rfl⟩
theorem from_run (n : Int) (w : World) : (callFunc 102 #[.int .u64 n]).run Try.prog w = .ok (.value (.float .f64 n.toNat)) w := by kernel_rfl
theorem to_run (b : Nat) (w : World) : (callFunc 116 #[.float .f64 b]).run Try.prog w = .ok (.value (.int .u64 b)) w := by kernel_rfl
def nanK : Int := 9221120237041090560
set_option maxRecDepth 100000 in
theorem canon_any (b : Nat) (w : World) : Calls Try.prog 95 #[.float .f64 b] w fun e w' => e = .returned (.float .f64 (canon b)) ∧ w = w' := by
  have hf := fun W => from_run 9221120237041090560 W
  cases hb : isNaN b
  · have hr : Hid (canon b = b) := by unfold Hid canon; rw [hb]; rfl
    unfold isNaN at hb
    go_enter Try.func95, Try.ntmps95
    go_wp2
    go_ret
    exact ⟨by rw [hr.out]; rfl, rfl⟩
  · have hr : Hid (canon b = 9221120237041090560) := by unfold Hid canon; rw [hb]; rfl
    unfold isNaN at hb
    go_enter Try.func95, Try.ntmps95
    go_wp2
    go_ret
    exact ⟨by rw [hr.out]; rfl, rfl⟩
end Go.Proofs.Ytefkhkbkengniaa
