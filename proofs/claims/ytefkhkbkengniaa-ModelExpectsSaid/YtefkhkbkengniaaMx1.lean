/- Contracts: the document's Check, of an append of one event. -/
import Derived.Test.YtefkhkbkengniaaMl2
import Derived.Test.YtefkhkbkengniaaMe3
set_option linter.unusedVariables false
set_option linter.unusedSimpArgs false
namespace Go.Proofs.Ytefkhkbkengniaa
open Go.RowKit Go.Sort
set_option maxHeartbeats 800000 in
theorem r1stream_any (s : ByteArray) (w : World) (hs : s.size ≤ maxLen) : Calls Try.prog 41 #[.string s] w fun e w' => e = .returned (.bool (nameOk s)) ∧ w = w' := by
  unfold maxLen at hs
  by_cases h1 : s.size < 1
  · go_enter Try.func41, Try.ntmps41
    go_wp2
    go_ret
    exact ⟨ret_b (by simp [nameOk]; omega), rfl⟩
  · by_cases h2 : 60 < s.size
    · go_enter Try.func41, Try.ntmps41
      go_wp2
      go_ret
      exact ⟨ret_b (by simp [nameOk]; omega), rfl⟩
    · have hn : Hid (nameOk s = s.data.toList.all okByte) := by
        unfold Hid nameOk
        rw [decide_eq_true (by omega : 1 ≤ s.size), decide_eq_true (by omega : s.size ≤ 60)]
        simp
      go_enter Try.func41, Try.ntmps41
      go_wp2
      go_loop [3] (fun i => ∃ k : Nat, k ≤ s.size ∧ i = .int .i64 k ∧ Hid ((s.data.toList.take k).all okByte = true)) (fun i => s.size - (intOf i).toNat)
      case atStart => exact ⟨0, Nat.zero_le _, rfl, by simp [Hid]⟩
      case round =>
        obtain ⟨k, hk, rfl, hT⟩ := hrel
        by_cases hlt : k < s.size
        · have hb256 : (s[k].toNat : Int) < 256 := by have := s[k].toNat_lt; omega
          have hnext : Hid (okByte s[k] = true → (s.data.toList.take (k + 1)).all okByte = true) := by
            intro q
            rw [all_take k hlt, hT.out, q]
            rfl
          have hend : Hid (okByte s[k] = false → nameOk s = false) := by
            intro q
            rw [hn.out]
            exact all_false (k := k) (by simpa using hlt) q
          by_cases c1 : (s[k].toNat : Int) < 33
          · have hq : Hid (nameOk s = false) := hend.out (by simp only [okByte, decide_eq_true c1]; simp)
            clear hend hnext
            go_wp2
            go_ret
            exact ⟨ret_b (by rw [hq.out]), rfl⟩
          · by_cases c2 : 126 < (s[k].toNat : Int)
            · have hq : Hid (nameOk s = false) := hend.out (by simp only [okByte, decide_eq_true c2]; simp)
              clear hend hnext
              go_wp2
              go_ret
              exact ⟨ret_b (by rw [hq.out]), rfl⟩
            · by_cases c3 : (s[k].toNat : Int) = 64
              · have e3 : ((s[k].toNat : Int) == 64) = true := by simpa using c3
                have hq : Hid (nameOk s = false) := hend.out (by simp only [okByte, c3]; simp)
                clear hend hnext c3
                go_wp2
                go_ret
                exact ⟨ret_b (by rw [hq.out]), rfl⟩
              · have e3 : ((s[k].toNat : Int) == 64) = false := by simpa using c3
                have hq := Lib.hid (hnext.out (by simp only [okByte, decide_eq_false c1, decide_eq_false c2, decide_eq_false c3]; rfl))
                clear hend hnext c3
                go_wp2
                go_round
                case rel => exact ⟨k + 1, hlt, by go_num, hq⟩
                case measure => simp [intOf]; omega
        · have hfin : Hid (nameOk s = true) := by
            have := hT.out
            rw [List.take_of_length_le (by simp; omega)] at this
            unfold Hid
            rw [hn.out, this]
          go_wp2
          go_ret
          exact ⟨ret_b (by rw [hfin.out]), rfl⟩

def putC (n : ByteArray) (ex id : Int) : Cmd := ⟨1, 0, n, ex, [⟨id, ⟨#[116]⟩, ⟨#[]⟩, 0⟩], MetaR.zero⟩
theorem name_t : nameOk ⟨#[116]⟩ = true := by kernel_rfl
theorem putC_check (n : ByteArray) (ex id : Int) (hid : 1 ≤ id) : (putC n ex id).check = if nameOk n then (if expects ex then 0 else 1) else 1 := by
  have hw : within 0 = true := by decide
  have hev : eventsE (putC n ex id).events = 0 := by
    unfold eventsE putC
    simp only [List.length_cons, List.length_nil, List.all_cons, List.all_nil, Bool.and_true, EventR.ok, name_t]
    simp [hid]
    decide
  have hsp : (putC n ex id).spare = false := by
    unfold Cmd.spare putC
    simp
  unfold Cmd.check
  rw [hev, hsp]
  unfold putC
  dsimp only
  rw [if_neg (by rw [hw]; decide)]
  cases nameOk n
  · simp
  · cases expects ex
    · simp
    · simp
theorem putC_ok {n : ByteArray} (hn : n.size ≤ maxLen) (ex id : Int) : CmdOk (putC n ex id) := ⟨hn, fun e he => by simp [putC] at he; subst he; exact ⟨show (⟨#[116]⟩ : ByteArray).size ≤ maxLen by decide, show (⟨#[]⟩ : ByteArray).size ≤ maxLen by decide⟩⟩
set_option maxRecDepth 100000 in
theorem r7valid_any (id : Int) (hid : 1 ≤ id) (w : World) : Calls Try.prog 42 #[.agg #[.int .i64 id, .string ⟨#[116]⟩, .string ⟨#[]⟩, .float .f64 0]] w fun e w' => e = .returned (.bool true) ∧ Only [] w w' := by
  have hs := fun W => r1stream_any ⟨#[116]⟩ W (by decide)
  rw [name_t] at hs
  have HS := Lib.hid hs
  clear hs
  go_enter Try.func42, Try.ntmps42
  go_wp2_with (go_at_call 41; refine (HS.out _).mono ?_; rintro e w' ⟨rfl, rfl⟩)
  go_ret
  exact ⟨rfl, (Only.refl [] w).alloc _⟩
set_option maxRecDepth 100000 in
set_option maxHeartbeats 2000000 in
theorem r7put_any {w : World} {n : ByteArray} {ex id : Int} {g : Nat} (hn : n.size ≤ maxLen) (hid : 1 ≤ id) (hb : Blk w g 43 #[.int .i64 id, .string ⟨#[116]⟩, .string ⟨#[]⟩, .float .f64 0]) :
    Calls Try.prog 18 #[.agg #[.int .i64 1, .int .i64 0, .string n, .int .i64 ex, .slice (some ⟨g, 0, none⟩) 1 1, .int .i64 0, .int .i64 0, .int .i64 0]] w fun e w' => e = .returned (.int .i64 (putC n ex id).check) ∧ Only [] w w' := by
  have HS := Lib.hid (fun W => r1stream_any n W hn)
  have HV := Lib.hid (fun W => r7valid_any id hid W)
  have hch := putC_check n ex id hid
  obtain ⟨W1, hW1⟩ : ∃ W1, W1 = w.alloc (.cells #[.int .i64 1, .int .i64 0, .string n, .int .i64 ex, .slice (some ⟨g, 0, none⟩) 1 1, .int .i64 0, .int .i64 0, .int .i64 0] 35) := ⟨_, rfl⟩
  have hB := Blk.new w 35 #[.int .i64 1, .int .i64 0, .string n, .int .i64 ex, .slice (some ⟨g, 0, none⟩) 1 1, .int .i64 0, .int .i64 0, .int .i64 0]
  have hO1 := (Only.refl [] w).alloc (.cells #[.int .i64 1, .int .i64 0, .string n, .int .i64 ex, .slice (some ⟨g, 0, none⟩) 1 1, .int .i64 0, .int .i64 0, .int .i64 0] 35)
  rw [← hW1] at hB hO1
  have HW := Lib.hid hW1
  clear hW1
  cases hnm : nameOk n with
  | false =>
    rw [hnm] at HS hch
    have HR : Hid ((putC n ex id).check = 1) := by unfold Hid; rw [hch]; rfl
    clear hch hnm
    go_enter Try.func18, Try.ntmps18
    go_wp2_with (go_at_call 41; refine (HS.out _).mono ?_; rintro e w' ⟨rfl, rfl⟩)
    go_ret
    exact ⟨by rw [HR.out]; rfl, (Only.refl [] w).alloc _⟩
  | true =>
    rw [hnm] at HS hch
    have hch2 : (putC n ex id).check = if expects ex then 0 else 1 := by rw [hch]; rfl
    have HR := Lib.hid hch2
    clear hch hch2 hnm
    go_enter Try.func18, Try.ntmps18
    go_wp2_with (go_at_call 41; refine (HS.out _).mono ?_; rintro e w' ⟨rfl, rfl⟩)
    rw [← HW.out]
    go_loopw [3] (fun i wr => ∃ k : Nat, k ≤ 1 ∧ i = .int .i64 k ∧ Only [] W1 wr) (fun i _ => 1 - (intOf i).toNat)
    case atStart => exact ⟨0, by omega, rfl, Only.refl _ _⟩
    case round =>
      obtain ⟨k, hk, rfl, hO⟩ := hrel
      have hb1 := fun i => (hO.blk hB (by simp)).cell i
      have hb2 := fun i => (hO.blk (hO1.blk hb (by simp)) (by simp)).cell i
      have HO := Lib.hid (hO1.trans hO)
      by_cases hk0 : k = 0
      · subst hk0
        go_wp2_with (go_at_call 42; refine (HV.out _).mono ?_; rintro e w' ⟨rfl, ho⟩)
        exact ⟨⟨1, by omega, rfl, hO.trans ho⟩, by simp [intOf]⟩
      · have hk1 : k = 1 := by omega
        subst hk1
        clear hk0
        by_cases e1 : ex = -1
        · subst e1
          go_wp2
          go_ret
          exact ⟨by rw [HR.out]; rfl, HO.out⟩
        · by_cases e2 : ex = -2
          · subst e2
            go_wp2
            go_ret
            exact ⟨by rw [HR.out]; rfl, HO.out⟩
          · by_cases e4 : ex = -4
            · subst e4
              go_wp2
              go_ret
              exact ⟨by rw [HR.out]; rfl, HO.out⟩
            · have b1 : (ex != -1) = true := by rw [bne_iff_ne]; exact e1
              have b2 : (ex != -2) = true := by rw [bne_iff_ne]; exact e2
              have b4 : (ex != -4) = true := by rw [bne_iff_ne]; exact e4
              have hex : expects ex = within ex := by simp [expects, e1, e2, e4]
              by_cases l1 : ex < 0
              · have hx : Hid (expects ex = false) := by unfold Hid; rw [hex]; simp [within]; omega
                clear hex e1 e2 e4
                go_wp2
                go_ret
                exact ⟨by rw [HR.out, hx.out]; rfl, HO.out⟩
              · by_cases l2 : ex > 1099511627776
                · have hx : Hid (expects ex = false) := by unfold Hid; rw [hex]; simp [within]; omega
                  clear hex e1 e2 e4
                  go_wp2
                  go_ret
                  exact ⟨by rw [HR.out, hx.out]; rfl, HO.out⟩
                · have hx : Hid (expects ex = true) := by unfold Hid; rw [hex]; simp [within]; omega
                  clear hex e1 e2 e4
                  go_wp2
                  go_ret
                  exact ⟨by rw [HR.out, hx.out]; rfl, HO.out⟩
end Go.Proofs.Ytefkhkbkengniaa
