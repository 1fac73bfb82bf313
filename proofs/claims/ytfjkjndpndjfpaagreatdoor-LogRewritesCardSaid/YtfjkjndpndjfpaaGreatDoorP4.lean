/- Proved here: contracts of functions and plain laws, part 4 of one proof. Conditions: each theorem names its own. -/
import Derived.Test.YtfjkjndpndjfpaaGreatDoorP3
import Derived.BigQuiet
import Derived.Lib.OwnBridge
import Derived.Laws.OwnMore
/- Contracts: numbers in decimal are read, in the Log seat (XLc5 with other imports). -/
set_option linter.unusedVariables false
set_option linter.unusedSimpArgs false
namespace Go.Proofs.YtfjkjndpndjfpaaGreatDoor
open Go Go.RowKit Go.Sort Go.Lib Go.Shelf
theorem all_take {s : ByteArray} {f : UInt8 → Bool} (k : Nat) (h : k < s.size) : (s.data.toList.take (k + 1)).all f = ((s.data.toList.take k).all f && f s[k]) := by
  rw [List.take_succ_eq_append_getElem (by simpa using h), List.all_append]
  simp
  rfl
theorem all_false {l : List UInt8} {f : UInt8 → Bool} {k : Nat} (h : k < l.length) (hf : f l[k] = false) : l.all f = false := by
  rw [Bool.eq_false_iff]
  intro q
  rw [List.all_eq_true] at q
  have := q l[k] (List.getElem_mem h)
  rw [hf] at this
  cases this
theorem get_toNat {s : ByteArray} {k : Nat} (h : k < s.size) (b : UInt8) : ((s[k].toNat : Int) == (b.toNat : Int)) = decide (s[k] = b) := by
  by_cases q : s[k] = b
  · rw [q]; simp
  · rw [decide_eq_false q, beq_eq_false_iff_ne]
    intro e
    exact q (UInt8.toNat_inj.1 (by omega))
def valN (l : List UInt8) : Nat := l.foldl (fun n b => 10 * n + (b.toNat - 48)) 0
theorem digit_bd {b : UInt8} (h : digitB b = true) : 48 ≤ b.toNat ∧ b.toNat ≤ 57 := by
  unfold digitB at h
  simp at h
  omega
theorem fold_same : ∀ (l : List UInt8) (n : Nat), l.all digitB = true → l.foldl (fun (n : Int) (b : UInt8) => 10 * n + ((b.toNat : Int) - 48)) (n : Int) = ((l.foldl (fun (n : Nat) (b : UInt8) => 10 * n + (b.toNat - 48)) n : Nat) : Int)
  | [], n, _ => rfl
  | b :: l, n, h => by
    rw [List.all_cons, Bool.and_eq_true] at h
    have hb := digit_bd h.1
    rw [List.foldl_cons, List.foldl_cons, ← fold_same l _ h.2]
    congr 1
    omega
theorem val10_N {l : List UInt8} (h : l.all digitB = true) : val10 l = valN l := fold_same l 0 h
theorem fold_lt : ∀ (l : List UInt8) (n m : Nat), l.all digitB = true → n < 10 ^ m → l.foldl (fun (n : Nat) (b : UInt8) => 10 * n + (b.toNat - 48)) n < 10 ^ (m + l.length)
  | [], n, m, _, h => h
  | b :: l, n, m, h, hn => by
    rw [List.all_cons, Bool.and_eq_true] at h
    have hb := digit_bd h.1
    rw [List.foldl_cons, List.length_cons, show m + (l.length + 1) = m + 1 + l.length by omega]
    refine fold_lt l _ (m + 1) h.2 ?_
    rw [Nat.pow_succ]
    omega
theorem valN_lt {l : List UInt8} (h : l.all digitB = true) : valN l < 10 ^ l.length := by
  have := fold_lt l 0 0 h (by decide)
  rw [Nat.zero_add] at this
  exact this
theorem valN_small {l : List UInt8} (h : l.all digitB = true) {k : Nat} (hk : l.length ≤ k) : valN l < 10 ^ k := Nat.lt_of_lt_of_le (valN_lt h) (Nat.pow_le_pow_right (by decide) hk)
theorem valN_snoc (l : List UInt8) (b : UInt8) : valN (l ++ [b]) = 10 * valN l + (b.toNat - 48) := by
  unfold valN
  rw [List.foldl_append]
  rfl
theorem all_takeD {s : ByteArray} {k : Nat} (h : k < s.size) : (s.data.toList.take (k + 1)).all digitB = ((s.data.toList.take k).all digitB && digitB s[k]) := all_take k h
theorem valN_take {s : ByteArray} {k : Nat} (h : k < s.size) : valN (s.data.toList.take (k + 1)) = 10 * valN (s.data.toList.take k) + (s[k].toNat - 48) := by
  rw [List.take_succ_eq_append_getElem (by simpa using h), valN_snoc]
  rfl
/-- The text behind a sign. -/
def magS (s : ByteArray) : ByteArray := ba (magB s.data.toList)
theorem magS_size (s : ByteArray) : (magS s).size ≤ s.size := by
  have e : (magS s).size = (magS s).data.toList.length := by simp
  have e2 : s.data.toList.length = s.size := by simp
  rw [e]
  unfold magS magB
  rw [bts_ba]
  split
  · rw [List.length_drop]; omega
  · omega
def numRet (s : ByteArray) : Int × Int := match numB s.data.toList with
  | some v => (v, 0)
  | none => (0, 1)
theorem numRet_bad {s : ByteArray} (h : shapeB s.data.toList = false ∨ (magB s.data.toList).all digitB = false) : numRet s = (0, 1) := by
  unfold numRet numB
  rcases h with h | h <;> rw [h] <;> simp
theorem numRet_ok {s : ByteArray} (h1 : shapeB s.data.toList = true) (h2 : (magB s.data.toList).all digitB = true) : numRet s = (if negB s.data.toList then -(valN (magB s.data.toList) : Int) else (valN (magB s.data.toList) : Int), 0) := by
  unfold numRet numB
  rw [h1, h2, val10_N h2]
  simp
theorem shape_of (s : ByteArray) : shapeB s.data.toList = !(decide ((magS s).size = 0) || decide (18 < (magS s).size) || (decide ((magS s).data.toList.head? = some 48) && (decide (1 < (magS s).size) || negB s.data.toList))) := by
  have e : (magS s).size = (magB s.data.toList).length := by
    have : (magS s).size = (magS s).data.toList.length := by simp
    rw [this]
    unfold magS
    rw [bts_ba]
  unfold shapeB
  rw [e]
  unfold magS
  rw [bts_ba]
theorem head_get {s : ByteArray} (h : 0 < s.size) : decide (s.data.toList.head? = some 48) = ((s[0].toNat : Int) == 48) := by
  have := get_toNat h 48
  have h48 : ((48 : UInt8).toNat : Int) = 48 := rfl
  rw [h48] at this
  rw [this, List.head?_eq_getElem?, List.getElem?_eq_getElem (by simpa using h)]
  by_cases q : s[0] = 48
  · rw [decide_eq_true q, decide_eq_true]
    rw [← q]
    rfl
  · rw [decide_eq_false q, decide_eq_false]
    intro e
    injection e with e
    exact q e
set_option maxRecDepth 100000 in
set_option maxHeartbeats 4000000 in
theorem number_any (s : ByteArray) (w : World) (hs : s.size ≤ 1000000) : Calls Tryz.prog 61 #[.string s] w fun e w' => e = .returned (.tuple #[.int .i64 (numRet s).1, .int .i64 (numRet s).2]) ∧ w = w' := by
  have h1 := fun W => Tryz.strings_CutPrefix s ⟨#[45]⟩ W
  obtain ⟨d, hd⟩ : ∃ d, d = magS s := ⟨_, rfl⟩
  obtain ⟨p, hp⟩ : ∃ p, p = negB s.data.toList := ⟨_, rfl⟩
  have H1 : Hid (∀ W, Calls Tryz.prog 88 #[.string s, .string ⟨#[45]⟩] W fun e w' => e = .returned (.tuple #[.string d, .bool p]) ∧ w' = W) := by rw [hd, hp]; exact h1
  have hds : d.size ≤ s.size := by rw [hd]; exact magS_size s
  have hsh := shape_of s
  rw [← hd, ← hp] at hsh
  have hbad := fun (h : (d.data.toList).all digitB = false) => numRet_bad (s := s) (.inr (by rw [hd] at h; unfold magS at h; rw [bts_ba] at h; exact h))
  have hok := fun (h1 : shapeB s.data.toList = true) (h : (d.data.toList).all digitB = true) => numRet_ok (s := s) h1 (by rw [hd] at h; unfold magS at h; rw [bts_ba] at h; exact h)
  have hok2 : shapeB s.data.toList = true → (d.data.toList).all digitB = true → numRet s = (if p then -(valN d.data.toList : Int) else (valN d.data.toList : Int), 0) := by
    intro h1 h2
    rw [hok h1 h2, hp, hd]
    unfold magS
    rw [bts_ba]
  clear h1 hd hp hok
  obtain ⟨r, hr⟩ : ∃ r, r = numRet s := ⟨_, rfl⟩
  rw [← hr] at hbad hok2 ⊢
  have hb0 : shapeB s.data.toList = false → r = (0, 1) := fun h => by rw [hr]; exact numRet_bad (.inl h)
  clear hr
  obtain ⟨r1, r2⟩ := r
  have HB := Lib.hid hbad
  have HO := Lib.hid hok2
  have HB0 := Lib.hid hb0
  clear hbad hok2 hb0
  by_cases c0 : d.size = 0
  · have := HB0.out (by rw [hsh, decide_eq_true c0]; rfl)
    obtain ⟨rfl, rfl⟩ : r1 = 0 ∧ r2 = 1 := by injection this with a b; exact ⟨a, b⟩
    clear hsh HB HO HB0 this
    go_enter Tryz.func61, Tryz.ntmps61
    go_wp2_with (go_at_call 88; refine (H1.out _).mono ?_; rintro e w1 ⟨rfl, rfl⟩)
    go_ret2
    exact ⟨rfl, rfl⟩
  · by_cases c1 : 18 < d.size
    · have := HB0.out (by rw [hsh, decide_eq_true c1]; simp)
      obtain ⟨rfl, rfl⟩ : r1 = 0 ∧ r2 = 1 := by injection this with a b; exact ⟨a, b⟩
      clear hsh HB HO HB0 this
      go_enter Tryz.func61, Tryz.ntmps61
      go_wp2_with (go_at_call 88; refine (H1.out _).mono ?_; rintro e w1 ⟨rfl, rfl⟩)
      go_ret2
      exact ⟨rfl, rfl⟩
    · have hpos : 0 < d.size := by omega
      have hh := head_get hpos
      rw [hh, decide_eq_false c0, decide_eq_false c1] at hsh
      have hb256 : (d[0].toNat : Int) < 256 := by have := d[0].toNat_lt; omega
      have x0 : ((d.size : Int) == 0) = false := by rw [beq_eq_false_iff_ne]; omega
      have x1 : decide ((18 : Int) < (d.size : Int)) = false := decide_eq_false (by omega)
      cases hz : ((d[0].toNat : Int) == 48) with
      | true =>
        by_cases m1 : 1 < d.size
        · have hrr := HB0.out (by rw [hsh]; simp_all)
          obtain ⟨rfl, rfl⟩ : r1 = 0 ∧ r2 = 1 := by injection hrr with a b; exact ⟨a, b⟩
          clear hsh HB HO HB0 hrr hh
          go_enter Tryz.func61, Tryz.ntmps61
          go_wp2_with (go_at_call 88; refine (H1.out _).mono ?_; rintro e w1 ⟨rfl, rfl⟩)
          go_ret2
          exact ⟨rfl, rfl⟩
        · cases p with
          | true =>
            have hrr := HB0.out (by rw [hsh]; simp_all)
            obtain ⟨rfl, rfl⟩ : r1 = 0 ∧ r2 = 1 := by injection hrr with a b; exact ⟨a, b⟩
            clear hsh HB HO HB0 hrr hh
            go_enter Tryz.func61, Tryz.ntmps61
            go_wp2_with (go_at_call 88; refine (H1.out _).mono ?_; rintro e w1 ⟨rfl, rfl⟩)
            go_ret2
            exact ⟨rfl, rfl⟩
          | false =>
            have HSh : Hid (shapeB s.data.toList = true) := by unfold Hid; rw [hsh]; simp_all
            clear hsh HB0 hh
            go_enter Tryz.func61, Tryz.ntmps61
            go_wp2_with (go_at_call 88; refine (H1.out _).mono ?_; rintro e w1 ⟨rfl, rfl⟩)
            go_loop [6, 36] (fun a i => ∃ k : Nat, k ≤ d.size ∧ i = .int .i64 k ∧ a = .int .i64 (valN (d.data.toList.take k) : Int) ∧ Hid ((d.data.toList.take k).all digitB = true)) (fun _ i => d.size - (intOf i).toNat)
            case atStart => exact ⟨0, Nat.zero_le _, rfl, rfl, by simp [Hid]⟩
            case round =>
              obtain ⟨k, hk, rfl, rfl, hT⟩ := hrel
              by_cases hlt : k < d.size
              · have hb2 : (d[k].toNat : Int) < 256 := by have := d[k].toNat_lt; omega
                have hall := all_takeD hlt
                have hbadk : digitB d[k] = false → r1 = 0 ∧ r2 = 1 := fun h => by
                  have := HB.out (all_false (k := k) (by simpa using hlt) h)
                  injection this with a b
                  exact ⟨a, b⟩
                by_cases q1 : (d[k].toNat : Int) < 48
                · obtain ⟨rfl, rfl⟩ := hbadk (by unfold digitB; rw [decide_eq_true q1]; rfl)
                  clear hall hbadk HB HO hT
                  go_wp2
                  go_ret2
                  exact ⟨rfl, rfl⟩
                · by_cases q2 : 57 < (d[k].toNat : Int)
                  · obtain ⟨rfl, rfl⟩ := hbadk (by unfold digitB; rw [decide_eq_true q2]; simp)
                    clear hall hbadk HB HO hT
                    go_wp2
                    go_ret2
                    exact ⟨rfl, rfl⟩
                  · have hdk : digitB d[k] = true := by unfold digitB; rw [decide_eq_false q1, decide_eq_false q2]; rfl
                    rw [hT.out, hdk] at hall
                    have hv := valN_take hlt
                    have hbd := valN_small (k := 17) hT.out (by rw [List.length_take]; omega)
                    obtain ⟨n, hn⟩ : ∃ n, n = valN (d.data.toList.take k) := ⟨_, rfl⟩
                    rw [← hn] at hv hbd ⊢
                    have hbd : n < 100000000000000000 := hbd
                    have HN : Hid ((10 * (n : Int)) + ((d[k].toNat : Int) - 48) = ((valN (d.data.toList.take (k + 1)) : Nat) : Int)) := by
                      unfold Hid
                      rw [hv]
                      omega
                    have HA := Lib.hid hall
                    have e1 := IntWalk.u8_in ((d[k].toNat : Int) - 48) ⟨by omega, by omega⟩
                    have e2 := IntWalk.i64_in ((d[k].toNat : Int) - 48) ⟨by omega, by omega⟩
                    have e3 := IntWalk.i64_in (10 * (n : Int)) ⟨by omega, by omega⟩
                    have e4 := IntWalk.i64_in (10 * (n : Int) + ((d[k].toNat : Int) - 48)) ⟨by omega, by omega⟩
                    clear hall hbadk HB HO hT hv hn hdk
                    go_wp2
                    go_round
                    case rel => exact ⟨k + 1, hlt, by go_num, by rw [← HN.out], HA⟩
                    case measure => simp [intOf]; omega
              · have hall := hT.out
                rw [List.take_of_length_le (by simp; omega)] at hall ⊢
                have hrr := HO.out HSh.out hall
                have hbd := valN_small (k := 18) hall (by simp; omega)
                obtain ⟨n, hn⟩ : ∃ n, n = valN d.data.toList := ⟨_, rfl⟩
                rw [← hn] at hrr hbd ⊢
                have hbd : n < 1000000000000000000 := hbd
                have e1 := IntWalk.i64_in (-(n : Int)) ⟨by omega, by omega⟩
                obtain ⟨rfl, rfl⟩ : r1 = _ ∧ r2 = 0 := by injection hrr with a b; exact ⟨a, b⟩
                clear hall HB HO hT hrr hn
                go_wp2
                go_ret2
                exact ⟨rfl, rfl⟩
      | false =>
        cases p with
        | true =>
          have HSh : Hid (shapeB s.data.toList = true) := by unfold Hid; rw [hsh]; simp_all
          clear hsh HB0 hh
          go_enter Tryz.func61, Tryz.ntmps61
          go_wp2_with (go_at_call 88; refine (H1.out _).mono ?_; rintro e w1 ⟨rfl, rfl⟩)
          go_loop [6, 36] (fun a i => ∃ k : Nat, k ≤ d.size ∧ i = .int .i64 k ∧ a = .int .i64 (valN (d.data.toList.take k) : Int) ∧ Hid ((d.data.toList.take k).all digitB = true)) (fun _ i => d.size - (intOf i).toNat)
          case atStart => exact ⟨0, Nat.zero_le _, rfl, rfl, by simp [Hid]⟩
          case round =>
            obtain ⟨k, hk, rfl, rfl, hT⟩ := hrel
            by_cases hlt : k < d.size
            · have hb2 : (d[k].toNat : Int) < 256 := by have := d[k].toNat_lt; omega
              have hall := all_takeD hlt
              have hbadk : digitB d[k] = false → r1 = 0 ∧ r2 = 1 := fun h => by
                have := HB.out (all_false (k := k) (by simpa using hlt) h)
                injection this with a b
                exact ⟨a, b⟩
              by_cases q1 : (d[k].toNat : Int) < 48
              · obtain ⟨rfl, rfl⟩ := hbadk (by unfold digitB; rw [decide_eq_true q1]; rfl)
                clear hall hbadk HB HO hT
                go_wp2
                go_ret2
                exact ⟨rfl, rfl⟩
              · by_cases q2 : 57 < (d[k].toNat : Int)
                · obtain ⟨rfl, rfl⟩ := hbadk (by unfold digitB; rw [decide_eq_true q2]; simp)
                  clear hall hbadk HB HO hT
                  go_wp2
                  go_ret2
                  exact ⟨rfl, rfl⟩
                · have hdk : digitB d[k] = true := by unfold digitB; rw [decide_eq_false q1, decide_eq_false q2]; rfl
                  rw [hT.out, hdk] at hall
                  have hv := valN_take hlt
                  have hbd := valN_small (k := 17) hT.out (by rw [List.length_take]; omega)
                  obtain ⟨n, hn⟩ : ∃ n, n = valN (d.data.toList.take k) := ⟨_, rfl⟩
                  rw [← hn] at hv hbd ⊢
                  have hbd : n < 100000000000000000 := hbd
                  have HN : Hid ((10 * (n : Int)) + ((d[k].toNat : Int) - 48) = ((valN (d.data.toList.take (k + 1)) : Nat) : Int)) := by
                    unfold Hid
                    rw [hv]
                    omega
                  have HA := Lib.hid hall
                  have e1 := IntWalk.u8_in ((d[k].toNat : Int) - 48) ⟨by omega, by omega⟩
                  have e2 := IntWalk.i64_in ((d[k].toNat : Int) - 48) ⟨by omega, by omega⟩
                  have e3 := IntWalk.i64_in (10 * (n : Int)) ⟨by omega, by omega⟩
                  have e4 := IntWalk.i64_in (10 * (n : Int) + ((d[k].toNat : Int) - 48)) ⟨by omega, by omega⟩
                  clear hall hbadk HB HO hT hv hn hdk
                  go_wp2
                  go_round
                  case rel => exact ⟨k + 1, hlt, by go_num, by rw [← HN.out], HA⟩
                  case measure => simp [intOf]; omega
            · have hall := hT.out
              rw [List.take_of_length_le (by simp; omega)] at hall ⊢
              have hrr := HO.out HSh.out hall
              have hbd := valN_small (k := 18) hall (by simp; omega)
              obtain ⟨n, hn⟩ : ∃ n, n = valN d.data.toList := ⟨_, rfl⟩
              rw [← hn] at hrr hbd ⊢
              have hbd : n < 1000000000000000000 := hbd
              have e1 := IntWalk.i64_in (-(n : Int)) ⟨by omega, by omega⟩
              obtain ⟨rfl, rfl⟩ : r1 = _ ∧ r2 = 0 := by injection hrr with a b; exact ⟨a, b⟩
              clear hall HB HO hT hrr hn
              go_wp2
              go_ret2
              exact ⟨rfl, rfl⟩
        | false =>
          have HSh : Hid (shapeB s.data.toList = true) := by unfold Hid; rw [hsh]; simp_all
          clear hsh HB0 hh
          go_enter Tryz.func61, Tryz.ntmps61
          go_wp2_with (go_at_call 88; refine (H1.out _).mono ?_; rintro e w1 ⟨rfl, rfl⟩)
          go_loop [6, 36] (fun a i => ∃ k : Nat, k ≤ d.size ∧ i = .int .i64 k ∧ a = .int .i64 (valN (d.data.toList.take k) : Int) ∧ Hid ((d.data.toList.take k).all digitB = true)) (fun _ i => d.size - (intOf i).toNat)
          case atStart => exact ⟨0, Nat.zero_le _, rfl, rfl, by simp [Hid]⟩
          case round =>
            obtain ⟨k, hk, rfl, rfl, hT⟩ := hrel
            by_cases hlt : k < d.size
            · have hb2 : (d[k].toNat : Int) < 256 := by have := d[k].toNat_lt; omega
              have hall := all_takeD hlt
              have hbadk : digitB d[k] = false → r1 = 0 ∧ r2 = 1 := fun h => by
                have := HB.out (all_false (k := k) (by simpa using hlt) h)
                injection this with a b
                exact ⟨a, b⟩
              by_cases q1 : (d[k].toNat : Int) < 48
              · obtain ⟨rfl, rfl⟩ := hbadk (by unfold digitB; rw [decide_eq_true q1]; rfl)
                clear hall hbadk HB HO hT
                go_wp2
                go_ret2
                exact ⟨rfl, rfl⟩
              · by_cases q2 : 57 < (d[k].toNat : Int)
                · obtain ⟨rfl, rfl⟩ := hbadk (by unfold digitB; rw [decide_eq_true q2]; simp)
                  clear hall hbadk HB HO hT
                  go_wp2
                  go_ret2
                  exact ⟨rfl, rfl⟩
                · have hdk : digitB d[k] = true := by unfold digitB; rw [decide_eq_false q1, decide_eq_false q2]; rfl
                  rw [hT.out, hdk] at hall
                  have hv := valN_take hlt
                  have hbd := valN_small (k := 17) hT.out (by rw [List.length_take]; omega)
                  obtain ⟨n, hn⟩ : ∃ n, n = valN (d.data.toList.take k) := ⟨_, rfl⟩
                  rw [← hn] at hv hbd ⊢
                  have hbd : n < 100000000000000000 := hbd
                  have HN : Hid ((10 * (n : Int)) + ((d[k].toNat : Int) - 48) = ((valN (d.data.toList.take (k + 1)) : Nat) : Int)) := by
                    unfold Hid
                    rw [hv]
                    omega
                  have HA := Lib.hid hall
                  have e1 := IntWalk.u8_in ((d[k].toNat : Int) - 48) ⟨by omega, by omega⟩
                  have e2 := IntWalk.i64_in ((d[k].toNat : Int) - 48) ⟨by omega, by omega⟩
                  have e3 := IntWalk.i64_in (10 * (n : Int)) ⟨by omega, by omega⟩
                  have e4 := IntWalk.i64_in (10 * (n : Int) + ((d[k].toNat : Int) - 48)) ⟨by omega, by omega⟩
                  clear hall hbadk HB HO hT hv hn hdk
                  go_wp2
                  go_round
                  case rel => exact ⟨k + 1, hlt, by go_num, by rw [← HN.out], HA⟩
                  case measure => simp [intOf]; omega
            · have hall := hT.out
              rw [List.take_of_length_le (by simp; omega)] at hall ⊢
              have hrr := HO.out HSh.out hall
              have hbd := valN_small (k := 18) hall (by simp; omega)
              obtain ⟨n, hn⟩ : ∃ n, n = valN d.data.toList := ⟨_, rfl⟩
              rw [← hn] at hrr hbd ⊢
              have hbd : n < 1000000000000000000 := hbd
              have e1 := IntWalk.i64_in (-(n : Int)) ⟨by omega, by omega⟩
              obtain ⟨rfl, rfl⟩ : r1 = _ ∧ r2 = 0 := by injection hrr with a b; exact ⟨a, b⟩
              clear hall HB HO hT hrr hn
              go_wp2
              go_ret2
              exact ⟨rfl, rfl⟩
end Go.Proofs.YtfjkjndpndjfpaaGreatDoor
/- Contracts: a log's last part (chunklog last). -/
set_option linter.unusedVariables false
set_option linter.unusedSimpArgs false
namespace Go.Proofs.YtfjkjndpndjfpaaGreatDoor
open Go Go.RowKit Go.Sort
section
variable {w : World} {lb db n cap : Nat} {pre : ByteArray} {size syn mark err : Int} {A : Option Addr}
theorem jlast_none (h : Blk w lb 50 #[.pointer (some ⟨db, 0, none⟩), .string pre, .int .i64 size, .slice A 0 cap, .int .i64 syn, .int .i64 mark, .int .i64 err]) :
    Calls Tryz.prog 71 #[.pointer (some ⟨lb, 0, none⟩)] w fun e w' => e = .returned (.pointer none) ∧ w' = w := by
  have c3 := h.cell 3
  clear h
  go_enter Tryz.func71, Tryz.ntmps71
  go_wp2
  go_ret
  exact ⟨rfl, rfl⟩
theorem jlast_some {g : Nat} (h : Blk w lb 50 #[.pointer (some ⟨db, 0, none⟩), .string pre, .int .i64 size, .slice (some ⟨g, 0, none⟩) (n + 1) cap, .int .i64 syn, .int .i64 mark, .int .i64 err]) (hn : n ≤ 1000000) :
    Calls Tryz.prog 71 #[.pointer (some ⟨lb, 0, none⟩)] w fun e w' => e = .returned (.pointer (some ⟨g, n * 3, none⟩)) ∧ Only [] w w' := by
  have hb := h
  have c3 := h.cell 3
  have hG : ∀ e os, (grow (redrawn w e) os).cell? ⟨lb, 3, none⟩ = some (.slice (some ⟨g, 0, none⟩) (n + 1) cap) := fun e os => ((Only.regrown [] w e os).blk hb (by simp)).cell 3
  have e1 := IntWalk.i64_in (((n + 1 : Nat) : Int) - 1) ⟨by omega, by omega⟩
  have hd : decide (((n + 1 : Nat) : Int) = 0) = false := decide_eq_false (by omega)
  clear h hb
  go_enter Tryz.func71, Tryz.ntmps71
  go_wp2_with fail
  refine wp_region_quiet_below (by kernel_rfl) (by kernel_rfl) ?_
  repeat (go_big_quiet_step (fail))
  refine wpQuiet_nil ?_
  rintro _ ⟨p, rfl⟩
  have hO0 : Only [] w (grow (redrawn w p.d) p.os) := Only.regrown [] w p.d p.os
  go_wp2
  go_ret
  exact ⟨by simp, hO0⟩
end
end Go.Proofs.YtfjkjndpndjfpaaGreatDoor
/- Contracts: strings.Repeat of the text 0, at most six times. -/
set_option linter.unusedVariables false
set_option linter.unusedSimpArgs false
namespace Go.Proofs.YtfjkjndpndjfpaaGreatDoor
open Go Go.RowKit Go.Sort
set_option maxRecDepth 100000 in
theorem repeat0_any {w : World} (k : Nat) (hk : k ≤ 6) : Calls Tryz.prog 82 #[.string ⟨#[48]⟩, .int .i64 k] w fun e w' => e = .returned (.string ⟨(List.replicate k 48).toArray⟩) ∧ w' = w := by
  have hm := Tryz.bits_Mul 1 k (by omega) (by omega)
  have HM := Lib.hid hm
  clear hm
  obtain rfl | rfl | rfl | rfl | rfl | rfl | rfl : k = 0 ∨ k = 1 ∨ k = 2 ∨ k = 3 ∨ k = 4 ∨ k = 5 ∨ k = 6 := by omega
  all_goals
    go_enter Tryz.func82, Tryz.ntmps82
    go_wp2_with (first
      | (go_at_call 102; refine (HM.out _).mono ?_; rintro e1 w1 ⟨rfl, rfl⟩)
      | (go_at_call 59; refine (Tryz.strings_HasPrefix _ _ _).mono ?_; rintro e2 w2 ⟨rfl, rfl⟩))
  all_goals (go_ret; exact ⟨rfl, rfl⟩)
end Go.Proofs.YtfjkjndpndjfpaaGreatDoor
/- Contracts: the name of a chunk (chunklog name). -/
set_option linter.unusedVariables false
set_option linter.unusedSimpArgs false
namespace Go.Proofs.YtfjkjndpndjfpaaGreatDoor
open Go Go.RowKit Go.Sort
set_option maxRecDepth 100000 in
set_option maxHeartbeats 1000000 in
theorem jname_any {w : World} {lb db : Nat} {pre : ByteArray} {size syn mark err : Int} {pv : Value}
    (h : Blk w lb 50 #[.pointer (some ⟨db, 0, none⟩), .string pre, .int .i64 size, pv, .int .i64 syn, .int .i64 mark, .int .i64 err]) (hp : pre.size ≤ 1000) (ht : Tab w) (k : Int) (h0 : -9223372036854775808 ≤ k) (h1 : k ≤ 9223372036854775807) :
    Calls Tryz.prog 50 #[.pointer (some ⟨lb, 0, none⟩), .int .i64 k] w fun e w' => e = .returned (.string (nameK pre k)) ∧ Only [] w w' := by
  have hD := digits_any k ht h0 h1
  have hsz := itoa_size h0 h1
  have hsl : (ba (Lib.itoa k)).size = (Lib.itoa k).length := baL_size _
  have hn : nameK pre k = (pre ++ baL (List.replicate (6 - (ba (Lib.itoa k)).size) 48)) ++ ba (Lib.itoa k) := by
    rw [hsl]
    exact (ByteArray.append_assoc).symm
  obtain ⟨R, hR⟩ : ∃ R, nameK pre k = R := ⟨_, rfl⟩
  rw [hR] at hn ⊢
  obtain ⟨t, ht0⟩ : ∃ t, ba (Lib.itoa k) = t := ⟨_, rfl⟩
  rw [ht0] at hD hsz hn
  have hr := fun W => repeat0_any (w := W) (6 - t.size) (by omega)
  have hz : (baL (List.replicate (6 - t.size) 48)).size = 6 - t.size := by rw [baL_size]; simp
  have hr : ∀ W, Calls Tryz.prog 82 #[.string ⟨#[48]⟩, .int .i64 ((6 - t.size : Nat) : Int)] W fun e w' => e = .returned (.string (baL (List.replicate (6 - t.size) 48))) ∧ w' = W := hr
  obtain ⟨z, hz0⟩ : ∃ z, baL (List.replicate (6 - t.size) 48) = z := ⟨_, rfl⟩
  rw [hz0] at hr hn hz
  have e1 := IntWalk.i64_in (6 - (t.size : Int)) ⟨by omega, by omega⟩
  have e2 : max (6 - (t.size : Int)) 0 = ((6 - t.size : Nat) : Int) := by omega
  obtain ⟨m, hm⟩ : ∃ m, 6 - t.size = m := ⟨_, rfl⟩
  rw [hm] at hr e2 hz
  have HD := Lib.hid hD
  have HN := Lib.hid hn
  have HR := Lib.hid hr
  have s1 : (pre ++ z).size = pre.size + m := by rw [ByteArray.size_append, hz]
  have HB := Lib.hid h
  clear hD hn hr hR ht0 hsl h hz0
  go_enter Tryz.func50, Tryz.ntmps50
  go_wp2_with (go_at_call 81; refine HD.out.mono ?_; rintro e3 w1 ⟨rfl, k1⟩)
  have d1 := Within.cell (S := []) ((k1.blk HB.out (by simp)).cell 1) (by simp)
  refine wp_region_in [] [0, 1, 2, 3, 4, 5, 6, 7, 10] [8, 9, 11] [12] (by kernel_rfl) (by kernel_rfl) (by intro c d u a w h; cases d <;> exact h) ?_
  show wpQuiet _ _ _ _ [_, _, _, _, _, _, _, _, _] _
  repeat (go_big_quiet_step (fail))
  refine wpQuiet_nil ?_
  show wpList _ _ _ [_] _ _
  go_wp2_with (go_at_call 82; refine (HR.out _).mono ?_; rintro e4 w2 ⟨rfl, rfl⟩)
  refine check_of (S := []) (Only.refl _ _).drew ?_
  show wpList _ _ _ [_] _ _
  go_wp2_with fail
  refine check_of (S := []) (Only.refl _ _).drew ?_
  show wpList _ _ _ [_] _ _
  go_wp2_with fail
  refine check_of (S := []) (Only.refl _ _).drew ?_
  show wpList _ _ _ [_] _ _
  go_wp2
  go_ret
  rw [HN.out]
  exact ⟨rfl, k1.drew⟩
end Go.Proofs.YtfjkjndpndjfpaaGreatDoor
/- Contracts: List. -/
namespace Go.Proofs.YtfjkjndpndjfpaaGreatDoor
open Go.RowKit Go.Sort Go.Lib Go.Shelf
/-- What the closure of List asks. -/
def notPre (p : ByteArray) (s : ByteArray) : Bool := !(p.data.toList.isPrefixOf s.data.toList)
theorem notPre_at (p : ByteArray) (B : Nat) (W : World) (hc : W.cell? ⟨B, 0, none⟩ = some (.string p)) (x : ByteArray) :
    FnGives Tryz.prog 58 #[.pointer (some ⟨B, 0, none⟩)] #[.string x] (.bool (notPre p x)) W := by
  show Calls Tryz.prog 58 #[.string x, .pointer (some ⟨B, 0, none⟩)] W _
  go_enter Tryz.func58, Tryz.ntmps58
  go_wp2_with (go_at_call 59; refine (Tryz.strings_HasPrefix x p W).mono ?_; rintro e w1 ⟨rfl, rfl⟩)
  go_ret
  exact ⟨rfl, 0, rfl⟩
theorem only_putRow (w : World) (g q : Nat) (d : Array ByteArray) : Only [g] w (putRow Value.string (Sort.ahead w q) g 0 d) :=
  ⟨rfl, rfl, rfl, by simp [putRow, mapBlock, Sort.ahead], fun k _ hk => by
    have : g ≠ k := by simp at hk; omega
    simp [putRow, mapBlock, Sort.ahead, Array.getElem?_modify, this]⟩
theorem oneStr : OneCell Value.string := fun _ => rfl
theorem zeroStr (w : World) : (zeroValue 9).run Tryz.prog w = .ok (.string ⟨#[]⟩) w := by kernel_rfl
theorem enterList1 : ∀ args w, (callFunc 58 args).run Tryz.prog w = .ok (.enter 58 args) w := enters_of Tryz.func58 (by kernel_rfl) rfl
theorem idx_nil (w : World) (lb : Array Value) : Calls Tryz.prog 86 #[.slice none 0 0, .func (.func 58) #[] lb] w fun e w' => e = .returned (.int .i64 (-1)) ∧ Only [] w w' := by
  go_enter Tryz.func86, Tryz.ntmps86
  go_wp2
  go_loop [8] (fun i => i = .int .i64 0) (fun _ => 0)
  case atStart => rfl
  case round =>
    subst hrel
    go_wp2
    go_ret
    exact ⟨rfl, Only.refl _ _⟩
theorem del_nil (w : World) (lb : Array Value) : Calls Tryz.prog 57 #[.slice none 0 0, .func (.func 58) #[] lb] w fun e w' => e = .returned (.slice none 0 0) ∧ Only [] w w' := by
  go_enter Tryz.func57, Tryz.ntmps57
  go_wp2_with (go_at_call 86; refine (idx_nil _ _).mono ?_; rintro e w1 ⟨rfl, h1⟩)
  go_ret
  exact ⟨rfl, h1⟩
theorem filter_not (p : ByteArray) (l : List ByteArray) : (l.filter fun x => !notPre p x) = l.filter (fun s => p.data.toList.isPrefixOf s.data.toList) := by
  congr 1
  funext x
  simp [notPre]
/-- DeleteFunc with List's closure, whatever the slice owned. -/
theorem del_any {w : World} {base B : Nat} {v : Value} {ns : List ByteArray} (p : ByteArray) (hown : w.ownsRow base 9 1 v ns.length (strs ns)) (hc : w.cell? ⟨B, 0, none⟩ = some (.string p)) (hB : B < base) (hl : ns.length ≤ 1000000) :
    Calls Tryz.prog 57 #[v, .func (.func 58) #[] #[.pointer (some ⟨B, 0, none⟩)]] w fun e w' => ∃ v', e = .returned v' ∧
      w'.ownsRow base 9 1 v' (ns.filter fun x => !notPre p x).length (strs (ns.filter fun x => !notPre p x)) ∧ ∃ S, Only S w w' ∧ ∀ k ∈ S, base ≤ k := by
  by_cases hv : v = .slice none 0 0
  · subst hv
    have hn : ns = [] := by
      rcases hown.2 with ⟨_, q⟩ | ⟨g, cap, cur, q, _⟩
      · simpa using q
      · cases q
    subst hn
    exact (del_nil w _).mono fun e w' ⟨h1, h2⟩ => ⟨_, h1, ⟨rfl, .inl ⟨rfl, rfl⟩⟩, [], h2, by simp⟩
  · obtain ⟨g, cap, rfl, hb, hg, hn, hm, hz, hH⟩ := holds_of_ownsRow (enc := Value.string) (zs := ns) hown hv
    have hBl : B < w.heap.size := block_lt_of_cell hc
    have := AnyE.slices_DeleteFunc Tryz.delFunc Value.string oneStr (notPre p) 58 #[.pointer (some ⟨B, 0, none⟩)] enterList1 ⟨#[]⟩ zeroStr g 0 cap ns.toArray w
      (fun W x hb' => notPre_at p B W ((hb'.cell (p := ⟨B, 0, none⟩) hBl).trans hc) x)
      (fun n os dk x _ => notPre_at p B _ (by
        unfold sortWorld
        rw [cell?_grow _ _ _ (by show B < (putRow _ _ _ _ _).heap.size; rw [size_putRow]; exact hBl), cell?_putRow_other _ _ g 0 _ _ (Or.inl (by show B ≠ g; omega))]
        exact hc) x) hH (by simp; omega) (by simpa using hn)
    rw [show ns.toArray.size = ns.length by simp] at this
    refine Calls.mono this ?_
    rintro e w' ⟨rfl, q, rfl⟩
    simp only []
    have hle : (ns.filter fun x => !notPre p x).length ≤ ns.length := List.length_filter_le _ _
    have hr := ownsRow_putRow (enc := Value.string) (q := q) (ys := (ns.filter fun x => !notPre p x) ++ List.replicate (ns.length - (ns.filter fun x => !notPre p x).length) ⟨#[]⟩) (k := (ns.filter fun x => !notPre p x).length) hown (by simp; omega) hle
    rw [List.take_left] at hr
    exact ⟨_, rfl, hr, [g], only_putRow w g q _, by simp; omega⟩
/-- List, with the power on or off. -/
theorem list_any {w : World} {db mb : Nat} {d : DS} {kv : Value} {M : Nat} (h : DiskAt w db mb d kv) (hk : Fs d.fs M) (p : ByteArray) :
    Calls Tryz.prog 27 #[.pointer (some ⟨db, 0, none⟩), .string p] w fun e w' => ∃ v, e = .returned v ∧ Slc w' 1 v (d.list p).length (strs (d.list p)) ∧ (∀ g, v.ownBlock = some g → w.heap.size ≤ g) ∧ Only [] w w' := by
  have hf := hk.few
  have hnl : d.names.length ≤ 1000000 := by have : d.names.length = d.fs.length := by simp [DS.names]
                                            omega
  have c0 : ∀ o, (w.alloc o).cell? ⟨db, 0, none⟩ = some (.bool d.on) := fun o => (World.cell?_alloc_lt w o _ h.blk.lt).trans (h.blk.cell 0)
  cases ho : d.on
  · have hl : d.list p = [] := by simp [DS.list, ho]
    rw [hl]
    go_enter Tryz.func27, Tryz.ntmps27
    go_wp2_with (go_at_call 26; refine (on_any (h.only0 ((Only.refl [] w).alloc _))).mono ?_; rintro e w1 ⟨rfl, rfl⟩; rw [ho])
    go_ret
    exact ⟨_, rfl, Slc.nil _ 1, (by intro g hg; cases hg), (Only.refl [] w).alloc _⟩
  · have hl : d.list p = d.names.filter fun x => !notPre p x := by rw [filter_not]; simp [DS.list, ho]
    rw [hl]
    go_enter Tryz.func27, Tryz.ntmps27
    go_wp2_with (first
      | (go_at_call 26; refine (on_any (h.only0 ((Only.refl [] w).alloc _))).mono ?_; rintro e w1 ⟨rfl, rfl⟩; rw [ho])
      | (go_at_call 47; refine (names_own (h.only0 ((Only.refl [] w).alloc _)) hk).mono ?_; rintro e w2 ⟨v2, base, rfl, hrow, hb2, ho2⟩; have hB : w2.cell? ⟨w.heap.size, 0, none⟩ = some (.string p) := (ho2.cell (by simp) (by simp)).trans ((Blk.new w _ _).cell 0))
      | (go_at_call 57; refine (del_any p hrow hB (by simp at hb2; omega) hnl).mono ?_; rintro e w3 ⟨v3, rfl, hr3, S, ho3, hS3⟩))
    go_ret
    simp at hb2
    obtain ⟨q1, q2⟩ := Slc.of_own hr3
    refine ⟨v3, rfl, q1, fun g hg => ?_, (((Only.refl [] w).alloc _).trans ho2).step ho3 (fun k hk => .inr ?_)⟩
    · have := (q2 g hg).1
      omega
    · have := hS3 k hk
      omega
theorem list_nil (w : World) (p : ByteArray) : Calls Tryz.prog 27 #[.pointer none, .string p] w fun e w' => e = .returned (.slice none 0 0) ∧ Only [] w w' := by
  go_enter Tryz.func27, Tryz.ntmps27
  go_wp2_with (go_at_call 26; refine (on_nil _).mono ?_; rintro e w1 ⟨rfl, rfl⟩)
  go_ret
  exact ⟨rfl, (Only.refl [] w).alloc _⟩
end Go.Proofs.YtfjkjndpndjfpaaGreatDoor
/- Disks, plain: the numbers of a disk stay small. (Turned from the disk seat's own text.) No program is named. -/
set_option linter.unusedVariables false
set_option linter.unusedSimpArgs false
namespace Go.Proofs.YtfjkjndpndjfpaaGreatDoor
open Go.RowKit Go.Sort
namespace DS
theorem tick_on_armed {d : DS} (hg : d.goes = false) : d.done = d.tick := by unfold done; rw [if_neg (by simp [hg])]
theorem keep_crash (d : DS) (k : List Int) : (d.crash k).keep = d.keep ∨ (d.crash k).keep = [] := by
  unfold crash; split
  · exact .inr rfl
  · exact .inl rfl
theorem keep_done (d : DS) : d.done.keep = d.keep ∨ d.done.keep = [] := by
  unfold done; split
  · rcases keep_crash d.tick d.keep with q | q
    · exact .inl (q.trans (tick_keep d))
    · exact .inr q
  · exact .inl (tick_keep d)
theorem doneE_cases (d : DS) : (d.doneE = 0 ∧ d.done = d.tick) ∨ (d.doneE = 14 ∧ d.done = d.tick.crash d.keep) := by
  unfold doneE done
  cases d.goes
  · exact .inl ⟨rfl, rfl⟩
  · exact .inr ⟨rfl, rfl⟩
/-- Two disks keep alike much for a crash. -/
def KeepLe (d d' : DS) : Prop := d'.keep.length ≤ d.keep.length
theorem KeepLe.of {d d' : DS} (h : d'.keep = d.keep ∨ d'.keep = []) : KeepLe d d' := by
  unfold KeepLe
  rcases h with h | h <;> rw [h] <;> simp
theorem append_ok {d : DS} {M : Nat} (h : d.Ok M) (n data : ByteArray) : (d.append n data).2.Ok (M + data.size) ∧ KeepLe d (d.append n data).2 := by
  have hm : d.Ok (M + data.size) := ⟨h.left, h.files, Nat.le_trans h.bytes (Nat.le_add_right _ _), h.few, h.nodup, h.short⟩
  unfold append
  split
  · exact ⟨hm, KeepLe.of (.inl rfl)⟩
  · split
    · exact ⟨hm, KeepLe.of (.inl rfl)⟩
    · rename_i h1 h2
      have h1' : d.may [n] = 0 := by simpa using h1
      exact ⟨(h.appended h1' (by simpa using h2)).done (may_on (l := [n]) h1'), KeepLe.of (keep_done _)⟩
theorem sync_ok {d : DS} {M : Nat} (h : d.Ok M) (n : ByteArray) : (d.sync n).2.Ok M ∧ KeepLe d (d.sync n).2 := by
  unfold sync
  split
  · exact ⟨h, KeepLe.of (.inl rfl)⟩
  · rename_i h1
    have hf := find_is (by simpa using h1)
    have hd := h.done (may_on hf.1)
    split
    · exact ⟨hd, KeepLe.of (keep_done _)⟩
    · rename_i h2
      rcases doneE_cases d with ⟨q, q2⟩ | ⟨q, q2⟩
      · have e : d.get n = d.done.get n := by unfold get; rw [q2, tick_fs]
        rw [e]
        exact ⟨hd.synced (by rw [q2, tick_fs]; exact hf.2.1), KeepLe.of (keep_done _)⟩
      · rw [q] at h2; simp at h2
theorem truncate_ok {d : DS} {M : Nat} (h : d.Ok M) (n : ByteArray) (k : Int) : (d.truncate n k).2.Ok M ∧ KeepLe d (d.truncate n k).2 := by
  unfold truncate
  split
  · exact ⟨h, KeepLe.of (.inl rfl)⟩
  · rename_i h1
    have hf := find_is (by simpa using h1)
    have hd := h.done (may_on hf.1)
    split
    · exact ⟨h, KeepLe.of (.inl rfl)⟩
    · rename_i h3
      split
      · exact ⟨hd, KeepLe.of (keep_done _)⟩
      · rename_i h2
        rcases doneE_cases d with ⟨q, q2⟩ | ⟨q, q2⟩
        · have e : d.get n = d.done.get n := by unfold get; rw [q2, tick_fs]
          rw [e]
          rw [e] at h3
          exact ⟨hd.truncated (by rw [q2, tick_fs]; exact hf.2.1) (by omega) (by omega), KeepLe.of (keep_done _)⟩
        · rw [q] at h2; simp at h2
theorem remove_ok {d : DS} {M : Nat} (h : d.Ok M) (n : ByteArray) : (d.remove n).2.Ok M ∧ KeepLe d (d.remove n).2 := by
  unfold remove
  split
  · exact ⟨h, KeepLe.of (.inl rfl)⟩
  · rename_i h1
    have hf := find_is (by simpa using h1)
    have hd := h.done (may_on hf.1)
    split
    · exact ⟨hd, KeepLe.of (keep_done _)⟩
    · exact ⟨hd.removed n, KeepLe.of (keep_done _)⟩
theorem rename_ok {d : DS} {M : Nat} (h : d.Ok M) (m n : ByteArray) : (d.rename m n).2.Ok M ∧ KeepLe d (d.rename m n).2 := by
  unfold rename
  split
  · exact ⟨h, KeepLe.of (.inl rfl)⟩
  · rename_i h0
    split
    · exact ⟨h, KeepLe.of (.inl rfl)⟩
    · rename_i h1
      have hf := find_is (by simpa using h1)
      have hd := h.done (may_on hf.1)
      split
      · exact ⟨hd, KeepLe.of (keep_done _)⟩
      · rename_i h2
        rcases doneE_cases d with ⟨q, q2⟩ | ⟨q, q2⟩
        · have e : d.get m = d.done.get m := by unfold get; rw [q2, tick_fs]
          rw [e]
          have hm2 : d.done.may [m, n] = 0 := by
            have h0' : d.may [m, n] = 0 := by simpa using h0
            unfold may at h0' ⊢
            rw [q2, tick_on]; exact h0'
          exact ⟨hd.renamed hm2 (by rw [q2, tick_fs]; exact hf.2.1), KeepLe.of (keep_done _)⟩
        · rw [q] at h2; simp at h2
theorem new_ok (room : Int) : (DS.new room).Ok 0 := ⟨fun q => (by cases q), fun p hp => (by cases hp), Nat.le_refl _, by simp [new], List.nodup_nil, fun p hp => (by cases hp)⟩
theorem crash_ok {d : DS} {M : Nat} (h : d.Ok M) (k : List Int) : (d.crash k).Ok M ∧ KeepLe d (d.crash k) := ⟨h.crash k, KeepLe.of (keep_crash d k)⟩
theorem restore_ok {d : DS} {M : Nat} (h : d.Ok M) : d.restore.Ok M ∧ KeepLe d d.restore := ⟨⟨h.left, h.files, h.bytes, h.few, h.nodup, h.short⟩, Nat.le_refl _⟩
theorem arm_ok {d : DS} {M : Nat} (h : d.Ok M) (n : Int) (k : List Int) : (d.arm n k).Ok M := ⟨fun q => by simpa [arm] using q, h.files, h.bytes, h.few, h.nodup, h.short⟩
end DS
section
variable {D : DS} {M : Nat} {L : LogS}
theorem DS.Ok.mono {M' : Nat} (h : D.Ok M) (hm : M ≤ M') : D.Ok M' := ⟨h.left, h.files, Nat.le_trans h.bytes hm, h.few, h.nodup, h.short⟩
theorem DS.Ok.get_le (h : D.Ok M) (n : ByteArray) : (D.get n).b.size ≤ M := (h.fs.fok.get n).2.2
namespace LogS
theorem told_ps (L : LogS) (e : Int) : (L.told e).ps = L.ps ∧ (L.told e).pre = L.pre ∧ (L.told e).size = L.size ∧ (L.told e).synced = L.synced ∧ (L.told e).mark = L.mark := by
  unfold told; split <;> exact ⟨rfl, rfl, rfl, rfl, rfl⟩
theorem told_is (L : LogS) (e : Int) : L.told e = ⟨L.pre, L.size, L.ps, L.synced, L.mark, if e ≠ 0 ∧ e ≠ 20 then e else L.bad⟩ := by
  unfold told; split <;> rfl
theorem file_ok (h : D.Ok M) (k : Int) (b : List UInt8) : (L.file D k b).2.2.Ok (M + b.length) := by
  have := (DS.append_ok h (nameK L.pre k) (baL b)).1
  rw [baL_size] at this
  exact this
theorem sync_ok (h : D.Ok M) : (L.sync D).2.2.Ok M := by
  unfold sync
  split
  · exact h
  · dsimp only
    split
    · exact (DS.sync_ok h _).1
    · exact (DS.sync_ok h _).1
theorem cut_ok (h : D.Ok M) (n : ByteArray) (k : Int) : (cut D n k).2.Ok M := by
  unfold cut
  split
  · exact (DS.truncate_ok h n k).1
  · exact (DS.sync_ok (DS.truncate_ok h n k).1 n).1
theorem drop_ok (h : D.Ok M) (n : ByteArray) : (drop D n).2.Ok M := by
  unfold drop
  split <;> exact (DS.remove_ok h n).1
end LogS
end
end Go.Proofs.YtfjkjndpndjfpaaGreatDoor
/- A log in memory: its block, its disk, its parts, each part's bodies; what a call may turn of it. -/
set_option linter.unusedVariables false
set_option linter.unusedSimpArgs false
namespace Go.Proofs.YtfjkjndpndjfpaaGreatDoor
open Go Go.RowKit Go.Sort
def partCells (x : Value × PartL) : List Value := [x.1, .int .i64 x.2.used, .bool x.2.done]
theorem partCells_len (x : Value × PartL) : (partCells x).length = 3 := rfl
/-- A slice of texts that may be grown: it is one's own, or it is full. -/
def Grows (w : World) (v : Value) (l : List ByteArray) : Prop := w.ownsRow 0 9 1 v l.length (strs l) ∨ ∃ A, v = .slice A l.length l.length
def ApartV (a b : Value) : Prop := ∀ g, a.ownBlock = some g → b.ownBlock ≠ some g
theorem ApartV.symm {a b : Value} (h : ApartV a b) : ApartV b a := fun g hg hq => h g hq hg
def logV (db : Nat) (L : LogS) (pv : Value) : Array Value := #[.pointer (some ⟨db, 0, none⟩), .string L.pre, .int .i64 L.size, pv, .int .i64 L.synced, .int .i64 L.mark, .int .i64 L.bad]
/-- a: the world in which the powers of ten were laid; nothing of it has turned. -/
structure LogAt (a w : World) (lb db mb : Nat) (d : DS) (L : LogS) (kv pv : Value) (xs : List (Value × PartL)) : Prop where
  ps : L.ps = xs.map (·.2)
  blk : Blk w lb 50 (logV db L pv)
  disk : DiskAt w db mb d kv
  row : w.ownsRow 0 81 3 pv xs.length (xs.flatMap partCells)
  part : ∀ x ∈ xs, Slc w 1 x.1 x.2.bodies.length (strs x.2.bodies) ∧ (x.2.done = true ∨ Grows w x.1 x.2.bodies)
  pair : List.Pairwise ApartV (kv :: pv :: xs.map (·.1))
  away : ∀ v ∈ kv :: pv :: xs.map (·.1), ∀ g, v.ownBlock = some g → g ≠ lb ∧ g ≠ db ∧ g ≠ mb ∧ g < w.heap.size ∧ a.heap.size ≤ g
  base : Only [] a w
  tab : Tab a
  up : a.heap.size ≤ lb ∧ a.heap.size ≤ db ∧ a.heap.size ≤ mb
def lblk (lb db mb : Nat) (kv pv : Value) (xs : List (Value × PartL)) : List Nat := lb :: db :: mb :: (kv :: pv :: xs.map (·.1)).filterMap Value.ownBlock
theorem mem_lblk {lb db mb : Nat} {kv pv : Value} {xs : List (Value × PartL)} {g : Nat} : g ∈ lblk lb db mb kv pv xs ↔ g = lb ∨ g = db ∨ g = mb ∨ ∃ v ∈ kv :: pv :: xs.map (·.1), v.ownBlock = some g := by
  unfold lblk
  rw [List.mem_cons, List.mem_cons, List.mem_cons, List.mem_filterMap]
section
variable {a w w' : World} {lb db mb : Nat} {d d' : DS} {L L' : LogS} {kv pv : Value} {xs : List (Value × PartL)} {S R : List Nat}
theorem Grows.only {v : Value} {l : List ByteArray} (h : Grows w v l) (k : Only S w w') (hn : ∀ g, v.ownBlock = some g → g ∉ S) : Grows w' v l := by
  rcases h with h | h
  · exact .inl (own_only h k hn)
  · exact .inr h
theorem LogAt.ne (h : LogAt a w lb db mb d L kv pv xs) : lb ≠ db ∧ lb ≠ mb ∧ mb ≠ db := ⟨h.blk.other h.disk.blk (by decide), fun e => (h.disk.map.ne_blk h.blk) e.symm, h.disk.ne⟩
theorem LogAt.lt (h : LogAt a w lb db mb d L kv pv xs) : lb < w.heap.size ∧ db < w.heap.size ∧ mb < w.heap.size := ⟨h.blk.lt, h.disk.blk.lt, h.disk.map.lt⟩
theorem LogAt.only (h : LogAt a w lb db mb d L kv pv xs) (k : Only S w w') (h1 : lb ∉ S) (h2 : db ∉ S) (h3 : mb ∉ S) (h4 : ∀ v ∈ kv :: pv :: xs.map (·.1), ∀ g, v.ownBlock = some g → g ∉ S) (h5 : ∀ g ∈ S, a.heap.size ≤ g) : LogAt a w' lb db mb d L kv pv xs := by
  have hx : ∀ x ∈ xs, x.1 ∈ kv :: pv :: xs.map (·.1) := fun x hx => List.mem_cons_of_mem _ (List.mem_cons_of_mem _ (List.mem_map.2 ⟨x, hx, rfl⟩))
  exact ⟨h.ps, k.blk h.blk h1, h.disk.only k h2 h3 (h4 kv (by simp)), own_only h.row k (h4 pv (by simp)), fun x hq => ⟨(h.part x hq).1.only k (h4 _ (hx x hq)), (h.part x hq).2.imp id (fun q => q.only k (h4 _ (hx x hq)))⟩, h.pair,
    fun v hv g hg => by have := h.away v hv g hg; have := k.size; exact ⟨by omega, by omega, by omega, by omega, by omega⟩, h.base.step k (fun i hi => .inr (h5 i hi)), h.tab, h.up⟩
theorem LogAt.only0 (h : LogAt a w lb db mb d L kv pv xs) (k : Only [] w w') : LogAt a w' lb db mb d L kv pv xs := h.only k (by simp) (by simp) (by simp) (by simp) (by simp)
/-- The log's own block is turned, but for its parts. -/
theorem LogAt.head (h : LogAt a w lb db mb d L kv pv xs) (k : Only [lb] w w') (hb : Blk w' lb 50 (logV db L' pv)) (hp : L'.ps = L.ps) : LogAt a w' lb db mb d L' kv pv xs := by
  have hx : ∀ x ∈ xs, x.1 ∈ kv :: pv :: xs.map (·.1) := fun x hx => List.mem_cons_of_mem _ (List.mem_cons_of_mem _ (List.mem_map.2 ⟨x, hx, rfl⟩))
  obtain ⟨n1, n2, n3⟩ := h.ne
  have h4 : ∀ v ∈ kv :: pv :: xs.map (·.1), ∀ g, v.ownBlock = some g → g ∉ [lb] := fun v hv g hg => by simpa using (h.away v hv g hg).1
  exact ⟨hp.trans h.ps, hb, h.disk.only k (by simpa using n1.symm) (by simpa using n2.symm) (h4 kv (by simp)), own_only h.row k (h4 pv (by simp)), fun x hq => ⟨(h.part x hq).1.only k (h4 _ (hx x hq)), (h.part x hq).2.imp id (fun q => q.only k (h4 _ (hx x hq)))⟩, h.pair,
    fun v hv g hg => by have := h.away v hv g hg; have := k.size; exact ⟨by omega, by omega, by omega, by omega, by omega⟩, h.base.step k (fun i hi => by rw [List.mem_singleton.1 hi]; exact .inr h.up.1), h.tab, h.up⟩
/-- The disk is turned. -/
theorem LogAt.leads (h : LogAt a w lb db mb d L kv pv xs) (hl : Leads db mb w kv w' d') : ∃ kv', LogAt a w' lb db mb d' L kv' pv xs ∧ (∀ g, kv'.ownBlock = some g → kv.ownBlock = some g ∨ w.heap.size ≤ g) ∧ Only [db, mb] w w' := by
  obtain ⟨kv', h1, h2, h3⟩ := hl
  have hx : ∀ x ∈ xs, x.1 ∈ kv :: pv :: xs.map (·.1) := fun x hx => List.mem_cons_of_mem _ (List.mem_cons_of_mem _ (List.mem_map.2 ⟨x, hx, rfl⟩))
  obtain ⟨n1, n2, n3⟩ := h.ne
  have h4 : ∀ v ∈ kv :: pv :: xs.map (·.1), ∀ g, v.ownBlock = some g → g ∉ [db, mb] := fun v hv g hg => by have := h.away v hv g hg; simp; exact ⟨this.2.1, this.2.2.1⟩
  have hp := List.pairwise_cons.1 h.pair
  have hs := h3.size
  refine ⟨kv', ⟨h.ps, h3.blk h.blk (by simp [n1, n2]), h1, own_only h.row h3 (h4 pv (by simp)), fun x hq => ⟨(h.part x hq).1.only h3 (h4 _ (hx x hq)), (h.part x hq).2.imp id (fun q => q.only h3 (h4 _ (hx x hq)))⟩, List.pairwise_cons.2 ⟨fun v hv g hg hq => ?_, hp.2⟩, fun v hv g hg => ?_, h.base.step h3 (fun i hi => ?_), h.tab, h.up⟩, h2, h3⟩
  · rcases h2 g hg with q | q
    · exact hp.1 v hv g q hq
    · have := h.away v (List.mem_cons_of_mem _ hv) g hq
      omega
  · rcases List.mem_cons.1 hv with e | hv
    · subst e
      obtain ⟨l1, l2, l3⟩ := h.lt
      have h5 := h1.apart g hg
      have h6 := h1.old g hg
      rcases h2 g hg with q | q
      · have := h.away kv (by simp) g q
        exact ⟨this.1, h5.1, h5.2, h6, this.2.2.2.2⟩
      · exact ⟨by omega, h5.1, h5.2, h6, by have := h.base.size; omega⟩
    · have := h.away v (List.mem_cons_of_mem _ hv) g hg
      exact ⟨this.1, this.2.1, this.2.2.1, by omega, this.2.2.2.2⟩
  · have hu := h.up
    right
    rcases List.mem_cons.1 hi with e | hi
    · omega
    · rw [List.mem_singleton.1 hi]; exact hu.2.2
/-- A part is put behind the others. -/
theorem LogAt.add (h : LogAt a w lb db mb d L kv pv xs) {pv2 : Value} {y : Value × PartL} (k : Only (lb :: pv.ownBlock.toList) w w') (hL : L'.ps = L.ps ++ [y.2]) (hb : Blk w' lb 50 (logV db L' pv2))
    (hr : w'.ownsRow 0 81 3 pv2 (xs.length + 1) (xs.flatMap partCells ++ partCells y)) (hf : ∀ g, pv2.ownBlock = some g → pv.ownBlock = some g ∨ w.heap.size ≤ g)
    (hv : Slc w' 1 y.1 y.2.bodies.length (strs y.2.bodies)) (hg : y.2.done = true ∨ Grows w' y.1 y.2.bodies)
    (hy : ∀ g, y.1.ownBlock = some g → (∀ v ∈ kv :: pv :: xs.map (·.1), v.ownBlock ≠ some g) ∧ pv2.ownBlock ≠ some g ∧ g ≠ lb ∧ g ≠ db ∧ g ≠ mb ∧ g < w'.heap.size ∧ a.heap.size ≤ g) : LogAt a w' lb db mb d L' kv pv2 (xs ++ [y]) := by
  have hx : ∀ x ∈ xs, x.1 ∈ kv :: pv :: xs.map (·.1) := fun x hx => List.mem_cons_of_mem _ (List.mem_cons_of_mem _ (List.mem_map.2 ⟨x, hx, rfl⟩))
  obtain ⟨n1, n2, n3⟩ := h.ne
  obtain ⟨l1, l2, l3⟩ := h.lt
  have hp := List.pairwise_cons.1 h.pair
  have hp2 := List.pairwise_cons.1 hp.2
  have hs := k.size
  have h4 : ∀ v ∈ kv :: xs.map (·.1), ∀ g, v.ownBlock = some g → g ∉ lb :: pv.ownBlock.toList := fun v hv g hg hq => by
    rcases List.mem_cons.1 hq with e | hq
    · rcases List.mem_cons.1 hv with e2 | hv
      · exact (h.away v (by simp [e2]) g hg).1 e
      · exact (h.away v (List.mem_cons_of_mem _ (List.mem_cons_of_mem _ hv)) g hg).1 e
    · have hq : pv.ownBlock = some g := by simpa using hq
      rcases List.mem_cons.1 hv with e2 | hv
      · subst e2
        exact hp.1 pv (by simp) g hg hq
      · exact hp2.1 v hv g hq hg
  have hm : ∀ x ∈ xs, x.1 ∈ kv :: xs.map (·.1) := fun x hx => List.mem_cons_of_mem _ (List.mem_map.2 ⟨x, hx, rfl⟩)
  have hdb : ∀ g, (g = db ∨ g = mb) → g ∉ lb :: pv.ownBlock.toList := fun g hg hq => by
    rcases List.mem_cons.1 hq with e | hq
    · omega
    · have hq : pv.ownBlock = some g := by simpa using hq
      have := h.away pv (by simp) g hq
      omega
  have hpv2 : ∀ g, pv2.ownBlock = some g → g ≠ lb ∧ g ≠ db ∧ g ≠ mb ∧ g < w'.heap.size ∧ a.heap.size ≤ g := fun g hg => by
    have h9 := (hr.lt g hg).2
    rcases hf g hg with q | q
    · have := h.away pv (by simp) g q
      exact ⟨this.1, this.2.1, this.2.2.1, h9, this.2.2.2.2⟩
    · exact ⟨by omega, by omega, by omega, h9, by have := h.base.size; omega⟩
  refine ⟨by rw [hL, h.ps, List.map_append]; rfl, hb, h.disk.only k (hdb db (.inl rfl)) (hdb mb (.inr rfl)) (h4 kv (by simp)), ?_, fun x hq => ?_, ?_, fun v hv g hg => ?_, h.base.step k (fun i hi => ?_), h.tab, h.up⟩
  · rw [List.length_append, List.flatMap_append]
    simpa using hr
  · rcases List.mem_append.1 hq with hq | hq
    · exact ⟨(h.part x hq).1.only k (h4 _ (hm x hq)), (h.part x hq).2.imp id (fun q => q.only k (h4 _ (hm x hq)))⟩
    · rw [List.mem_singleton.1 hq]
      exact ⟨hv, hg⟩
  · rw [List.map_append, List.pairwise_cons, List.pairwise_cons]
    refine ⟨fun v hv g hg hq => ?_, fun v hv g hg hq => ?_, ?_⟩
    · rcases List.mem_cons.1 hv with e | hv
      · subst e
        rcases hf g hq with q | q
        · exact hp.1 pv (by simp) g hg q
        · have := h.away kv (by simp) g hg
          omega
      · rcases List.mem_append.1 hv with hv | hv
        · exact hp.1 v (List.mem_cons_of_mem _ hv) g hg hq
        · rw [show v = y.1 by simpa using hv] at hq
          exact (hy g hq).1 kv (by simp) hg
    · rcases List.mem_append.1 hv with hv | hv
      · rcases hf g hg with q | q
        · exact hp2.1 v hv g q hq
        · have := h.away v (List.mem_cons_of_mem _ (List.mem_cons_of_mem _ hv)) g hq
          omega
      · rw [show v = y.1 by simpa using hv] at hq
        exact (hy g hq).2.1 hg
    · refine List.pairwise_append.2 ⟨hp2.2, List.pairwise_singleton _ _, fun a ha b hb g hg hq => ?_⟩
      rw [show b = y.1 by simpa using hb] at hq
      exact (hy g hq).1 a (List.mem_cons_of_mem _ (List.mem_cons_of_mem _ ha)) hg
  · rcases List.mem_cons.1 hv with e | hv
    · have := h.away v (by simp [e]) g hg
      exact ⟨this.1, this.2.1, this.2.2.1, by omega, by omega⟩
    · rcases List.mem_cons.1 hv with e | hv
      · subst e
        exact hpv2 g hg
      · rw [List.map_append] at hv
        rcases List.mem_append.1 hv with hv | hv
        · have := h.away v (List.mem_cons_of_mem _ (List.mem_cons_of_mem _ hv)) g hg
          exact ⟨this.1, this.2.1, this.2.2.1, by omega, by omega⟩
        · rw [show v = y.1 by simpa using hv] at hg
          exact (hy g hg).2.2
  · have hu := h.up
    rcases List.mem_cons.1 hi with e | hi
    · right; omega
    · have hq : pv.ownBlock = some i := by simpa using hi
      have := h.away pv (by simp) i hq
      exact .inr (by omega)
/-- A part is turned. -/
theorem LogAt.turn (h : LogAt a w lb db mb d L kv pv xs) {j : Nat} {x y : Value × PartL} (hj : xs[j]? = some x) (k : Only S w w') (hS : ∀ g ∈ S, pv.ownBlock = some g ∨ x.1.ownBlock = some g) (hL : L' = L.setPart j y.2)
    (hr : w'.ownsRow 0 81 3 pv xs.length ((xs.set j y).flatMap partCells)) (hv : Slc w' 1 y.1 y.2.bodies.length (strs y.2.bodies)) (hg : y.2.done = true ∨ Grows w' y.1 y.2.bodies)
    (hy : ∀ g, y.1.ownBlock = some g → (x.1.ownBlock = some g ∨ w.heap.size ≤ g) ∧ g < w'.heap.size) : LogAt a w' lb db mb d L' kv pv (xs.set j y) := by
  obtain ⟨hjl, hje⟩ := List.getElem?_eq_some_iff.1 hj
  have hxm : x ∈ xs := by rw [← hje]; exact List.getElem_mem _
  have hx : ∀ x ∈ xs, x.1 ∈ kv :: pv :: xs.map (·.1) := fun x hx => List.mem_cons_of_mem _ (List.mem_cons_of_mem _ (List.mem_map.2 ⟨x, hx, rfl⟩))
  obtain ⟨n1, n2, n3⟩ := h.ne
  obtain ⟨l1, l2, l3⟩ := h.lt
  have hp := List.pairwise_cons.1 h.pair
  have hp2 := List.pairwise_cons.1 hp.2
  have hs := k.size
  have hSl : ∀ g ∈ S, g ≠ lb ∧ g ≠ db ∧ g ≠ mb := fun g hq => by
    rcases hS g hq with q | q
    · have := h.away pv (by simp) g q
      exact ⟨this.1, this.2.1, this.2.2.1⟩
    · have := h.away x.1 (hx x hxm) g q
      exact ⟨this.1, this.2.1, this.2.2.1⟩
  have hkv : ∀ g, kv.ownBlock = some g → g ∉ S := fun g hg hq => by
    rcases hS g hq with q | q
    · exact hp.1 pv (by simp) g hg q
    · exact hp.1 x.1 (List.mem_cons_of_mem _ (List.mem_map.2 ⟨x, hxm, rfl⟩)) g hg q
  have hpw := List.pairwise_iff_getElem.1 hp2.2
  have hoth : ∀ i (hi : i < xs.length), i ≠ j → ApartV xs[i].1 x.1 := fun i hi hne => by
    have hil : i < (xs.map (·.1)).length := by simpa using hi
    have hjl' : j < (xs.map (·.1)).length := by simpa using hjl
    rcases Nat.lt_or_gt_of_ne hne with q | q
    · have := hpw i j hil hjl' q
      simpa [hje] using this
    · have := (hpw j i hjl' hil q).symm
      simpa [hje] using this
  have hpvx : ApartV pv x.1 := hp2.1 x.1 (List.mem_map.2 ⟨x, hxm, rfl⟩)
  have hox : ∀ i (hi : i < xs.length), i ≠ j → ∀ g, xs[i].1.ownBlock = some g → g ∉ S := fun i hi hne g hg hq => by
    rcases hS g hq with q | q
    · exact hp2.1 xs[i].1 (List.mem_map.2 ⟨xs[i], List.getElem_mem _, rfl⟩) g q hg
    · exact hoth i hi hne g hg q
  have hyo : ∀ v, v ∈ kv :: pv :: xs.map (·.1) → ApartV v x.1 → ApartV v y.1 := fun v hv ha g hg hq => by
    rcases (hy g hq).1 with q | q
    · exact ha g hg q
    · have := h.away v hv g hg
      omega
  subst hL
  refine ⟨by simp only [LogS.setPart]; rw [h.ps, List.map_set], k.blk h.blk (fun q => (hSl lb q).1 rfl), h.disk.only k (fun q => (hSl db q).2.1 rfl) (fun q => (hSl mb q).2.2 rfl) hkv, by rw [List.length_set]; exact hr, fun z hz => ?_, ?_, fun v hv g hg => ?_, h.base.step k (fun i hi => ?_), h.tab, h.up⟩
  · obtain ⟨i, hi, hie⟩ := List.getElem_of_mem hz
    rw [List.length_set] at hi
    by_cases hij : i = j
    · subst hij
      rw [List.getElem_set_self] at hie
      subst hie
      exact ⟨hv, hg⟩
    · rw [List.getElem_set_ne (fun e => hij e.symm)] at hie
      subst hie
      have hm := List.getElem_mem (l := xs) hi
      exact ⟨(h.part _ hm).1.only k (hox i hi hij), (h.part _ hm).2.imp id (fun q => q.only k (hox i hi hij))⟩
  · have hmem : ∀ v ∈ (xs.set j y).map (·.1), v = y.1 ∨ ∃ i, ∃ hi : i < xs.length, i ≠ j ∧ v = xs[i].1 := fun v hv => by
      obtain ⟨i, hi, hie⟩ := List.getElem_of_mem hv
      rw [List.length_map, List.length_set] at hi
      rw [List.getElem_map] at hie
      by_cases hij : i = j
      · subst hij
        rw [List.getElem_set_self] at hie
        exact .inl hie.symm
      · rw [List.getElem_set_ne (fun e => hij e.symm)] at hie
        exact .inr ⟨i, hi, hij, hie.symm⟩
    refine List.pairwise_cons.2 ⟨fun v hv => ?_, List.pairwise_cons.2 ⟨fun v hv => ?_, List.pairwise_iff_getElem.2 fun a b ha hb hab => ?_⟩⟩
    · rcases List.mem_cons.1 hv with e | hv
      · subst e; exact hp.1 v (by simp)
      · rcases hmem v hv with e | ⟨i, hi, hij, e⟩
        · subst e
          exact hyo kv (by simp) (hp.1 _ (List.mem_cons_of_mem _ (List.mem_map.2 ⟨x, hxm, rfl⟩)))
        · subst e
          exact hp.1 _ (List.mem_cons_of_mem _ (List.mem_map.2 ⟨_, List.getElem_mem _, rfl⟩))
    · rcases hmem v hv with e | ⟨i, hi, hij, e⟩
      · subst e
        exact hyo pv (by simp) hpvx
      · subst e
        exact hp2.1 _ (List.mem_map.2 ⟨_, List.getElem_mem _, rfl⟩)
    · rw [List.length_map, List.length_set] at ha hb
      rw [List.getElem_map, List.getElem_map]
      by_cases h1 : a = j
      · subst h1
        rw [List.getElem_set_self, List.getElem_set_ne (by omega)]
        exact (hyo _ (hx _ (List.getElem_mem _)) (hoth b (by simpa using hb) (by omega))).symm
      · rw [List.getElem_set_ne (fun e => h1 e.symm)]
        by_cases h2 : b = j
        · subst h2
          rw [List.getElem_set_self]
          exact hyo _ (hx _ (List.getElem_mem _)) (hoth a (by simpa using ha) h1)
        · rw [List.getElem_set_ne (fun e => h2 e.symm)]
          have := hpw a b (by simpa using ha) (by simpa using hb) hab
          simpa using this
  · have hvc : v ∈ kv :: pv :: xs.map (·.1) ∨ v = y.1 := by
      rcases List.mem_cons.1 hv with e | hv
      · exact .inl (by simp [e])
      · rcases List.mem_cons.1 hv with e | hv
        · exact .inl (by simp [e])
        · obtain ⟨z, hz, e⟩ := List.mem_map.1 hv
          rcases List.mem_or_eq_of_mem_set hz with q | q
          · exact .inl (by subst e; exact hx z q)
          · exact .inr (by rw [← e, q])
    rcases hvc with hv | e
    · have := h.away v hv g hg
      exact ⟨this.1, this.2.1, this.2.2.1, by omega, by omega⟩
    · subst e
      obtain ⟨q, q2⟩ := hy g hg
      rcases q with q | q
      · have := h.away x.1 (hx x hxm) g q
        exact ⟨this.1, this.2.1, this.2.2.1, q2, by omega⟩
      · exact ⟨by omega, by omega, by omega, q2, by have := h.base.size; omega⟩
  · rcases hS i hi with q | q
    · have := h.away pv (by simp) i q
      exact .inr (by omega)
    · have := h.away x.1 (hx x hxm) i q
      exact .inr (by omega)
/-! ## a log as it is seen from outside -/
def LogIn (a w : World) (lb db mb : Nat) (d : DS) (L : LogS) (R : List Nat) : Prop := ∃ kv pv xs, LogAt a w lb db mb d L kv pv xs ∧ R = lblk lb db mb kv pv xs
/-- What a call leaves. -/
def LTo (a : World) (lb db mb : Nat) (R : List Nat) (w w' : World) (r : LogS × DS) : Prop := ∃ R', LogIn a w' lb db mb r.2 r.1 R' ∧ Only R w w' ∧ ∀ g ∈ R', g ∈ R ∨ w.heap.size ≤ g
theorem LogIn.only (h : LogIn a w lb db mb d L R) (k : Only S w w') (hn : ∀ g ∈ R, g ∉ S) (hu : ∀ g ∈ S, a.heap.size ≤ g) : LogIn a w' lb db mb d L R := by
  obtain ⟨kv, pv, xs, h1, rfl⟩ := h
  exact ⟨kv, pv, xs, h1.only k (hn lb (mem_lblk.2 (.inl rfl))) (hn db (mem_lblk.2 (.inr (.inl rfl)))) (hn mb (mem_lblk.2 (.inr (.inr (.inl rfl))))) (fun v hv g hg => hn g (mem_lblk.2 (.inr (.inr (.inr ⟨v, hv, hg⟩))))) hu, rfl⟩
theorem LogIn.only0 (h : LogIn a w lb db mb d L R) (k : Only [] w w') : LogIn a w' lb db mb d L R := h.only k (by simp) (by simp)
theorem LTo.refl (h : LogIn a w lb db mb d L R) (k : Only [] w w') : LTo a lb db mb R w w' (L, d) := ⟨R, h.only0 k, k.of_nil, fun g hg => .inl hg⟩
theorem LTo.trans {R : List Nat} {w w1 w2 : World} {R1 : List Nat} {r : LogS × DS} (k : Only R w w1) (hR : ∀ g ∈ R1, g ∈ R ∨ w.heap.size ≤ g) (h : LTo a lb db mb R1 w1 w2 r) : LTo a lb db mb R w w2 r := by
  obtain ⟨R2, h1, h2, h3⟩ := h
  have hs := k.size
  exact ⟨R2, h1, k.step h2 hR, fun g hg => (h3 g hg).elim (fun q => hR g q) (fun q => .inr (by omega))⟩
theorem LogIn.lt (h : LogIn a w lb db mb d L R) : ∀ g ∈ R, g < w.heap.size := by
  obtain ⟨kv, pv, xs, h1, rfl⟩ := h
  intro g hg
  obtain ⟨l1, l2, l3⟩ := h1.lt
  rcases mem_lblk.1 hg with rfl | rfl | rfl | ⟨v, hv, hq⟩
  · exact l1
  · exact l2
  · exact l3
  · exact (h1.away v hv g hq).2.2.2.1
theorem LogAt.tabw (h : LogAt a w lb db mb d L kv pv xs) : Tab w := h.tab.only h.base
end
end Go.Proofs.YtfjkjndpndjfpaaGreatDoor
/- Regions that draw their order, where some cells hold all along (the blocks that they lie in may turn elsewhere). No program is named. -/
set_option linter.unusedVariables false
set_option linter.unusedSimpArgs false
namespace Go.Proofs.YtfjkjndpndjfpaaGreatDoor
open Go.RowKit Go
/-- A world in which these cells hold. -/
structure Hold (F : List (Addr × Value)) where
  W : World
  h : ∀ x ∈ F, W.cell? x.1 = some x.2
section
variable {P : Program} {Q : Exit → Act → World → Prop} {l : List Oper} {F : List (Addr × Value)}
theorem wp_region_hold {id : Nat} {a : Act} {w : World} (F : List (Addr × Value)) (H T1 T2 : List Nat) (hF : ∀ x ∈ F, w.cell? x.1 = some x.2) (hm : P.follows .mixedOrders = true) (hB : planB .any l.toArray H T1 T2 = true) (hQ : ∀ c d u a w, Q (.panic c) (Act.put a d u) w → Q (.panic c) a w)
    (h : Nonempty (Hold F) → wpQuiet P l.toArray (fun W => ∃ p : Hold F, W = p.W) (fun a' => wpT1 P l.toArray (fun W => ∃ p : Hold F, W = p.W) Q (opsAt l T1) (fun a w => wpList P l.toArray Q (opsAt l T2) a w) a' w.drew) (opsAt l H) a) : (Code.region id l.toArray true).wp P Q a w :=
  wp_region_plan H T1 T2 hm hB hQ ⟨⟨w.drew, hF⟩, rfl⟩ (h ⟨⟨w.drew, hF⟩⟩)
theorem check_hold {w' : World} {K : Act → World → Prop} {a : Act} (hF : ∀ x ∈ F, w'.cell? x.1 = some x.2) (h : K a w') : CheckQ (fun W => ∃ p : Hold F, W = p.W) Q K .normal a w' := ⟨⟨⟨w', hF⟩, rfl⟩, h⟩
theorem hold1 {W : World} {x : Addr} {v : Value} (h : W.cell? x = some v) : ∀ y ∈ [(x, v)], W.cell? y.1 = some y.2 := fun y hy => by rw [List.mem_singleton.1 hy]; exact h
theorem hold2 {W : World} {x x2 : Addr} {v v2 : Value} (h : W.cell? x = some v) (h2 : W.cell? x2 = some v2) : ∀ y ∈ [(x, v), (x2, v2)], W.cell? y.1 = some y.2 := fun y hy => by
  rcases List.mem_cons.1 hy with e | hy
  · rw [e]; exact h
  · rw [List.mem_singleton.1 hy]; exact h2
theorem hold3 {W : World} {x x2 x3 : Addr} {v v2 v3 : Value} (h : W.cell? x = some v) (h2 : W.cell? x2 = some v2) (h3 : W.cell? x3 = some v3) : ∀ y ∈ [(x, v), (x2, v2), (x3, v3)], W.cell? y.1 = some y.2 := fun y hy => by
  rcases List.mem_cons.1 hy with e | hy
  · rw [e]; exact h
  · exact hold2 h2 h3 y hy
end
end Go.Proofs.YtfjkjndpndjfpaaGreatDoor
/- Contracts: what a log does at its disk (told, file), how many records it has (Chunks, Len), sync. -/
set_option linter.unusedVariables false
set_option linter.unusedSimpArgs false
namespace Go.Proofs.YtfjkjndpndjfpaaGreatDoor
open Go Go.RowKit Go.Sort
/-- A log's block, or its disk, is turned. -/
def LogTo (a : World) (lb db mb : Nat) (w : World) (kv pv : Value) (xs : List (Value × PartL)) (w' : World) (r : LogS × DS) : Prop :=
  ∃ kv', LogAt a w' lb db mb r.2 r.1 kv' pv xs ∧ (∀ g, kv'.ownBlock = some g → kv.ownBlock = some g ∨ w.heap.size ≤ g) ∧ Only [lb, db, mb] w w'
section
variable {a w w1 w' : World} {lb db mb M : Nat} {d : DS} {L : LogS} {kv pv : Value} {xs : List (Value × PartL)}
theorem LogTo.step {kv1 : Value} {r : LogS × DS} (k : Only [lb, db, mb] w w1) (hk : ∀ g, kv1.ownBlock = some g → kv.ownBlock = some g ∨ w.heap.size ≤ g) (h : LogTo a lb db mb w1 kv1 pv xs w' r) : LogTo a lb db mb w kv pv xs w' r := by
  obtain ⟨kv', h1, h2, h3⟩ := h
  have hs := k.size
  exact ⟨kv', h1, fun g hg => (h2 g hg).elim (fun q => hk g q) (fun q => .inr (by omega)), k.trans h3⟩
theorem LogTo.refl (h : LogAt a w lb db mb d L kv pv xs) (k : Only [] w w') : LogTo a lb db mb w kv pv xs w' (L, d) := ⟨kv, h.only0 k, fun g hg => .inl hg, k.of_nil⟩
theorem LogTo.out {r : LogS × DS} (h : LogTo a lb db mb w kv pv xs w' r) : LTo a lb db mb (lblk lb db mb kv pv xs) w w' r := by
  obtain ⟨kv', h1, h2, h3⟩ := h
  refine ⟨_, ⟨kv', pv, xs, h1, rfl⟩, h3.mono (fun g hg => ?_), fun g hg => ?_⟩
  · refine mem_lblk.2 ?_
    simp only [List.mem_cons, List.not_mem_nil, or_false] at hg
    rcases hg with e | e | e
    · exact .inl e
    · exact .inr (.inl e)
    · exact .inr (.inr (.inl e))
  · rcases mem_lblk.1 hg with e | e | e | ⟨v, hv, hq⟩
    · exact .inl (mem_lblk.2 (.inl e))
    · exact .inl (mem_lblk.2 (.inr (.inl e)))
    · exact .inl (mem_lblk.2 (.inr (.inr (.inl e))))
    · rcases List.mem_cons.1 hv with e | hv
      · subst e
        rcases h2 g hq with q | q
        · exact .inl (mem_lblk.2 (.inr (.inr (.inr ⟨kv, by simp, q⟩))))
        · exact .inr q
      · exact .inl (mem_lblk.2 (.inr (.inr (.inr ⟨v, List.mem_cons_of_mem _ hv, hq⟩))))
theorem LogAt.cell0 (h : LogAt a w lb db mb d L kv pv xs) : w.cell? ⟨lb, 0, none⟩ = some (.pointer (some ⟨db, 0, none⟩)) := h.blk.cell 0
theorem LogAt.cell3 (h : LogAt a w lb db mb d L kv pv xs) : w.cell? ⟨lb, 3, none⟩ = some pv := h.blk.cell 3
theorem jtold_at (h : LogAt a w lb db mb d L kv pv xs) (e : Int) :
    Calls Tryz.prog 44 #[.pointer (some ⟨lb, 0, none⟩), .int .i64 e] w fun x w' => x = .returned (.int .i64 e) ∧ LogAt a w' lb db mb d (L.told e) kv pv xs ∧ Only [lb] w w' := by
  by_cases hq : e = 0 ∨ e = 20
  · refine (jtold_quiet e hq).mono ?_
    rintro x w' ⟨rfl, rfl⟩
    refine ⟨rfl, ?_, Only.refl _ _⟩
    have : L.told e = L := by unfold LogS.told; rw [if_neg (by omega)]
    rw [this]
    exact h
  · refine (jtold_any h.blk e (by omega) (by omega)).mono ?_
    rintro x w' ⟨rfl, rfl⟩
    have k : Only [lb] w (w.setCell ⟨lb, 6, none⟩ (.int .i64 e)) := (Only.refl _ _).setCell (.inl (by simp)) _
    refine ⟨rfl, h.head k ?_ (LogS.told_ps L e).1, k⟩
    rw [LogS.told_is, if_pos (by omega)]
    exact h.blk.set 6 _
/-- What the disk told is told. -/
theorem told_leads {d' : DS} (h : LogAt a w lb db mb d L kv pv xs) (hl : Leads db mb w kv w1 d') (e : Int) :
    Calls Tryz.prog 44 #[.pointer (some ⟨lb, 0, none⟩), .int .i64 e] w1 fun x w' => x = .returned (.int .i64 e) ∧ LogTo a lb db mb w kv pv xs w' (L.told e, d') := by
  obtain ⟨kv', h1, h2, h3⟩ := h.leads hl
  refine (jtold_at h1 e).mono ?_
  rintro x w' ⟨rfl, h4, h5⟩
  exact ⟨rfl, kv', h4, h2, (h3.mono (fun g hg => by simp at hg ⊢; exact .inr hg)).trans (h5.mono (fun g hg => by simp at hg ⊢; exact .inl hg))⟩
set_option maxRecDepth 100000 in
set_option maxHeartbeats 1000000 in
theorem jfile_at (h : LogAt a w lb db mb d L kv pv xs) (hp : L.pre.size ≤ 1000) (hk : d.Ok M) {k : Int} (h0 : -9223372036854775808 ≤ k) (h1 : k ≤ 9223372036854775807) (b : List UInt8) (hM : M + b.length ≤ 1125899906842624) :
    Calls Tryz.prog 70 #[.pointer (some ⟨lb, 0, none⟩), .int .i64 k, .string (baL b)] w fun e w' => e = .returned (.int .i64 (L.file d k b).1) ∧ LogTo a lb db mb w kv pv xs w' (L.file d k b).2 := by
  have HN := Lib.hid (fun (w1 : World) (k1 : Only [] w w1) => jname_any (h.only0 k1).blk hp (h.only0 k1).tabw k h0 h1)
  obtain ⟨n1, n2, n3⟩ := h.ne
  unfold LogS.file
  obtain ⟨n, hn⟩ : ∃ n, nameK L.pre k = n := ⟨_, rfl⟩
  rw [hn] at HN ⊢
  obtain ⟨bs, hb⟩ : ∃ bs, baL b = bs := ⟨_, rfl⟩
  rw [hb]
  have hbs : bs.size = b.length := by rw [← hb, baL_size]
  have HA := fun (w1 : World) (k1 : Only [] w w1) => append_any (h.only0 k1).disk hk n bs (by omega)
  obtain ⟨⟨e, d'⟩, hde⟩ : ∃ q, d.append n bs = q := ⟨_, rfl⟩
  rw [hde] at HA ⊢
  dsimp only at HA ⊢
  have HA := Lib.hid HA
  have HB := Lib.hid h
  clear hn hb hde hk hM hbs h
  go_enter Tryz.func70, Tryz.ntmps70
  go_wp2_with fail
  obtain ⟨F, hF⟩ : ∃ F : List (Addr × Value), F = [(⟨lb, 0, none⟩, .pointer (some ⟨db, 0, none⟩))] := ⟨_, rfl⟩
  have hFW : ∀ W : World, W.cell? ⟨lb, 0, none⟩ = some (.pointer (some ⟨db, 0, none⟩)) → ∀ x ∈ F, W.cell? x.1 = some x.2 := fun W h => by rw [hF]; exact hold1 h
  have d0 : ∀ p : Hold F, p.W.cell? ⟨lb, 0, none⟩ = some (.pointer (some ⟨db, 0, none⟩)) := fun p => p.h (_, _) (by rw [hF]; simp)
  have HF := Lib.hid hFW
  clear hF hFW
  refine wp_region_hold F [0, 1, 2, 3, 4, 5, 6, 8] [7, 9, 10] [11] (HF.out _ HB.out.cell0) (by kernel_rfl) (by kernel_rfl) (by intro c d u a w h; cases d <;> exact h) ?_
  intro hne
  show wpQuiet _ _ _ _ [_, _, _, _, _, _, _, _] _
  repeat (go_big_quiet_step (fail))
  refine wpQuiet_nil ?_
  show wpList _ _ _ [_] _ _
  go_wp2_with (go_at_call 50; refine (HN.out _ (Only.refl [] w).drew).mono ?_; rintro e1 w1 ⟨rfl, k1⟩)
  have k1 := (Only.refl [] w).drew.trans k1
  have h1 := Lib.hid (HB.out.only0 k1)
  refine check_hold (HF.out _ h1.out.cell0) ?_
  show wpList _ _ _ [_] _ _
  have k1 := Lib.hid k1
  go_wp2_with (go_at_call 45; refine (HA.out _ k1.out).mono ?_; rintro e2 w2 ⟨rfl, k2⟩)
  have HT := Lib.hid (told_leads h1.out k2 e)
  obtain ⟨kv2, k2a, k2b, k2c⟩ := h1.out.leads k2
  refine check_hold (HF.out _ k2a.cell0) ?_
  show wpList _ _ _ [_] _ _
  go_wp2_with (go_at_call 44; refine HT.out.mono ?_; rintro e3 w3 ⟨rfl, k3⟩)
  obtain ⟨kv3, k3a, k3b, k3c⟩ := id k3
  refine check_hold (HF.out _ k3a.cell0) ?_
  show wpList _ _ _ [_] _ _
  go_wp2
  go_ret
  exact ⟨rfl, k3.step k1.out.of_nil (fun g hg => .inl hg)⟩
end
end Go.Proofs.YtfjkjndpndjfpaaGreatDoor
/- Contracts: how many records each chunk has (Chunks), and all (Len). -/
set_option linter.unusedVariables false
set_option linter.unusedSimpArgs false
namespace Go.Proofs.YtfjkjndpndjfpaaGreatDoor
open Go Go.RowKit Go.Sort
theorem app1i {W : World} {base : Nat} {v : Value} {l : List Int} (hown : W.ownsRow base 3 1 v l.length (ints l)) (hb : base ≤ W.heap.size) (hl : l.length ≤ 10000000) (x : Int) :
    ∃ A cap w', (Builtin.append_ #[37, 37] 37 #[v, .slice (some ⟨W.heap.size, 0, none⟩) 1 1]).run Tryz.prog (W.alloc (.cells #[.int .i64 x] 3)) = .ok (.slice A (l.length + 1) cap) w' ∧ w'.ownsRow base 3 1 (.slice A (l ++ [x]).length cap) (l ++ [x]).length (ints (l ++ [x])) ∧ Only v.ownBlock.toList (W.alloc (.cells #[.int .i64 x] 3)) w' := by
  have hO : Only [] W (W.alloc (.cells #[.int .i64 x] 3)) := ((Only.refl [] W).alloc _)
  obtain ⟨A, cap, w', h1, h2, h3, _⟩ := run_app (P := Tryz.prog) (w := (W.alloc (.cells #[.int .i64 x] 3))) 37 37 base 3 (.int .i64 0) 1 8 Tryz.underlying37 infoIJ rfl (by decide) (own_only hown hO (by simp)) ((slc_new1 (w := W) (e := 3) (size := 1) (cs := ints [x]) rfl)) (by intro u hu; simp [ints] at hu; subst hu; rfl) (by omega) (by unfold maxLen; omega) (Nat.le_trans hb hO.size)
  refine ⟨A, cap, w', h1, ?_, h3⟩
  have e : ints (l ++ [x]) = ints l ++ ints [x] := by simp [ints]
  rw [List.length_append, e]
  exact h2
/-- What a part tells in memory. -/
theorem LogAt.at {a w : World} {lb db mb : Nat} {d : DS} {L : LogS} {kv pv : Value} {xs : List (Value × PartL)} (h : LogAt a w lb db mb d L kv pv xs) {k : Nat} (hk : k < xs.length) :
    ∃ g cap, pv = .slice (some ⟨g, 0, none⟩) xs.length cap ∧ g < w.heap.size ∧ w.cell? ⟨g, k * 3, none⟩ = some xs[k].1 ∧ w.cell? ⟨g, k * 3 + 1, none⟩ = some (.int .i64 xs[k].2.used) ∧ w.cell? ⟨g, k * 3 + 2, none⟩ = some (.bool xs[k].2.done) := by
  obtain ⟨g, cap, cur, hv, _, hb⟩ := own_some h.row (by omega)
  have hs := (Slc.of_own h.row).1
  obtain ⟨A, cap', hv', h1, h2, h3⟩ := hs.openE partCells partCells_len
  rw [hv] at hv'
  cases hv'
  obtain ⟨b, off, e, hlt, hc⟩ := h3 k hk
  cases e
  refine ⟨g, cap, hv, hlt, ?_, ?_, ?_⟩
  · have := hc 0 (by omega)
    simpa [partCells] using this
  · have := hc 1 (by omega)
    simpa [partCells] using this
  · have := hc 2 (by omega)
    simpa [partCells] using this
theorem slc_len {w : World} {size n : Nat} {v : Value} {cs : List Value} (h : Slc w size v n cs) : ∃ A cap, v = .slice A n cap := by
  obtain ⟨A, cap, hv, _⟩ := h
  exact ⟨A, cap, hv⟩
section
variable {a w w1 w' : World} {lb db mb M : Nat} {d : DS} {L : LogS} {kv pv : Value} {xs : List (Value × PartL)}
set_option maxRecDepth 100000 in
set_option maxHeartbeats 2000000 in
theorem jchunkL_any (h : LogAt a w lb db mb d L kv pv xs) (hn : xs.length ≤ 1000000) :
    Calls Tryz.prog 23 #[.pointer (some ⟨lb, 0, none⟩)] w fun e w' => ∃ A cap, e = .returned (.slice A xs.length cap) ∧ w'.ownsRow w.heap.size 3 1 (.slice A xs.length cap) xs.length (ints L.chunkLens) ∧ Only [] w w' := by
  have hcl : L.chunkLens = xs.map fun x => (x.2.bodies.length : Int) := by unfold LogS.chunkLens; rw [h.ps, List.map_map]; rfl
  rw [hcl]
  have c3 := h.cell3
  obtain ⟨B, bc, hpv, _, _⟩ := own_form h.row
  rw [hpv] at c3
  have HB := Lib.hid h
  have HP := Lib.hid hpv
  clear hpv h hcl
  go_enter Tryz.func23, Tryz.ntmps23
  go_wp2
  go_loopw [3, 13] (fun o i wr => ∃ (k : Nat) (A : Option Addr) (cap : Nat), k ≤ xs.length ∧ i = .int .i64 k ∧ o = .slice A k cap ∧ wr.ownsRow w.heap.size 3 1 (.slice A k cap) k (ints ((xs.take k).map fun x => (x.2.bodies.length : Int))) ∧ Only [] w wr) (fun _ i _ => xs.length - (intOf i).toNat)
  case atStart => exact ⟨0, none, 0, Nat.zero_le _, rfl, rfl, World.ownsRow_nil _ _ _ _, Only.refl _ _⟩
  case round =>
    obtain ⟨k, A, cap, hk, rfl, rfl, hown, hO⟩ := hrel
    by_cases hlt : k < xs.length
    · obtain ⟨g, cp, hg, hgl, g0, g1, g2⟩ := HB.out.at hlt
      have hsl := (HB.out.part xs[k] (List.getElem_mem _)).1
      have hsu : (xs.take (k + 1)).map (fun x => (x.2.bodies.length : Int)) = (xs.take k).map (fun x => (x.2.bodies.length : Int)) ++ [(xs[k].2.bodies.length : Int)] := by
        rw [List.take_succ_eq_append_getElem hlt, List.map_append]; rfl
      obtain ⟨x, hx⟩ : ∃ x, xs[k] = x := ⟨_, rfl⟩
      rw [hx] at g0 g1 g2 hsl hsu
      have hgg := HP.out.symm.trans hg
      injection hgg with hgg
      subst hgg
      obtain ⟨VA, vc, hV⟩ := slc_len hsl
      rw [hV] at g0
      have e0 := (hO.cell (p := ⟨g, k * 3, none⟩) hgl (by simp)).trans g0
      have e1 := (hO.cell (p := ⟨g, k * 3 + 1, none⟩) hgl (by simp)).trans g1
      have e2 := (hO.cell (p := ⟨g, k * 3 + 2, none⟩) hgl (by simp)).trans g2
      have hdec : decide ((k : Int) < (xs.length : Int)) = true := decide_eq_true (by omega)
      have hml : (((xs.take k).map fun x => (x.2.bodies.length : Int))).length = k := by simp; omega
      have hown2 : ∀ o : Obj, (wr.alloc o).ownsRow w.heap.size 3 1 (.slice A ((xs.take k).map fun x => (x.2.bodies.length : Int)).length cap) ((xs.take k).map fun x => (x.2.bodies.length : Int)).length (ints ((xs.take k).map fun x => (x.2.bodies.length : Int))) := fun o => by rw [hml]; exact hown.alloc o
      have hsz := hO.size
      obtain ⟨A4, c4, w4, hr4, hown4, hO4⟩ := app1i (hown2 (.cells #[.slice VA x.2.bodies.length vc, .int .i64 x.2.used, .bool x.2.done] 81)) (by simp; omega) (by omega) (x.2.bodies.length : Int)
      rw [hml, show (wr.alloc (.cells #[.slice VA x.2.bodies.length vc, .int .i64 x.2.used, .bool x.2.done] 81)).heap.size = wr.heap.size + 1 by simp] at hr4
      have hO5 : Only [] w w4 := ((hO.alloc _).alloc _).step hO4 (fun g hg => .inr (by have h9 := (hown.lt g (by rw [← hml]; simpa using hg)).1; exact h9))
      have hml2 : ((xs.take k).map (fun x => (x.2.bodies.length : Int)) ++ [(x.2.bodies.length : Int)]).length = k + 1 := by rw [List.length_append, hml]; rfl
      rw [hml2] at hown4
      have HR4 := Lib.hid hr4
      have HW4 := Lib.hid hown4
      have HS := Lib.hid hsu
      have HL := Lib.hid hlt
      clear g0 g1 g2 hown2 hg hown hown4 hr4 hO4 hml hml2 hsu
      go_wp2_with (at_builtin; refine Lib.wpList_append_run _ rfl (.tmp 17) (.tmp 21) 37 37 rfl _ _ rfl rfl _ _ HR4.out ?_)
      refine ⟨⟨.slice A4 (k + 1) c4, _, .int .i64 ((k : Int) + 1), ⟨k + 1, HL.out, by simp, A4, c4, rfl, ?_⟩, rfl, rfl, rfl⟩, by have := HL.out; simp [intOf]; omega⟩
      rw [← List.map_take, HS.out]
      exact HW4.out
    · have hke : k = xs.length := by omega
      subst hke
      go_wp2
      go_ret
      refine ⟨A, cap, rfl, ?_, hO⟩
      rw [List.take_length] at hown
      exact hown
theorem sum_take_le (l : List PartL) (k : Nat) : ((l.take k).map fun p => (p.bodies.length : Int)).sum ≤ (l.map fun p => (p.bodies.length : Int)).sum ∧ 0 ≤ ((l.take k).map fun p => (p.bodies.length : Int)).sum := by
  induction l generalizing k with
  | nil => simp
  | cons p l ih =>
    cases k with
    | zero =>
      have := ih 0
      simp only [List.take_zero, List.map_nil, List.sum_nil, List.map_cons, List.sum_cons] at this ⊢
      omega
    | succ k =>
      have := ih k
      simp only [List.take_succ_cons, List.map_cons, List.sum_cons] at this ⊢
      omega
theorem sum_take_succ (l : List PartL) {k : Nat} (hk : k < l.length) : ((l.take (k + 1)).map fun p => (p.bodies.length : Int)).sum = ((l.take k).map fun p => (p.bodies.length : Int)).sum + (l[k].bodies.length : Int) := by
  rw [List.take_succ_eq_append_getElem hk, List.map_append, List.sum_append_int]
  simp
set_option maxRecDepth 100000 in
set_option maxHeartbeats 2000000 in
theorem jlen_any (h : LogAt a w lb db mb d L kv pv xs) (hn : xs.length ≤ 1000000) (hl : L.len ≤ 1000000000) :
    Calls Tryz.prog 13 #[.pointer (some ⟨lb, 0, none⟩)] w fun e w' => e = .returned (.int .i64 L.len) ∧ Only [] w w' := by
  have HC := Lib.hid (jchunkL_any h hn)
  have hps : L.ps.length = xs.length := by rw [h.ps, List.length_map]
  have hcl : L.chunkLens.length = xs.length := by unfold LogS.chunkLens; rw [List.length_map, hps]
  unfold LogS.len at hl ⊢
  have hu : L.chunkLens = L.ps.map fun p => (p.bodies.length : Int) := rfl
  rw [hu] at hcl HC
  clear hu h
  obtain ⟨ps, hpe⟩ : ∃ ps, L.ps = ps := ⟨_, rfl⟩
  rw [hpe] at hl hps hcl HC ⊢
  clear hpe
  go_enter Tryz.func13, Tryz.ntmps13
  go_wp2_with (go_at_call 23; refine HC.out.mono ?_; rintro e1 w1 ⟨A, cap, rfl, hown, k1⟩; have hS := Lib.hid (Slc.of_own hown).1; clear hown)
  rw [← hcl] at hS
  go_loop [3, 9] (fun n i => ∃ k : Nat, k ≤ ps.length ∧ i = .int .i64 k ∧ n = .int .i64 (((ps.take k).map fun p => (p.bodies.length : Int)).sum)) (fun _ i => ps.length - (intOf i).toNat)
  case atStart => exact ⟨0, Nat.zero_le _, rfl, rfl⟩
  case round =>
    obtain ⟨k, hk, rfl, rfl⟩ := hrel
    obtain ⟨VA, vc, hv, -, -, hvc⟩ := hS.out.openI
    injection hv with hv1 hv2 hv3
    subst hv1 hv3
    have hb1 := sum_take_le ps k
    by_cases hlt : k < ps.length
    · have hb2 := sum_take_le ps (k + 1)
      rw [sum_take_succ ps hlt] at hb2
      obtain ⟨b, off, rfl, hbl, hbc⟩ := hvc k (by rw [List.length_map]; exact hlt)
      rw [List.getElem_map] at hbc
      have hsz : (Lib.hid (sum_take_succ ps hlt)).out = (Lib.hid (sum_take_succ ps hlt)).out := rfl
      have HS2 := Lib.hid (sum_take_succ ps hlt)
      have hdec : decide ((k : Int) < (xs.length : Int)) = true := decide_eq_true (by omega)
      obtain ⟨s, hs⟩ : ∃ s, ((ps.take k).map fun p => (p.bodies.length : Int)).sum = s := ⟨_, rfl⟩
      rw [hs] at hb1 hb2 HS2 ⊢
      have e1 := IntWalk.i64_in (s + (ps[k].bodies.length : Int)) ⟨by omega, by omega⟩
      clear hs hsz hvc
      go_wp2
      refine ⟨⟨k + 1, hlt, by simp, by rw [HS2.out]⟩, by simp [intOf]; omega⟩
    · have hke : k = ps.length := by omega
      subst hke
      have hdec : decide ((ps.length : Int) < (xs.length : Int)) = false := decide_eq_false (by omega)
      rw [List.take_length]
      go_wp2
      go_ret
      exact ⟨rfl, k1⟩
end
end Go.Proofs.YtfjkjndpndjfpaaGreatDoor
/- A log in memory: one cell of a part is set. -/
set_option linter.unusedVariables false
set_option linter.unusedSimpArgs false
namespace Go.Proofs.YtfjkjndpndjfpaaGreatDoor
open Go Go.RowKit Go.Sort
theorem flat_set0 : ∀ (xs : List (Value × PartL)) (k : Nat) (x : Value × PartL) (v : Value), xs[k]? = some x → (xs.flatMap partCells).set (k * 3) v = (xs.set k (v, x.2)).flatMap partCells
  | [], k, x, v, h => by simp at h
  | y :: xs, 0, x, v, h => by
    cases h
    simp [partCells]
  | y :: xs, k + 1, x, v, h => by
    have ih := flat_set0 xs k x v (by simpa using h)
    rw [List.set_cons_succ, List.flatMap_cons, List.flatMap_cons, ← ih, show (k + 1) * 3 = k * 3 + 3 by omega]
    rfl
theorem flat_set1 : ∀ (xs : List (Value × PartL)) (k : Nat) (x : Value × PartL) (u : Int), xs[k]? = some x → (xs.flatMap partCells).set (k * 3 + 1) (.int .i64 u) = (xs.set k (x.1, { x.2 with used := u })).flatMap partCells
  | [], k, x, v, h => by simp at h
  | y :: xs, 0, x, v, h => by
    cases h
    simp [partCells]
  | y :: xs, k + 1, x, v, h => by
    have ih := flat_set1 xs k x v (by simpa using h)
    rw [List.set_cons_succ, List.flatMap_cons, List.flatMap_cons, ← ih, show (k + 1) * 3 + 1 = k * 3 + 1 + 3 by omega]
    rfl
theorem flat_set2 : ∀ (xs : List (Value × PartL)) (k : Nat) (x : Value × PartL) (b : Bool), xs[k]? = some x → (xs.flatMap partCells).set (k * 3 + 2) (.bool b) = (xs.set k (x.1, { x.2 with done := b })).flatMap partCells
  | [], k, x, v, h => by simp at h
  | y :: xs, 0, x, v, h => by
    cases h
    simp [partCells]
  | y :: xs, k + 1, x, v, h => by
    have ih := flat_set2 xs k x v (by simpa using h)
    rw [List.set_cons_succ, List.flatMap_cons, List.flatMap_cons, ← ih, show (k + 1) * 3 + 2 = k * 3 + 2 + 3 by omega]
    rfl
section
variable {a w w1 w' : World} {lb db mb M : Nat} {d : DS} {L : LogS} {kv pv : Value} {xs : List (Value × PartL)}
/-- A part is done. -/
theorem LogAt.setDone {g n cap j : Nat} (h : LogAt a w lb db mb d L kv (.slice (some ⟨g, 0, none⟩) n cap) xs) (hn : n = xs.length) {x : Value × PartL} (hj : xs[j]? = some x) :
    LogAt a (w.setCell ⟨g, j * 3 + 2, none⟩ (.bool true)) lb db mb d (L.setPart j { x.2 with done := true }) kv (.slice (some ⟨g, 0, none⟩) n cap) (xs.set j (x.1, { x.2 with done := true })) ∧ Only [g] w (w.setCell ⟨g, j * 3 + 2, none⟩ (.bool true)) := by
  subst hn
  have k : Only [g] w (w.setCell ⟨g, j * 3 + 2, none⟩ (.bool true)) := (Only.refl _ _).setCell (.inl (by simp)) _
  have hx : x ∈ xs := List.mem_of_getElem? hj
  have hp := List.pairwise_cons.1 (List.pairwise_cons.1 h.pair).2
  have hne : ∀ q, x.1.ownBlock = some q → q ∉ [g] := fun q hq hm => by
    rw [List.mem_singleton.1 hm] at hq
    exact hp.1 x.1 (List.mem_map.2 ⟨x, hx, rfl⟩) g rfl hq
  refine ⟨h.turn hj k (fun q hq => by rw [List.mem_singleton.1 hq]; exact .inl rfl) rfl ?_ ((h.part x hx).1.only k hne) (.inl rfl) (fun q hq => ⟨.inl hq, ?_⟩), k⟩
  · have := (h.row.stored (j * 3 + 2) (.bool true)).1
    rw [flat_set2 xs j x true hj] at this
    exact this
  · have := h.away x.1 (List.mem_cons_of_mem _ (List.mem_cons_of_mem _ (List.mem_map.2 ⟨x, hx, rfl⟩))) q hq
    have := k.size
    omega
end
end Go.Proofs.YtfjkjndpndjfpaaGreatDoor
/- Contracts: a log's last chunk is made last (chunklog sync, Sync). -/
set_option linter.unusedVariables false
set_option linter.unusedSimpArgs false
namespace Go.Proofs.YtfjkjndpndjfpaaGreatDoor
open Go Go.RowKit Go.Sort
section
variable {a w w1 w' : World} {lb db mb M : Nat} {d : DS} {L : LogS} {kv pv : Value} {xs : List (Value × PartL)}
theorem LogTo.setSyn {r : LogS × DS} (h : LogTo a lb db mb w kv pv xs w' r) (s : Int) : LogTo a lb db mb w kv pv xs (w'.setCell ⟨lb, 4, none⟩ (.int .i64 s)) ({ r.1 with synced := s }, r.2) := by
  obtain ⟨kv', h1, h2, h3⟩ := h
  have k : Only [lb] w' (w'.setCell ⟨lb, 4, none⟩ (.int .i64 s)) := (Only.refl _ _).setCell (.inl (by simp)) _
  exact ⟨kv', h1.head k (h1.blk.set 4 _) rfl, h2, h3.trans (k.mono (fun g hg => by simp at hg ⊢; exact .inl hg))⟩
theorem LogTo.setMark {r : LogS × DS} (h : LogTo a lb db mb w kv pv xs w' r) (s : Int) : LogTo a lb db mb w kv pv xs (w'.setCell ⟨lb, 5, none⟩ (.int .i64 s)) ({ r.1 with mark := s }, r.2) := by
  obtain ⟨kv', h1, h2, h3⟩ := h
  have k : Only [lb] w' (w'.setCell ⟨lb, 5, none⟩ (.int .i64 s)) := (Only.refl _ _).setCell (.inl (by simp)) _
  exact ⟨kv', h1.head k (h1.blk.set 5 _) rfl, h2, h3.trans (k.mono (fun g hg => by simp at hg ⊢; exact .inl hg))⟩
theorem LogS.told_len (L : LogS) (e : Int) : (L.told e).len = L.len := by unfold LogS.len; rw [(LogS.told_ps L e).1]
set_option maxRecDepth 100000 in
set_option maxHeartbeats 1000000 in
theorem jsync_at (h : LogAt a w lb db mb d L kv pv xs) (hp : L.pre.size ≤ 1000) (hk : d.Ok M) (hM : M ≤ 1125899906842624) (hn : xs.length ≤ 1000000) (hl : L.len ≤ 1000000000) :
    Calls Tryz.prog 40 #[.pointer (some ⟨lb, 0, none⟩)] w fun e w' => e = .returned (.int .i64 (L.sync d).1) ∧ LogTo a lb db mb w kv pv xs w' (L.sync d).2 := by
  have hps : L.ps.length = xs.length := by rw [h.ps, List.length_map]
  have c3 := h.cell3
  obtain ⟨n1, n2, n3⟩ := h.ne
  obtain ⟨B, bc, hpv, _, _⟩ := own_form h.row
  rw [hpv] at c3
  unfold LogS.sync
  rw [hps]
  by_cases hx : xs.length = 0
  · rw [if_pos hx]
    rw [hx] at c3
    have HB := Lib.hid h
    clear h hpv
    go_enter Tryz.func40, Tryz.ntmps40
    go_wp2
    go_ret
    exact ⟨rfl, LogTo.refl HB.out (Only.refl _ _)⟩
  · rw [if_neg hx]
    have e1 := IntWalk.i64_in ((xs.length : Int) - 1) ⟨by omega, by omega⟩
    have hdec : decide ((xs.length : Int) = 0) = false := decide_eq_false (by omega)
    have HN := Lib.hid (fun (w1 : World) (k1 : Only [] w w1) => jname_any (h.only0 k1).blk hp (h.only0 k1).tabw ((xs.length : Int) - 1) (by omega) (by omega))
    obtain ⟨n, hnn⟩ : ∃ n, nameK L.pre ((xs.length : Int) - 1) = n := ⟨_, rfl⟩
    rw [hnn] at HN ⊢
    have HA := fun (w1 : World) (k1 : Only [] w w1) => sync_any (h.only0 k1).disk hk hM n
    obtain ⟨⟨e, d'⟩, hde⟩ : ∃ q, d.sync n = q := ⟨_, rfl⟩
    rw [hde] at HA ⊢
    dsimp only at HA ⊢
    have HA := Lib.hid HA
    have HB := Lib.hid h
    have HL := Lib.hid hl
    have HX := Lib.hid hn
    obtain ⟨F, hF⟩ : ∃ F : List (Addr × Value), F = [(⟨lb, 0, none⟩, .pointer (some ⟨db, 0, none⟩)), (⟨lb, 3, none⟩, .slice B xs.length bc)] := ⟨_, rfl⟩
    have hFW : ∀ (W : World) d2 L2 kv2, LogAt a W lb db mb d2 L2 kv2 pv xs → ∀ x ∈ F, W.cell? x.1 = some x.2 := fun W d2 L2 kv2 h => by rw [hF]; exact hold2 h.cell0 (hpv ▸ h.cell3)
    have d0 : ∀ p : Hold F, p.W.cell? ⟨lb, 0, none⟩ = some (.pointer (some ⟨db, 0, none⟩)) := fun p => p.h (_, _) (by rw [hF]; simp)
    have d3 : ∀ p : Hold F, p.W.cell? ⟨lb, 3, none⟩ = some (.slice B xs.length bc) := fun p => p.h (_, _) (by rw [hF]; simp)
    have HF := Lib.hid hFW
    clear hnn hde hk hM h hpv hl hn hF hFW
    by_cases he : e = 0
    · subst he
      rw [if_neg (by simp)]
      go_enter Tryz.func40, Tryz.ntmps40
      go_wp2_with fail
      refine wp_region_hold F [0, 1, 2, 3, 4, 5, 6, 7, 8, 9, 10, 11] [12, 13, 14] [15] (HF.out _ _ _ _ HB.out) (by kernel_rfl) (by kernel_rfl) (by intro c d u a w h; cases d <;> exact h) ?_
      intro hne
      show wpQuiet _ _ _ _ [_, _, _, _, _, _, _, _, _, _, _, _] _
      repeat (go_big_quiet_step (fail))
      refine wpQuiet_nil ?_
      show wpList _ _ _ [_] _ _
      go_wp2_with (go_at_call 50; refine (HN.out _ (Only.refl [] w).drew).mono ?_; rintro e1 w1 ⟨rfl, k1⟩)
      have k1 := (Only.refl [] w).drew.trans k1
      have h1 := Lib.hid (HB.out.only0 k1)
      refine check_hold (HF.out _ _ _ _ h1.out) ?_
      show wpList _ _ _ [_] _ _
      have k1 := Lib.hid k1
      go_wp2_with (go_at_call 46; refine (HA.out _ k1.out).mono ?_; rintro e2 w2 ⟨rfl, k2⟩)
      have HT := Lib.hid (told_leads h1.out k2 0)
      obtain ⟨kv2, k2a, k2b, k2c⟩ := h1.out.leads k2
      refine check_hold (HF.out _ _ _ _ k2a) ?_
      show wpList _ _ _ [_] _ _
      go_wp2_with (go_at_call 44; refine HT.out.mono ?_; rintro e3 w3 ⟨rfl, k3⟩)
      have k4 := Lib.hid (k3.step k1.out.of_nil (fun g hg => .inl hg))
      obtain ⟨kv5, h5, -, -⟩ := k4.out
      have h6 := Lib.hid h5
      have HQ := Lib.hid (jlen_any h5 HX.out (by rw [LogS.told_len]; exact HL.out))
      refine check_hold (HF.out _ _ _ _ h6.out) ?_
      clear d0 d3 c3 h5 k3 k2 k2a k2b k2c
      show wpList _ _ _ [_] _ _
      go_wp2_with (go_at_call 13; refine HQ.out.mono ?_; rintro e4 w4 ⟨rfl, k5⟩; have f4 := (h6.out.only0 k5).blk.free 4; have c4 := (h6.out.only0 k5).blk.cell 4)
      go_ret
      obtain ⟨kv7, h7, k7, k8⟩ := k4.out
      exact ⟨rfl, LogTo.setSyn (r := (L.told 0, d')) ⟨kv7, h7.only0 k5, k7, k8.trans k5.of_nil⟩ _⟩
    · rw [if_pos he]
      go_enter Tryz.func40, Tryz.ntmps40
      go_wp2_with fail
      refine wp_region_hold F [0, 1, 2, 3, 4, 5, 6, 7, 8, 9, 10, 11] [12, 13, 14] [15] (HF.out _ _ _ _ HB.out) (by kernel_rfl) (by kernel_rfl) (by intro c d u a w h; cases d <;> exact h) ?_
      intro hne
      show wpQuiet _ _ _ _ [_, _, _, _, _, _, _, _, _, _, _, _] _
      repeat (go_big_quiet_step (fail))
      refine wpQuiet_nil ?_
      show wpList _ _ _ [_] _ _
      go_wp2_with (go_at_call 50; refine (HN.out _ (Only.refl [] w).drew).mono ?_; rintro e1 w1 ⟨rfl, k1⟩)
      have k1 := (Only.refl [] w).drew.trans k1
      have h1 := Lib.hid (HB.out.only0 k1)
      refine check_hold (HF.out _ _ _ _ h1.out) ?_
      show wpList _ _ _ [_] _ _
      have k1 := Lib.hid k1
      go_wp2_with (go_at_call 46; refine (HA.out _ k1.out).mono ?_; rintro e2 w2 ⟨rfl, k2⟩)
      have HT := Lib.hid (told_leads h1.out k2 e)
      obtain ⟨kv2, k2a, k2b, k2c⟩ := h1.out.leads k2
      refine check_hold (HF.out _ _ _ _ k2a) ?_
      show wpList _ _ _ [_] _ _
      go_wp2_with (go_at_call 44; refine HT.out.mono ?_; rintro e3 w3 ⟨rfl, k3⟩)
      have k4 := Lib.hid (k3.step k1.out.of_nil (fun g hg => .inl hg))
      obtain ⟨kv5, h5, -, -⟩ := k4.out
      have h6 := Lib.hid h5
      have HQ := Lib.hid (jlen_any h5 HX.out (by rw [LogS.told_len]; exact HL.out))
      refine check_hold (HF.out _ _ _ _ h6.out) ?_
      clear d0 d3 c3 h5 k3 k2 k2a k2b k2c
      show wpList _ _ _ [_] _ _
      go_wp2
      go_ret
      exact ⟨rfl, k4.out⟩
end
end Go.Proofs.YtfjkjndpndjfpaaGreatDoor
/- How far a call of a log has come; a part is put behind the others. -/
set_option linter.unusedVariables false
set_option linter.unusedSimpArgs false
namespace Go.Proofs.YtfjkjndpndjfpaaGreatDoor
open Go Go.RowKit Go.Sort
structure LogOn (a : World) (R : List Nat) (w W : World) (lb db mb : Nat) (d : DS) (L : LogS) (kv pv : Value) (xs : List (Value × PartL)) : Prop where
  at_ : LogAt a W lb db mb d L kv pv xs
  only : Only R w W
  sub : ∀ g ∈ lblk lb db mb kv pv xs, g ∈ R ∨ w.heap.size ≤ g
section
variable {a w W W' w' : World} {lb db mb M : Nat} {d d' : DS} {L L' : LogS} {kv pv kv' pv' : Value} {xs xs' : List (Value × PartL)} {R S : List Nat}
theorem LogOn.refl (h : LogAt a w lb db mb d L kv pv xs) : LogOn a (lblk lb db mb kv pv xs) w w lb db mb d L kv pv xs := ⟨h, Only.refl _ _, fun g hg => .inl hg⟩
theorem LogOn.only0 (h : LogOn a R w W lb db mb d L kv pv xs) (k : Only [] W W') : LogOn a R w W' lb db mb d L kv pv xs := ⟨h.at_.only0 k, h.only.trans k.of_nil, h.sub⟩
theorem LogOn.lto (h : LogOn a R w W lb db mb d L kv pv xs) : LTo a lb db mb R w W (L, d) := ⟨_, ⟨kv, pv, xs, h.at_, rfl⟩, h.only, h.sub⟩
theorem LogOn.next {r : LogS × DS} (h : LogOn a R w W lb db mb d L kv pv xs) (k : LTo a lb db mb (lblk lb db mb kv pv xs) W w' r) : ∃ kv' pv' xs', LogOn a R w w' lb db mb r.2 r.1 kv' pv' xs' := by
  obtain ⟨R2, ⟨kv', pv', xs', h1, rfl⟩, h2, h3⟩ := k
  have hs := h.only.size
  exact ⟨kv', pv', xs', h1, h.only.step h2 h.sub, fun g hg => (h3 g hg).elim (h.sub g) (fun q => .inr (by omega))⟩
theorem LTo.on {r : LogS × DS} (k : LTo a lb db mb R w w' r) : ∃ kv' pv' xs', LogOn a R w w' lb db mb r.2 r.1 kv' pv' xs' := by
  obtain ⟨R2, ⟨kv', pv', xs', h1, rfl⟩, h2, h3⟩ := k
  exact ⟨kv', pv', xs', h1, h2, h3⟩
theorem LogOn.turn (h : LogOn a R w W lb db mb d L kv pv xs) (k : LogAt a w' lb db mb d' L' kv' pv' xs') (ko : Only S W w') (hS : ∀ g ∈ S, g ∈ lblk lb db mb kv pv xs) (hb : ∀ g ∈ lblk lb db mb kv' pv' xs', g ∈ lblk lb db mb kv pv xs ∨ W.heap.size ≤ g) : LogOn a R w w' lb db mb d' L' kv' pv' xs' := by
  have hs := h.only.size
  exact ⟨k, h.only.step ko (fun i hi => h.sub i (hS i hi)), fun g hg => (hb g hg).elim (h.sub g) (fun q => .inr (by omega))⟩
theorem LogOn.to {r : LogS × DS} (h : LogOn a R w W lb db mb d L kv pv xs) (k : LogTo a lb db mb W kv pv xs w' r) : ∃ kv', LogOn a R w w' lb db mb r.2 r.1 kv' pv xs := by
  obtain ⟨kv', h1, h2, h3⟩ := k
  refine ⟨kv', h.turn h1 h3 (fun g hg => ?_) (fun g hg => ?_)⟩
  · refine mem_lblk.2 ?_
    simp only [List.mem_cons, List.not_mem_nil, or_false] at hg
    rcases hg with e | e | e
    · exact .inl e
    · exact .inr (.inl e)
    · exact .inr (.inr (.inl e))
  · rcases mem_lblk.1 hg with e | e | e | ⟨v, hv, hq⟩
    · exact .inl (mem_lblk.2 (.inl e))
    · exact .inl (mem_lblk.2 (.inr (.inl e)))
    · exact .inl (mem_lblk.2 (.inr (.inr (.inl e))))
    · rcases List.mem_cons.1 hv with e | hv
      · subst e
        rcases h2 g hq with q | q
        · exact .inl (mem_lblk.2 (.inr (.inr (.inr ⟨kv, by simp, q⟩))))
        · exact .inr q
      · exact .inl (mem_lblk.2 (.inr (.inr (.inr ⟨v, List.mem_cons_of_mem _ hv, hq⟩))))
theorem LogOn.setDone {g n cap j : Nat} (h : LogOn a R w W lb db mb d L kv (.slice (some ⟨g, 0, none⟩) n cap) xs) (hn : n = xs.length) {x : Value × PartL} (hj : xs[j]? = some x) :
    LogOn a R w (W.setCell ⟨g, j * 3 + 2, none⟩ (.bool true)) lb db mb d (L.setPart j { x.2 with done := true }) kv (.slice (some ⟨g, 0, none⟩) n cap) (xs.set j (x.1, { x.2 with done := true })) := by
  obtain ⟨h1, h2⟩ := h.at_.setDone hn hj
  refine h.turn h1 h2 (fun q hq => ?_) (fun q hq => .inl ?_)
  · rw [List.mem_singleton.1 hq]
    exact mem_lblk.2 (.inr (.inr (.inr ⟨_, List.mem_cons_of_mem _ (List.mem_cons_self ..), rfl⟩)))
  · refine mem_lblk.2 ((mem_lblk.1 hq).imp id (Or.imp id (Or.imp id ?_)))
    rintro ⟨v, hv, hg⟩
    have hmem : v ∈ kv :: Value.slice (some ⟨g, 0, none⟩) n cap :: xs.map (·.1) := by
      rcases List.mem_cons.1 hv with e | hv
      · simp [e]
      · rcases List.mem_cons.1 hv with e | hv
        · simp [e]
        · obtain ⟨z, hz, e⟩ := List.mem_map.1 hv
          rcases List.mem_or_eq_of_mem_set hz with q | q
          · exact List.mem_cons_of_mem _ (List.mem_cons_of_mem _ (List.mem_map.2 ⟨z, q, e⟩))
          · subst q
            exact List.mem_cons_of_mem _ (List.mem_cons_of_mem _ (List.mem_map.2 ⟨x, List.mem_of_getElem? hj, e⟩))
    exact ⟨v, hmem, hg⟩
theorem appPt {v : Value} {n : Nat} {cs : List Value} (hown : W.ownsRow 0 81 3 v n cs) (hn : n ≤ 1000000) (c3 : List Value) (h3 : c3.length = 3) (h1 : ∀ u ∈ c3, u.oneCell' = true) :
    ∃ A cap w', (Builtin.append_ #[48, 48] 48 #[v, .slice (some ⟨W.heap.size, 0, none⟩) 1 1]).run Tryz.prog (W.alloc (.cells c3.toArray 81)) = .ok (.slice A (n + 1) cap) w' ∧ w'.ownsRow 0 81 3 (.slice A (n + 1) cap) (n + 1) (cs ++ c3) ∧ Only v.ownBlock.toList W w' ∧
      ∀ g, (Value.slice A (n + 1) cap).ownBlock = some g → v.ownBlock = some g ∨ W.heap.size ≤ g := by
  have hO : Only [] W (W.alloc (.cells c3.toArray 81)) := ((Only.refl [] W).alloc _)
  obtain ⟨A, cap, w', k1, k2, k3, k4⟩ := run_app (P := Tryz.prog) (w := (W.alloc (.cells c3.toArray 81))) 48 48 0 81 (.agg #[.slice none 0 0, .int .i64 0, .bool false]) 3 40 Tryz.underlying48 infoPt rfl (by decide) (own_only hown hO (by simp)) ((slc_new1 (w := W) (e := 81) (size := 3) (cs := c3) (by rw [h3]))) h1 (by omega) (by unfold maxLen; omega) (Nat.zero_le _)
  refine ⟨A, cap, w', k1, k2, hO.of_nil.trans k3, fun g hg => (k4 g hg).imp id (fun q => ?_)⟩
  have := hO.size
  omega
/-- A part is put behind the others. -/
theorem LogOn.add {pv2 : Value} {y : Value × PartL} (h : LogOn a R w W lb db mb d L kv pv xs) (k : Only pv.ownBlock.toList W w')
    (hr : w'.ownsRow 0 81 3 pv2 (xs.length + 1) (xs.flatMap partCells ++ partCells y)) (hf : ∀ g, pv2.ownBlock = some g → pv.ownBlock = some g ∨ W.heap.size ≤ g)
    (hv : Slc w' 1 y.1 y.2.bodies.length (strs y.2.bodies)) (hg : y.2.done = true ∨ Grows w' y.1 y.2.bodies)
    (hy : ∀ g, y.1.ownBlock = some g → (∀ v ∈ kv :: pv :: xs.map (·.1), v.ownBlock ≠ some g) ∧ pv2.ownBlock ≠ some g ∧ g ≠ lb ∧ g ≠ db ∧ g ≠ mb ∧ g < w'.heap.size ∧ a.heap.size ≤ g) (hyR : ∀ g, y.1.ownBlock = some g → w.heap.size ≤ g) :
    LogOn a R w (w'.setCell ⟨lb, 3, none⟩ pv2) lb db mb d { L with ps := L.ps ++ [y.2] } kv pv2 (xs ++ [y]) := by
  have hlb : ∀ v ∈ kv :: pv :: xs.map (·.1), ∀ g, v.ownBlock = some g → g ≠ lb := fun v hv g hg => (h.at_.away v hv g hg).1
  have hpl : lb ∉ pv.ownBlock.toList := fun hq => hlb pv (by simp) lb (by simpa using hq) rfl
  have k2 : Only [lb] w' (w'.setCell ⟨lb, 3, none⟩ pv2) := (Only.refl _ _).setCell (.inl (by simp)) _
  have k3 : Only (lb :: pv.ownBlock.toList) W (w'.setCell ⟨lb, 3, none⟩ pv2) := (k.mono (fun g hg => List.mem_cons_of_mem _ hg)).trans (k2.mono (fun g hg => by rw [List.mem_singleton.1 hg]; exact List.mem_cons_self ..))
  have hpv2 : ∀ g, pv2.ownBlock = some g → g ∉ [lb] := fun g hg hm => by
    rw [List.mem_singleton.1 hm] at hg
    rcases hf lb hg with q | q
    · exact hlb pv (by simp) lb q rfl
    · have := h.at_.lt.1; omega
  have hyl : ∀ g, y.1.ownBlock = some g → g ∉ [lb] := fun g hg hm => (hy g hg).2.2.1 (List.mem_singleton.1 hm)
  have hs := h.only.size
  refine ⟨LogAt.add h.at_ k3 rfl ?_ (own_only hr k2 hpv2) hf (hv.only k2 hyl) (hg.imp id (fun q => q.only k2 hyl)) (fun g hg => ?_), h.only.step k3 (fun g hg => h.sub g ?_), fun g hg => ?_⟩
  · exact (k.blk h.at_.blk hpl).set 3 pv2
  · obtain ⟨q1, q2, q3, q4, q5, q6, q7⟩ := hy g hg
    exact ⟨q1, q2, q3, q4, q5, by have := k2.size; omega, q7⟩
  · refine mem_lblk.2 ?_
    rcases List.mem_cons.1 hg with e | e
    · exact .inl e
    · exact .inr (.inr (.inr ⟨pv, by simp, by simpa using e⟩))
  · rcases mem_lblk.1 hg with e | e | e | ⟨v, hv, hq⟩
    · exact h.sub g (mem_lblk.2 (.inl e))
    · exact h.sub g (mem_lblk.2 (.inr (.inl e)))
    · exact h.sub g (mem_lblk.2 (.inr (.inr (.inl e))))
    · rcases List.mem_cons.1 hv with e | hv
      · exact h.sub g (mem_lblk.2 (.inr (.inr (.inr ⟨v, by simp [e], hq⟩))))
      · rcases List.mem_cons.1 hv with e | hv
        · subst e
          rcases hf g hq with q | q
          · exact h.sub g (mem_lblk.2 (.inr (.inr (.inr ⟨pv, by simp, q⟩))))
          · exact .inr (by omega)
        · rw [List.map_append] at hv
          rcases List.mem_append.1 hv with hv | hv
          · exact h.sub g (mem_lblk.2 (.inr (.inr (.inr ⟨v, List.mem_cons_of_mem _ (List.mem_cons_of_mem _ hv), hq⟩))))
          · rw [show v = y.1 by simpa using hv] at hq
            exact .inr (hyR g hq)
end
end Go.Proofs.YtfjkjndpndjfpaaGreatDoor
/- Contracts: there is a chunk that has room for a record (chunklog next). -/
set_option linter.unusedVariables false
set_option linter.unusedSimpArgs false
namespace Go.Proofs.YtfjkjndpndjfpaaGreatDoor
open Go Go.RowKit Go.Sort
theorem startE_le (k size : Int) : (startE k size).1.length ≤ 33 := by
  unfold startE
  split
  · simp
  · dsimp only; rw [startB_len]; exact Nat.le_refl _
theorem finE_le (k c : Int) : (finE k c).1.length ≤ 33 := by
  unfold finE
  split
  · simp
  · dsimp only; rw [finB_len]; exact Nat.le_refl _
theorem fresh_is (L : LogS) (d : DS) {n : Nat} (hn : L.ps.length = n) : L.fresh d = if (startE n L.size).2 ≠ 0 then (20, L, d) else
    if (L.file d n (startE n L.size).1).1 ≠ 0 then L.file d n (startE n L.size).1 else (0, { (L.file d n (startE n L.size).1).2.1 with ps := (L.file d n (startE n L.size).1).2.1.ps ++ [PartL.zero] }, (L.file d n (startE n L.size).1).2.2) := by
  unfold LogS.fresh
  rw [hn]
theorem fresh_ok {L : LogS} {d : DS} {M : Nat} (h : d.Ok M) : (L.fresh d).2.2.Ok (M + 33) := by
  have h2 := startE_le L.ps.length L.size
  unfold LogS.fresh
  dsimp only
  split
  · exact h.mono (by omega)
  · split
    · exact (LogS.file_ok h _ _).mono (by omega)
    · exact (LogS.file_ok h _ _).mono (by omega)
/-- Numbers of a log that are small. -/
structure LogS.Sm (L : LogS) : Prop where
  pre : L.pre.size ≤ 1000
  size : L.size ≤ 1000000000
  few : L.ps.length ≤ 1000000
  len : L.len ≤ 1000000000
  used : ∀ p ∈ L.ps, 0 ≤ p.used ∧ p.used ≤ 1000000000
section
variable {a w w1 w' : World} {lb db mb M : Nat} {d : DS} {L : LogS} {kv pv : Value} {xs : List (Value × PartL)}
theorem LogAt.cell1 (h : LogAt a w lb db mb d L kv pv xs) : w.cell? ⟨lb, 1, none⟩ = some (.string L.pre) := h.blk.cell 1
theorem LogAt.cell2 (h : LogAt a w lb db mb d L kv pv xs) : w.cell? ⟨lb, 2, none⟩ = some (.int .i64 L.size) := h.blk.cell 2
theorem LogAt.cell4 (h : LogAt a w lb db mb d L kv pv xs) : w.cell? ⟨lb, 4, none⟩ = some (.int .i64 L.synced) := h.blk.cell 4
theorem LogAt.cell5 (h : LogAt a w lb db mb d L kv pv xs) : w.cell? ⟨lb, 5, none⟩ = some (.int .i64 L.mark) := h.blk.cell 5
theorem LogAt.cell6 (h : LogAt a w lb db mb d L kv pv xs) : w.cell? ⟨lb, 6, none⟩ = some (.int .i64 L.bad) := h.blk.cell 6
set_option maxRecDepth 100000 in
set_option maxHeartbeats 4000000 in
theorem jnext_none (h : LogAt a w lb db mb d L kv pv xs) (hs : L.Sm) (hk : d.Ok M) (hM : M + 33 ≤ 1125899906842624) (body : ByteArray) (hx : xs = []) :
    Calls Tryz.prog 68 #[.pointer (some ⟨lb, 0, none⟩), .string body] w fun e w' => e = .returned (.int .i64 (L.next d body).1) ∧ LTo a lb db mb (lblk lb db mb kv pv xs) w w' (L.next d body).2 := by
  have hnx : L.next d body = L.fresh d := by unfold LogS.next; rw [h.ps, hx]; rfl
  rw [hnx]
  obtain ⟨B, bc, hpv, hbc, hbm⟩ := own_form h.row
  have hlen : xs.length = 0 := by rw [hx]; rfl
  subst hpv
  have HK := Lib.hid (show L.pre.size ≤ 1000 ∧ d.Ok M ∧ M + 33 ≤ 1125899906842624 from ⟨hs.pre, hk, hM⟩)
  have HLst := Lib.hid fun (w1 : World) (k1 : Only [] w w1) => jlast_none (w := w1) (A := B) (cap := bc) (by have := (h.only0 k1).blk; rw [hlen] at this; exact this)
  have HO := Lib.hid (LogOn.refl h)
  obtain ⟨R, hR⟩ : ∃ R, lblk lb db mb kv (.slice B xs.length bc) xs = R := ⟨_, rfl⟩
  rw [hR] at HO ⊢
  have hlx := Lib.hid hlen
  have hxb : xs.length ≤ 1000000 := by omega
  clear hnx hR h hs hk hM hx hlen
  go_enter Tryz.func68, Tryz.ntmps68
  go_wp2_with (go_at_call 71; refine (HLst.out _ (Only.refl _ _)).mono ?_; rintro e1 w1 ⟨rfl, rfl⟩)
  refine wp_region_quiet_below (by kernel_rfl) (by kernel_rfl) ?_
  repeat (go_big_quiet_step (fail))
  refine wpQuiet_nil ?_
  rintro _ ⟨p, rfl⟩
  have hO1 := Only.regrown [] w1 p.d p.os
  obtain ⟨W, hW⟩ : ∃ W, grow (redrawn w1 p.d) p.os = W := ⟨_, rfl⟩
  rw [hW] at hO1 ⊢
  have HO1 := Lib.hid (HO.out.only0 hO1)
  clear hW
  go_wp2_with fail
  have HS := Lib.hid (fun (w1 : World) => start_any (w := w1) ((xs.length : Int)) L.size)
  have c2 := HO1.out.at_.cell2
  have c3 := HO1.out.at_.cell3
  have G2 := Within.cell (S := []) c2 (by simp)
  have G3 := Within.cell (S := []) c3 (by simp)
  have hsl := startE_le ((xs.length : Int)) L.size
  have HFr := Lib.hid (fresh_is L d (n := xs.length) (by have h9 := congrArg List.length HO1.out.at_.ps; rw [List.length_map] at h9; omega))
  obtain ⟨⟨sb, se⟩, hst⟩ : ∃ q, startE ((xs.length : Int)) L.size = q := ⟨_, rfl⟩
  rw [hst] at HS HFr hsl
  dsimp only at HS HFr hsl
  clear hst
  by_cases hse : se = 0
  · subst hse
    have HFr := Lib.hid (HFr.out.trans (if_neg (by simp)))
    have HJ := Lib.hid (fun (w1 : World) (k1 : Only [] _ w1) => jfile_at (HO1.out.only0 k1).at_ HK.out.1 HK.out.2.1 (k := (xs.length : Int)) (by omega) (by omega) sb (by have := HK.out.2.2; omega))
    have hps2 : (L.file d ((xs.length : Int)) sb).2.1.ps = L.ps := (LogS.told_ps _ _).1
    obtain ⟨⟨fe, L9, d9⟩, hfe⟩ : ∃ q, L.file d ((xs.length : Int)) sb = q := ⟨_, rfl⟩
    rw [hfe] at HJ HFr hps2
    dsimp only at HJ HFr hps2
    have HP2 := Lib.hid hps2
    clear hfe hps2
    refine wp_region_in2 [] [0, 1, 2, 3, 4, 5, 6, 7, 8] [9] [10, 11, 12] [13] [14] (by kernel_rfl) (by kernel_rfl) (by intro c d u a w h; cases d <;> exact h) ?_
    show wpQuiet _ _ _ _ [_, _, _, _, _, _, _, _, _] _
    repeat (go_big_quiet_step (fail))
    refine wpQuiet_nil ?_
    show wpList _ _ _ [_] _ _
    go_wp2_with (go_at_call 83; refine (HS.out _).mono ?_; rintro e7 w7 ⟨rfl, k7⟩)
    have k7 := (Only.refl [] _).drew.trans k7
    refine check_of (S := []) k7 ?_
    show wpQuiet _ _ _ _ [_, _, _] _
    repeat (go_big_quiet_step (fail))
    refine wpQuiet_nil ?_
    show wpList _ _ _ [_] _ _
    go_wp2
    refine check_of (S := []) k7 ?_
    show wpList _ _ _ [_] _ _
    have HJ2 := Lib.hid (HJ.out _ k7)
    have HO7 := Lib.hid (HO1.out.only0 k7)
    have c3 := HO7.out.at_.cell3
    clear HJ c2 G2 G3
    by_cases hfe0 : fe = 0
    · subst hfe0
      have HFr2 := Lib.hid (HFr.out.trans (if_neg (by simp)))
      go_wp2_with (first
        | (go_at_call 70; refine HJ2.out.mono ?_; rintro e8 w8 ⟨rfl, k8⟩
           obtain ⟨kv8, h8⟩ := HO7.out.to k8
           have HO8 := Lib.hid h8
           have c3 := h8.at_.cell3
           obtain ⟨A4, cap4, w4, hr4, hown4, hO4, hf4⟩ := appPt h8.at_.row (by omega) [.slice none 0 0, .int .i64 0, .bool false] rfl (by intro u hu; simp at hu; rcases hu with rfl | rfl | rfl <;> rfl)
           have hpl : lb ∉ (Value.slice B xs.length bc).ownBlock.toList := fun hq => (h8.at_.away (Value.slice B xs.length bc) (by simp) lb (by simpa using hq)).1 rfl
           have f3 := (hO4.blk h8.at_.blk hpl).free 3
           have q3 := (hO4.blk h8.at_.blk hpl).cell 3
           have HR4 := Lib.hid hr4
           have HW4 := Lib.hid hown4
           clear hr4 hown4 hpl k8 h8)
        | (at_builtin; refine Lib.wpList_append_run _ rfl (.tmp 112) (.tmp 114) 48 48 rfl _ _ rfl rfl _ _ HR4.out ?_))
      go_ret
      have hadd := HO8.out.add (y := (.slice none 0 0, PartL.zero)) hO4 HW4.out hf4 (Slc.nil _ 1) (.inr (.inl (World.ownsRow_nil _ _ _ _))) (fun g hg => by cases hg) (fun g hg => by cases hg)
      first | rw [HN3.out, HFr2.out] | rw [HFr2.out]
      first | exact ⟨rfl, hadd.lto⟩ | exact ⟨rfl, by have h9 := hadd.lto; rw [hxl] at h9; exact h9⟩
    · have HFr2 := Lib.hid (HFr.out.trans (if_pos hfe0))
      go_wp2_with (go_at_call 70; refine HJ2.out.mono ?_; rintro e8 w8 ⟨rfl, k8⟩)
      go_ret
      obtain ⟨kv8, h8⟩ := HO7.out.to k8
      first | rw [HN3.out, HFr2.out] | rw [HFr2.out]
      exact ⟨rfl, h8.lto⟩
  · have HFr2 := Lib.hid (HFr.out.trans (if_pos hse))
    refine wp_region_in2 [] [0, 1, 2, 3, 4, 5, 6, 7, 8] [9] [10, 11, 12] [13] [14] (by kernel_rfl) (by kernel_rfl) (by intro c d u a w h; cases d <;> exact h) ?_
    show wpQuiet _ _ _ _ [_, _, _, _, _, _, _, _, _] _
    repeat (go_big_quiet_step (fail))
    refine wpQuiet_nil ?_
    show wpList _ _ _ [_] _ _
    go_wp2_with (go_at_call 83; refine (HS.out _).mono ?_; rintro e7 w7 ⟨rfl, k7⟩)
    have k7 := (Only.refl [] _).drew.trans k7
    refine check_of (S := []) k7 ?_
    show wpQuiet _ _ _ _ [_, _, _] _
    repeat (go_big_quiet_step (fail))
    refine wpQuiet_nil ?_
    show wpList _ _ _ [_] _ _
    go_wp2
    refine check_of (S := []) k7 ?_
    show wpList _ _ _ [_] _ _
    go_wp2
    go_ret
    first | rw [HN3.out, HFr2.out] | rw [HFr2.out]
    exact ⟨rfl, (HO1.out.only0 k7).lto⟩
end
end Go.Proofs.YtfjkjndpndjfpaaGreatDoor
/- Contracts: there is a chunk that has room for a record (chunklog next), all ways. -/
set_option linter.unusedVariables false
set_option linter.unusedSimpArgs false
namespace Go.Proofs.YtfjkjndpndjfpaaGreatDoor
open Go Go.RowKit Go.Sort
section
variable {a w w1 w' : World} {lb db mb M : Nat} {d : DS} {L : LogS} {kv pv : Value} {xs : List (Value × PartL)}
theorem next_some (L : LogS) (d : DS) (body : ByteArray) {p : PartL} (hp : L.ps.getLast? = some p) : L.next d body = if p.done then L.fresh d else if (body.size : Int) ≤ roomC L.size p.used then (0, L, d) else
    if (L.file d (L.ps.length - 1) (finE (L.ps.length - 1) p.bodies.length).1).1 ≠ 0 then L.file d (L.ps.length - 1) (finE (L.ps.length - 1) p.bodies.length).1 else
      if (((L.file d (L.ps.length - 1) (finE (L.ps.length - 1) p.bodies.length).1).2.1.setPart (L.ps.length - 1) { p with done := true }).sync (L.file d (L.ps.length - 1) (finE (L.ps.length - 1) p.bodies.length).1).2.2).1 ≠ 0 then
        ((L.file d (L.ps.length - 1) (finE (L.ps.length - 1) p.bodies.length).1).2.1.setPart (L.ps.length - 1) { p with done := true }).sync (L.file d (L.ps.length - 1) (finE (L.ps.length - 1) p.bodies.length).1).2.2
      else (((L.file d (L.ps.length - 1) (finE (L.ps.length - 1) p.bodies.length).1).2.1.setPart (L.ps.length - 1) { p with done := true }).sync (L.file d (L.ps.length - 1) (finE (L.ps.length - 1) p.bodies.length).1).2.2).2.1.fresh
        (((L.file d (L.ps.length - 1) (finE (L.ps.length - 1) p.bodies.length).1).2.1.setPart (L.ps.length - 1) { p with done := true }).sync (L.file d (L.ps.length - 1) (finE (L.ps.length - 1) p.bodies.length).1).2.2).2.2 := by
  unfold LogS.next
  rw [hp]
theorem LogAt.last (h : LogAt a w lb db mb d L kv pv xs) {m : Nat} (hm : xs.length = m + 1) : ∃ x, xs[m]? = some x ∧ L.ps.getLast? = some x.2 ∧ x ∈ xs := by
  have hl : m < xs.length := by omega
  refine ⟨xs[m], List.getElem?_eq_getElem hl, ?_, List.getElem_mem hl⟩
  rw [h.ps, List.getLast?_eq_getElem?, List.length_map, show xs.length - 1 = m by omega, List.getElem?_map, List.getElem?_eq_getElem hl]
  rfl
set_option maxRecDepth 100000 in
set_option maxHeartbeats 4000000 in
theorem jnext_done (h : LogAt a w lb db mb d L kv pv xs) (hs : L.Sm) (hk : d.Ok M) (hM : M + 33 ≤ 1125899906842624) (body : ByteArray) {m : Nat} (hm : xs.length = m + 1) {x : Value × PartL} (hx : xs[m]? = some x) (hd : x.2.done = true) :
    Calls Tryz.prog 68 #[.pointer (some ⟨lb, 0, none⟩), .string body] w fun e w' => e = .returned (.int .i64 (L.next d body).1) ∧ LTo a lb db mb (lblk lb db mb kv pv xs) w w' (L.next d body).2 := by
  obtain ⟨x', hx', hgl, hxm⟩ := h.last hm
  obtain rfl : x' = x := by rw [hx] at hx'; exact (Option.some.inj hx').symm
  have hnx : L.next d body = L.fresh d := by rw [next_some L d body hgl, if_pos hd]
  rw [hnx]
  have hps : L.ps.length = xs.length := by rw [h.ps, List.length_map]
  have hxb : xs.length ≤ 1000000 := by have := hs.few; omega
  have hml : m < xs.length := by omega
  obtain ⟨g, bc, hpv, hgb, -, -, g2⟩ := h.at hml
  have hxe : xs[m] = x' := (List.getElem?_eq_some_iff.1 hx').2
  rw [hxe, hd] at g2
  subst hpv
  have HK := Lib.hid (show L.pre.size ≤ 1000 ∧ d.Ok M ∧ M + 33 ≤ 1125899906842624 from ⟨hs.pre, hk, hM⟩)
  have HLst := Lib.hid fun (w1 : World) (k1 : Only [] w w1) => jlast_some (w := w1) (n := m) (g := g) (cap := bc) (by have := (h.only0 k1).blk; rw [hm] at this; exact this) (by omega)
  have HO := Lib.hid (LogOn.refl h)
  obtain ⟨B, hB⟩ : ∃ B : Option Addr, B = some ⟨g, 0, none⟩ := ⟨_, rfl⟩
  rw [← hB] at HO ⊢
  obtain ⟨R, hR⟩ : ∃ R, lblk lb db mb kv (.slice B xs.length bc) xs = R := ⟨_, rfl⟩
  rw [hR] at HO ⊢
  clear hnx hR h hs hk hM hx hx' hgl hxm hxe hm hps hB
  go_enter Tryz.func68, Tryz.ntmps68
  go_wp2_with (go_at_call 71; refine (HLst.out _ (Only.refl _ _)).mono ?_; rintro e1 w1 ⟨rfl, k1⟩)
  have G := fun e os => ((k1.trans (Only.regrown [] w1 e os)).cell (p := ⟨g, m * 3 + 2, none⟩) hgb (by simp)).trans g2
  refine wp_region_quiet_below (by kernel_rfl) (by kernel_rfl) ?_
  repeat (go_big_quiet_step (fail))
  refine wpQuiet_nil ?_
  rintro _ ⟨p, rfl⟩
  have hO1 := k1.trans (Only.regrown [] w1 p.d p.os)
  obtain ⟨W, hW⟩ : ∃ W, grow (redrawn w1 p.d) p.os = W := ⟨_, rfl⟩
  rw [hW] at hO1 ⊢
  have HO1 := Lib.hid (HO.out.only0 hO1)
  have G4 := (hO1.cell (p := ⟨g, m * 3 + 2, none⟩) hgb (by simp)).trans g2
  clear hW G
  go_wp2_with fail
  have HS := Lib.hid (fun (w1 : World) => start_any (w := w1) ((xs.length : Int)) L.size)
  have c2 := HO1.out.at_.cell2
  have c3 := HO1.out.at_.cell3
  have G2 := Within.cell (S := []) c2 (by simp)
  have G3 := Within.cell (S := []) c3 (by simp)
  have hsl := startE_le ((xs.length : Int)) L.size
  have HFr := Lib.hid (fresh_is L d (n := xs.length) (by have h9 := congrArg List.length HO1.out.at_.ps; rw [List.length_map] at h9; omega))
  obtain ⟨⟨sb, se⟩, hst⟩ : ∃ q, startE ((xs.length : Int)) L.size = q := ⟨_, rfl⟩
  rw [hst] at HS HFr hsl
  dsimp only at HS HFr hsl
  clear hst
  by_cases hse : se = 0
  · subst hse
    have HFr := Lib.hid (HFr.out.trans (if_neg (by simp)))
    have HJ := Lib.hid (fun (w1 : World) (k1 : Only [] _ w1) => jfile_at (HO1.out.only0 k1).at_ HK.out.1 HK.out.2.1 (k := (xs.length : Int)) (by omega) (by omega) sb (by have := HK.out.2.2; omega))
    have hps2 : (L.file d ((xs.length : Int)) sb).2.1.ps = L.ps := (LogS.told_ps _ _).1
    obtain ⟨⟨fe, L9, d9⟩, hfe⟩ : ∃ q, L.file d ((xs.length : Int)) sb = q := ⟨_, rfl⟩
    rw [hfe] at HJ HFr hps2
    dsimp only at HJ HFr hps2
    have HP2 := Lib.hid hps2
    clear hfe hps2
    refine wp_region_in2 [] [0, 1, 2, 3, 4, 5, 6, 7, 8] [9] [10, 11, 12] [13] [14] (by kernel_rfl) (by kernel_rfl) (by intro c d u a w h; cases d <;> exact h) ?_
    show wpQuiet _ _ _ _ [_, _, _, _, _, _, _, _, _] _
    repeat (go_big_quiet_step (fail))
    refine wpQuiet_nil ?_
    show wpList _ _ _ [_] _ _
    go_wp2_with (go_at_call 83; refine (HS.out _).mono ?_; rintro e7 w7 ⟨rfl, k7⟩)
    have k7 := (Only.refl [] _).drew.trans k7
    refine check_of (S := []) k7 ?_
    show wpQuiet _ _ _ _ [_, _, _] _
    repeat (go_big_quiet_step (fail))
    refine wpQuiet_nil ?_
    show wpList _ _ _ [_] _ _
    go_wp2
    refine check_of (S := []) k7 ?_
    show wpList _ _ _ [_] _ _
    have HJ2 := Lib.hid (HJ.out _ k7)
    have HO7 := Lib.hid (HO1.out.only0 k7)
    have c3 := HO7.out.at_.cell3
    clear HJ c2 G2 G3
    by_cases hfe0 : fe = 0
    · subst hfe0
      have HFr2 := Lib.hid (HFr.out.trans (if_neg (by simp)))
      go_wp2_with (first
        | (go_at_call 70; refine HJ2.out.mono ?_; rintro e8 w8 ⟨rfl, k8⟩
           obtain ⟨kv8, h8⟩ := HO7.out.to k8
           have HO8 := Lib.hid h8
           have c3 := h8.at_.cell3
           obtain ⟨A4, cap4, w4, hr4, hown4, hO4, hf4⟩ := appPt h8.at_.row (by omega) [.slice none 0 0, .int .i64 0, .bool false] rfl (by intro u hu; simp at hu; rcases hu with rfl | rfl | rfl <;> rfl)
           have hpl : lb ∉ (Value.slice B xs.length bc).ownBlock.toList := fun hq => (h8.at_.away (Value.slice B xs.length bc) (by simp) lb (by simpa using hq)).1 rfl
           have f3 := (hO4.blk h8.at_.blk hpl).free 3
           have q3 := (hO4.blk h8.at_.blk hpl).cell 3
           have HR4 := Lib.hid hr4
           have HW4 := Lib.hid hown4
           clear hr4 hown4 hpl k8 h8)
        | (at_builtin; refine Lib.wpList_append_run _ rfl (.tmp 112) (.tmp 114) 48 48 rfl _ _ rfl rfl _ _ HR4.out ?_))
      go_ret
      have hadd := HO8.out.add (y := (.slice none 0 0, PartL.zero)) hO4 HW4.out hf4 (Slc.nil _ 1) (.inr (.inl (World.ownsRow_nil _ _ _ _))) (fun g hg => by cases hg) (fun g hg => by cases hg)
      first | rw [HN3.out, HFr2.out] | rw [HFr2.out]
      first | exact ⟨rfl, hadd.lto⟩ | exact ⟨rfl, by have h9 := hadd.lto; rw [hxl] at h9; exact h9⟩
    · have HFr2 := Lib.hid (HFr.out.trans (if_pos hfe0))
      go_wp2_with (go_at_call 70; refine HJ2.out.mono ?_; rintro e8 w8 ⟨rfl, k8⟩)
      go_ret
      obtain ⟨kv8, h8⟩ := HO7.out.to k8
      first | rw [HN3.out, HFr2.out] | rw [HFr2.out]
      exact ⟨rfl, h8.lto⟩
  · have HFr2 := Lib.hid (HFr.out.trans (if_pos hse))
    refine wp_region_in2 [] [0, 1, 2, 3, 4, 5, 6, 7, 8] [9] [10, 11, 12] [13] [14] (by kernel_rfl) (by kernel_rfl) (by intro c d u a w h; cases d <;> exact h) ?_
    show wpQuiet _ _ _ _ [_, _, _, _, _, _, _, _, _] _
    repeat (go_big_quiet_step (fail))
    refine wpQuiet_nil ?_
    show wpList _ _ _ [_] _ _
    go_wp2_with (go_at_call 83; refine (HS.out _).mono ?_; rintro e7 w7 ⟨rfl, k7⟩)
    have k7 := (Only.refl [] _).drew.trans k7
    refine check_of (S := []) k7 ?_
    show wpQuiet _ _ _ _ [_, _, _] _
    repeat (go_big_quiet_step (fail))
    refine wpQuiet_nil ?_
    show wpList _ _ _ [_] _ _
    go_wp2
    refine check_of (S := []) k7 ?_
    show wpList _ _ _ [_] _ _
    go_wp2
    go_ret
    first | rw [HN3.out, HFr2.out] | rw [HFr2.out]
    exact ⟨rfl, (HO1.out.only0 k7).lto⟩
set_option maxRecDepth 100000 in
set_option maxHeartbeats 4000000 in
theorem jnext_fits (h : LogAt a w lb db mb d L kv pv xs) (hs : L.Sm) (body : ByteArray) {m : Nat} (hm : xs.length = m + 1) {x : Value × PartL} (hx : xs[m]? = some x) (hd : x.2.done = false) (hf : (body.size : Int) ≤ roomC L.size x.2.used) :
    Calls Tryz.prog 68 #[.pointer (some ⟨lb, 0, none⟩), .string body] w fun e w' => e = .returned (.int .i64 (L.next d body).1) ∧ LTo a lb db mb (lblk lb db mb kv pv xs) w w' (L.next d body).2 := by
  obtain ⟨x', hx', hgl, hxm⟩ := h.last hm
  obtain rfl : x' = x := by rw [hx] at hx'; exact (Option.some.inj hx').symm
  have hnx : L.next d body = (0, L, d) := by rw [next_some L d body hgl, if_neg (by simp [hd]), if_pos hf]
  rw [hnx]
  have hml : m < xs.length := by omega
  obtain ⟨g, bc, hpv, hgb, -, g1, g2⟩ := h.at hml
  have hxe : xs[m] = x' := (List.getElem?_eq_some_iff.1 hx').2
  rw [hxe] at g1
  rw [hxe, hd] at g2
  subst hpv
  have hu := hs.used x'.2 (by rw [h.ps]; exact List.mem_map.2 ⟨x', hxm, rfl⟩)
  obtain ⟨u, hue⟩ : ∃ u, x'.2.used = u := ⟨_, rfl⟩
  rw [hue] at g1 hu hf
  have HC := Lib.hid fun (w1 : World) => croom_any (w := w1) L.size u hs.size hu.2
  have hdec : decide ((body.size : Int) ≤ roomC L.size u) = true := decide_eq_true hf
  have HLst := Lib.hid fun (w1 : World) (k1 : Only [] w w1) => jlast_some (w := w1) (n := m) (g := g) (cap := bc) (by have := (h.only0 k1).blk; rw [hm] at this; exact this) (by have := hs.few; rw [h.ps, List.length_map] at this; omega)
  have HO := Lib.hid (LogOn.refl h)
  obtain ⟨R, hR⟩ : ∃ R, lblk lb db mb kv (.slice (some ⟨g, 0, none⟩) xs.length bc) xs = R := ⟨_, rfl⟩
  rw [hR] at HO ⊢
  obtain ⟨rm, hrm⟩ : ∃ rm, roomC L.size u = rm := ⟨_, rfl⟩
  rw [hrm] at HC hdec
  clear hnx hR h hs hx hx' hgl hxm hxe hm hrm hue hf hu
  go_enter Tryz.func68, Tryz.ntmps68
  go_wp2_with (go_at_call 71; refine (HLst.out _ (Only.refl _ _)).mono ?_; rintro e1 w1 ⟨rfl, k1⟩)
  have c2 := Within.cell (S := []) ((HO.out.only0 k1).at_.cell2) (by simp)
  have G1 := Within.cell (S := []) ((k1.cell (p := ⟨g, m * 3 + 1, none⟩) hgb (by simp)).trans g1) (by simp)
  have G2 := Within.cell (S := []) ((k1.cell (p := ⟨g, m * 3 + 2, none⟩) hgb (by simp)).trans g2) (by simp)
  refine wp_region_in [] [0, 1, 2, 3, 4, 5, 6, 7, 8, 9, 10, 11, 12, 13, 14, 15, 16, 17, 18, 19] [20, 21, 22] [] (by kernel_rfl) (by kernel_rfl) (by intro c d u a w h; cases d <;> exact h) ?_
  show wpQuiet _ _ _ _ [_, _, _, _, _, _, _, _, _, _, _, _, _, _, _, _, _, _, _, _] _
  repeat (go_big_quiet_step (fail))
  refine wpQuiet_nil ?_
  show wpList _ _ _ [_] _ _
  go_wp2_with (go_at_call 38; refine (HC.out _).mono ?_; rintro e2 w2 ⟨rfl, rfl⟩)
  refine check_of (S := []) (Only.refl _ _).drew ?_
  show wpList _ _ _ [_] _ _
  go_wp2_with fail
  refine check_of (S := []) (Only.refl _ _).drew ?_
  show wpList _ _ _ [_] _ _
  go_wp2_with fail
  refine check_last (S := []) (Only.refl _ _).drew (fun _ _ q => q) ?_
  go_wp2
  go_ret
  exact ⟨rfl, (HO.out.only0 k1.drew).lto⟩
end
end Go.Proofs.YtfjkjndpndjfpaaGreatDoor
/- Contracts: there is a chunk that has room for a record (chunklog next): the last one is finished; all ways. -/
set_option linter.unusedVariables false
set_option linter.unusedSimpArgs false
namespace Go.Proofs.YtfjkjndpndjfpaaGreatDoor
open Go Go.RowKit Go.Sort
section
variable {a w w1 w' : World} {lb db mb M : Nat} {d : DS} {L : LogS} {kv pv : Value} {xs : List (Value × PartL)}
theorem len_setDone {L : LogS} {k : Nat} {p : PartL} (h : L.ps[k]? = some p) (b : Bool) : (L.setPart k { p with done := b }).len = L.len := by
  obtain ⟨hk, he⟩ := List.getElem?_eq_some_iff.1 h
  unfold LogS.len LogS.setPart
  dsimp only
  rw [List.map_set]
  congr 1
  refine List.ext_getElem? fun i => ?_
  rw [List.getElem?_set]
  split
  · rename_i e
    subst e
    rw [if_pos (by simpa using hk), List.getElem?_map, h]
    rfl
  · rfl
theorem LogAt.atg {g n cap k : Nat} {x : Value × PartL} (h : LogAt a w lb db mb d L kv (.slice (some ⟨g, 0, none⟩) n cap) xs) (hk : xs[k]? = some x) :
    w.cell? ⟨g, k * 3, none⟩ = some x.1 ∧ w.cell? ⟨g, k * 3 + 1, none⟩ = some (.int .i64 x.2.used) ∧ w.cell? ⟨g, k * 3 + 2, none⟩ = some (.bool x.2.done) ∧ ∀ i, w.frozen? ⟨g, i, none⟩ = false := by
  obtain ⟨hl, he⟩ := List.getElem?_eq_some_iff.1 hk
  obtain ⟨g', cap', hpv, _, h0, h1, h2⟩ := h.at hl
  injection hpv with e1
  injection e1 with e1
  injection e1 with e1
  subst e1
  rw [he] at h0 h1 h2
  obtain ⟨cur, hcur⟩ := own_type h.row (g := g) rfl
  exact ⟨h0, h1, h2, fun i => hcur.free i⟩
set_option maxRecDepth 100000 in
set_option maxHeartbeats 8000000 in
theorem jnext_full (h : LogAt a w lb db mb d L kv pv xs) (hs : L.Sm) (hk : d.Ok M) (hM : M + 66 ≤ 1125899906842624) (body : ByteArray) {m : Nat} (hm : xs.length = m + 1) {x : Value × PartL} (hx : xs[m]? = some x) (hd : x.2.done = false) (hf : ¬ (body.size : Int) ≤ roomC L.size x.2.used) :
    Calls Tryz.prog 68 #[.pointer (some ⟨lb, 0, none⟩), .string body] w fun e w' => e = .returned (.int .i64 (L.next d body).1) ∧ LTo a lb db mb (lblk lb db mb kv pv xs) w w' (L.next d body).2 := by
  obtain ⟨x', hx', hgl, hxm⟩ := h.last hm
  obtain rfl : x' = x := by rw [hx] at hx'; exact (Option.some.inj hx').symm
  have hps : L.ps.length = xs.length := by rw [h.ps, List.length_map]
  have hnx := next_some L d body hgl
  rw [if_neg (by simp [hd]), if_neg hf, hps, show xs.length - 1 = m by omega] at hnx
  have hml : m < xs.length := by omega
  obtain ⟨g, bc, hpv, hgb, g0, g1, g2⟩ := h.at hml
  have hxe : xs[m] = x' := (List.getElem?_eq_some_iff.1 hx').2
  rw [hxe] at g0
  rw [hxe] at g1
  rw [hxe, hd] at g2
  subst hpv
  have hxb : xs.length ≤ 1000000 := by have := hs.few; omega
  have hu := hs.used x'.2 (by rw [h.ps]; exact List.mem_map.2 ⟨x', hxm, rfl⟩)
  obtain ⟨VA, vc, hV⟩ := slc_len (h.part x' hxm).1
  rw [hV] at g0
  obtain ⟨u, hue⟩ : ∃ u, x'.2.used = u := ⟨_, rfl⟩
  rw [hue] at g1 hu hf
  obtain ⟨bn, hbn⟩ : ∃ bn, x'.2.bodies.length = bn := ⟨_, rfl⟩
  rw [hbn] at g0 hnx
  have HC := Lib.hid fun (w1 : World) => croom_any (w := w1) L.size u hs.size hu.2
  have HLst := Lib.hid fun (w1 : World) (k1 : Only [] w w1) => jlast_some (w := w1) (n := m) (g := g) (cap := bc) (by have := (h.only0 k1).blk; rw [hm] at this; exact this) (by omega)
  have HFi := Lib.hid fun (w1 : World) => finish_any (w := w1) ((xs.length : Int) - 1) (bn : Int)
  have hfl := finE_le ((xs.length : Int) - 1) (bn : Int)
  obtain ⟨⟨fb, fe⟩, hfb⟩ : ∃ q, finE ((xs.length : Int) - 1) (bn : Int) = q := ⟨_, rfl⟩
  rw [hfb] at HFi hnx hfl
  dsimp only at HFi hnx hfl
  have HJF := Lib.hid fun (w1 : World) (k1 : Only [] w w1) => jfile_at (h.only0 k1) hs.pre hk (k := (xs.length : Int) - 1) (by omega) (by omega) fb (by omega)
  have hok2 := LogS.file_ok (L := L) hk ((xs.length : Int) - 1) fb
  have hL2 : (L.file d ((xs.length : Int) - 1) fb).2.1.ps = L.ps ∧ (L.file d ((xs.length : Int) - 1) fb).2.1.pre = L.pre := ⟨(LogS.told_ps _ _).1, (LogS.told_ps _ _).2.1⟩
  obtain ⟨⟨e2, L2, d2⟩, h2⟩ : ∃ q, L.file d ((xs.length : Int) - 1) fb = q := ⟨_, rfl⟩
  rw [h2] at hnx HJF hok2 hL2
  dsimp only at hnx HJF hok2 hL2
  have e1 := IntWalk.i64_in ((xs.length : Int) - 1) ⟨by omega, by omega⟩
  have hdec : decide ((body.size : Int) ≤ roomC L.size u) = false := decide_eq_false hf
  have HO := Lib.hid (LogOn.refl h)
  have hL2p : L2.ps[m]? = some x'.2 := by rw [hL2.1, h.ps, List.getElem?_map, hx]; rfl
  have hlen3 : (L2.setPart m { x'.2 with done := true }).len ≤ 1000000000 := by
    rw [len_setDone hL2p]
    unfold LogS.len
    rw [hL2.1]
    exact hs.len
  have hpre3 : (L2.setPart m { x'.2 with done := true }).pre.size ≤ 1000 := by
    show L2.pre.size ≤ 1000
    rw [hL2.2]
    exact hs.pre
  have hpre4 : ((L2.setPart m { x'.2 with done := true }).sync d2).2.1.pre = L2.pre := by
    unfold LogS.sync
    split
    · rfl
    · dsimp only
      split
      · exact (LogS.told_ps _ _).2.1
      · exact (LogS.told_ps _ _).2.1
  have hok4 : ((L2.setPart m { x'.2 with done := true }).sync d2).2.2.Ok (M + fb.length) := LogS.sync_ok hok2
  have HX := Lib.hid hx
  have HM1 := Lib.hid hM
  have HOK := Lib.hid hok2
  obtain ⟨R, hR⟩ : ∃ R, lblk lb db mb kv (.slice (some ⟨g, 0, none⟩) xs.length bc) xs = R := ⟨_, rfl⟩
  rw [hR] at HO ⊢
  obtain ⟨rm, hrm⟩ : ∃ rm, roomC L.size u = rm := ⟨_, rfl⟩
  rw [hrm] at HC hdec
  obtain ⟨P3, hP3⟩ : ∃ P3 : PartL, { x'.2 with done := true } = P3 := ⟨_, rfl⟩
  obtain ⟨L3, hL3⟩ : ∃ L3, L2.setPart m P3 = L3 := ⟨_, rfl⟩
  rw [hP3, hL3] at hnx hlen3 hpre3 hpre4 hok4
  obtain ⟨⟨e4, L4, d4⟩, h4⟩ : ∃ q, L3.sync d2 = q := ⟨_, rfl⟩
  rw [h4] at hnx hpre4 hok4
  dsimp only at hnx hpre4 hok4
  have HK := Lib.hid (show L4.pre.size ≤ 1000 ∧ d4.Ok (M + fb.length) ∧ (M + fb.length) + 33 ≤ 1125899906842624 from ⟨by rw [hpre4, hL2.2]; exact hs.pre, hok4, by omega⟩)
  have H4 := Lib.hid h4
  have HL3 := Lib.hid hL3
  have HP3 := Lib.hid hP3
  have HN := Lib.hid hnx
  have HL := Lib.hid hlen3
  have HP := Lib.hid hpre3
  have hxl : (xs.set m (x'.1, P3)).length = xs.length := List.length_set ..
  have HXL := Lib.hid hxl
  have HM2 := Lib.hid hm
  clear hnx hR h hs hx hx' hgl hxm hxe hrm hue hf hu hps hV hbn hfb hok2 hL2 h2 hL2p hlen3 hpre3 hpre4 hok4 hP3 hL3 h4 hxl hm hk hM
  go_enter Tryz.func68, Tryz.ntmps68
  go_wp2_with (go_at_call 71; refine (HLst.out _ (Only.refl _ _)).mono ?_; rintro e1 w1 ⟨rfl, k1⟩)
  have c2 := Within.cell (S := []) ((HO.out.only0 k1).at_.cell2) (by simp)
  have G1 := Within.cell (S := []) ((k1.cell (p := ⟨g, m * 3 + 1, none⟩) hgb (by simp)).trans g1) (by simp)
  have G2 := Within.cell (S := []) ((k1.cell (p := ⟨g, m * 3 + 2, none⟩) hgb (by simp)).trans g2) (by simp)
  refine wp_region_in [] [0, 1, 2, 3, 4, 5, 6, 7, 8, 9, 10, 11, 12, 13, 14, 15, 16, 17, 18, 19] [20, 21, 22] [] (by kernel_rfl) (by kernel_rfl) (by intro c d u a w h; cases d <;> exact h) ?_
  show wpQuiet _ _ _ _ [_, _, _, _, _, _, _, _, _, _, _, _, _, _, _, _, _, _, _, _] _
  repeat (go_big_quiet_step (fail))
  refine wpQuiet_nil ?_
  show wpList _ _ _ [_] _ _
  go_wp2_with (go_at_call 38; refine (HC.out _).mono ?_; rintro e2 w2 ⟨rfl, rfl⟩)
  refine check_of (S := []) (Only.refl _ _).drew ?_
  show wpList _ _ _ [_] _ _
  go_wp2_with fail
  refine check_of (S := []) (Only.refl _ _).drew ?_
  show wpList _ _ _ [_] _ _
  go_wp2_with fail
  refine check_last (S := []) (Only.refl _ _).drew (fun _ _ q => q) ?_
  clear c2 G1 G2 hdec
  have k2 := k1.drew
  have F2 := (k2.cell (p := ⟨g, m * 3 + 2, none⟩) hgb (by simp)).trans g2
  have F0 := (k2.cell (p := ⟨g, m * 3, none⟩) hgb (by simp)).trans g0
  have c3 := (HO.out.only0 k2).at_.cell3
  have G3 := Within.cell (S := []) c3 (by simp)
  have G0 := Within.cell (S := []) F0 (by simp)
  go_wp2_with fail
  refine wp_region_in2 [] [0, 1, 2, 3, 4, 5, 6, 7, 8, 9, 10] [11] [12, 13, 14] [15] [16] (by kernel_rfl) (by kernel_rfl) (by intro c d u a w h; cases d <;> exact h) ?_
  show wpQuiet _ _ _ _ [_, _, _, _, _, _, _, _, _, _, _] _
  repeat (go_big_quiet_step (fail))
  refine wpQuiet_nil ?_
  show wpList _ _ _ [_] _ _
  go_wp2_with (go_at_call 85; refine (HFi.out _).mono ?_; rintro e3 w3 ⟨rfl, k3⟩)
  have k3 := (Only.refl [] _).drew.trans k3
  refine check_of (S := []) k3 ?_
  show wpQuiet _ _ _ _ [_, _, _] _
  repeat (go_big_quiet_step (fail))
  refine wpQuiet_nil ?_
  show wpList _ _ _ [_] _ _
  go_wp2
  refine check_of (S := []) k3 ?_
  clear G3 G0 F0
  have k4 := k2.trans k3
  have c3 := (HO.out.only0 k4).at_.cell3
  have HJ1 := Lib.hid (HJF.out _ k4)
  have HO4 := Lib.hid (HO.out.only0 k4)
  clear HJF HLst HC HFi
  by_cases he2 : e2 = 0
  · subst he2
    have HN2 := Lib.hid (HN.out.trans (if_neg (by simp)))
    show wpList _ _ _ [_] _ _
    go_wp2_with (go_at_call 70; refine HJ1.out.mono ?_; rintro e5 w5 ⟨rfl, k5⟩; obtain ⟨kv5, h5⟩ := HO4.out.to k5; have HO5 := Lib.hid h5; obtain ⟨-, -, c52, f5⟩ := h5.at_.atg HX.out; rw [hd] at c52; have f52 := f5 (m * 3 + 2); clear k5 h5 f5)
    have h6 := HO5.out.setDone rfl HX.out
    rw [HP3.out, HL3.out] at h6
    obtain ⟨W6, hW6⟩ : ∃ W6, w5.setCell ⟨g, m * 3 + 2, none⟩ (.bool true) = W6 := ⟨_, rfl⟩
    obtain ⟨xs', hxs⟩ : ∃ xs', xs.set m (x'.1, P3) = xs' := ⟨_, rfl⟩
    rw [hxs] at HXL h6
    rw [hW6] at h6 ⊢
    have hxl := HXL.out
    have HO6 := Lib.hid h6
    have HJ := jsync_at h6.at_ HP.out HOK.out (by have := HM1.out; omega) (by omega) HL.out
    rw [H4.out] at HJ
    dsimp only at HJ
    have HJ := Lib.hid HJ
    clear h6 hW6 hxs F2 c52 f52 c3
    by_cases he4 : e4 = 0
    · subst he4
      have HN3 := Lib.hid (HN2.out.trans (if_neg (by simp)))
      go_wp2_with (go_at_call 40; refine HJ.out.mono ?_; rintro e7 w7 ⟨rfl, k7⟩; obtain ⟨kv7, h7⟩ := HO6.out.to k7; have HO7a := Lib.hid h7; clear k7 h7)
      have HS := Lib.hid (fun (w1 : World) => start_any (w := w1) ((xs.length : Int)) L4.size)
      have c2 := HO7a.out.at_.cell2
      have c3 := HO7a.out.at_.cell3
      have G2 := Within.cell (S := []) c2 (by simp)
      have G3 := Within.cell (S := []) c3 (by simp)
      have hsl := startE_le ((xs.length : Int)) L4.size
      have HFr := Lib.hid (fresh_is L4 d4 (n := xs.length) (by have h9 := congrArg List.length HO7a.out.at_.ps; rw [List.length_map] at h9; omega))
      obtain ⟨⟨sb, se⟩, hst⟩ : ∃ q, startE ((xs.length : Int)) L4.size = q := ⟨_, rfl⟩
      rw [hst] at HS HFr hsl
      dsimp only at HS HFr hsl
      clear hst
      by_cases hse : se = 0
      · subst hse
        have HFr := Lib.hid (HFr.out.trans (if_neg (by simp)))
        have HJ := Lib.hid (fun (w1 : World) (k1 : Only [] _ w1) => jfile_at (HO7a.out.only0 k1).at_ HK.out.1 HK.out.2.1 (k := (xs.length : Int)) (by omega) (by omega) sb (by have := HK.out.2.2; omega))
        have hps2 : (L4.file d4 ((xs.length : Int)) sb).2.1.ps = L4.ps := (LogS.told_ps _ _).1
        obtain ⟨⟨fe, L9, d9⟩, hfe⟩ : ∃ q, L4.file d4 ((xs.length : Int)) sb = q := ⟨_, rfl⟩
        rw [hfe] at HJ HFr hps2
        dsimp only at HJ HFr hps2
        have HP2 := Lib.hid hps2
        clear hfe hps2
        refine wp_region_in2 [] [0, 1, 2, 3, 4, 5, 6, 7, 8] [9] [10, 11, 12] [13] [14] (by kernel_rfl) (by kernel_rfl) (by intro c d u a w h; cases d <;> exact h) ?_
        show wpQuiet _ _ _ _ [_, _, _, _, _, _, _, _, _] _
        repeat (go_big_quiet_step (fail))
        refine wpQuiet_nil ?_
        show wpList _ _ _ [_] _ _
        go_wp2_with (go_at_call 83; refine (HS.out _).mono ?_; rintro e7 w7 ⟨rfl, k7⟩)
        have k7 := (Only.refl [] _).drew.trans k7
        refine check_of (S := []) k7 ?_
        show wpQuiet _ _ _ _ [_, _, _] _
        repeat (go_big_quiet_step (fail))
        refine wpQuiet_nil ?_
        show wpList _ _ _ [_] _ _
        go_wp2
        refine check_of (S := []) k7 ?_
        show wpList _ _ _ [_] _ _
        have HJ2 := Lib.hid (HJ.out _ k7)
        have HO7 := Lib.hid (HO7a.out.only0 k7)
        have c3 := HO7.out.at_.cell3
        clear HJ c2 G2 G3
        by_cases hfe0 : fe = 0
        · subst hfe0
          have HFr2 := Lib.hid (HFr.out.trans (if_neg (by simp)))
          go_wp2_with (first
            | (go_at_call 70; refine HJ2.out.mono ?_; rintro e8 w8 ⟨rfl, k8⟩
               obtain ⟨kv8, h8⟩ := HO7.out.to k8
               have HO8 := Lib.hid h8
               have c3 := h8.at_.cell3
               obtain ⟨A4, cap4, w4, hr4, hown4, hO4, hf4⟩ := appPt h8.at_.row (by omega) [.slice none 0 0, .int .i64 0, .bool false] rfl (by intro u hu; simp at hu; rcases hu with rfl | rfl | rfl <;> rfl)
               have hpl : lb ∉ (Value.slice (some ⟨g, 0, none⟩) xs.length bc).ownBlock.toList := fun hq => (h8.at_.away (Value.slice (some ⟨g, 0, none⟩) xs.length bc) (by simp) lb (by simpa using hq)).1 rfl
               have f3 := (hO4.blk h8.at_.blk hpl).free 3
               have q3 := (hO4.blk h8.at_.blk hpl).cell 3
               have HR4 := Lib.hid hr4
               have HW4 := Lib.hid hown4
               clear hr4 hown4 hpl k8 h8)
            | (at_builtin; refine Lib.wpList_append_run _ rfl (.tmp 112) (.tmp 114) 48 48 rfl _ _ rfl rfl _ _ HR4.out ?_))
          go_ret
          have hadd := HO8.out.add (y := (.slice none 0 0, PartL.zero)) hO4 HW4.out hf4 (Slc.nil _ 1) (.inr (.inl (World.ownsRow_nil _ _ _ _))) (fun g hg => by cases hg) (fun g hg => by cases hg)
          first | rw [HN3.out, HFr2.out] | rw [HFr2.out]
          first | exact ⟨rfl, hadd.lto⟩ | exact ⟨rfl, by have h9 := hadd.lto; rw [hxl] at h9; exact h9⟩
        · have HFr2 := Lib.hid (HFr.out.trans (if_pos hfe0))
          go_wp2_with (go_at_call 70; refine HJ2.out.mono ?_; rintro e8 w8 ⟨rfl, k8⟩)
          go_ret
          obtain ⟨kv8, h8⟩ := HO7.out.to k8
          first | rw [HN3.out, HFr2.out] | rw [HFr2.out]
          exact ⟨rfl, h8.lto⟩
      · have HFr2 := Lib.hid (HFr.out.trans (if_pos hse))
        refine wp_region_in2 [] [0, 1, 2, 3, 4, 5, 6, 7, 8] [9] [10, 11, 12] [13] [14] (by kernel_rfl) (by kernel_rfl) (by intro c d u a w h; cases d <;> exact h) ?_
        show wpQuiet _ _ _ _ [_, _, _, _, _, _, _, _, _] _
        repeat (go_big_quiet_step (fail))
        refine wpQuiet_nil ?_
        show wpList _ _ _ [_] _ _
        go_wp2_with (go_at_call 83; refine (HS.out _).mono ?_; rintro e7 w7 ⟨rfl, k7⟩)
        have k7 := (Only.refl [] _).drew.trans k7
        refine check_of (S := []) k7 ?_
        show wpQuiet _ _ _ _ [_, _, _] _
        repeat (go_big_quiet_step (fail))
        refine wpQuiet_nil ?_
        show wpList _ _ _ [_] _ _
        go_wp2
        refine check_of (S := []) k7 ?_
        show wpList _ _ _ [_] _ _
        go_wp2
        go_ret
        first | rw [HN3.out, HFr2.out] | rw [HFr2.out]
        exact ⟨rfl, (HO7a.out.only0 k7).lto⟩
    · have HN3 := Lib.hid (HN2.out.trans (if_pos he4))
      go_wp2_with (go_at_call 40; refine HJ.out.mono ?_; rintro e7 w7 ⟨rfl, k7⟩)
      go_ret
      obtain ⟨kv7, h7⟩ := HO6.out.to k7
      rw [HN3.out]
      exact ⟨rfl, h7.lto⟩
  · have HN2 := Lib.hid (HN.out.trans (if_pos he2))
    show wpList _ _ _ [_] _ _
    go_wp2_with (go_at_call 70; refine HJ1.out.mono ?_; rintro e5 w5 ⟨rfl, k5⟩)
    go_ret
    obtain ⟨kv5, h5⟩ := HO4.out.to k5
    rw [HN2.out]
    exact ⟨rfl, h5.lto⟩
theorem jnext_any (h : LogAt a w lb db mb d L kv pv xs) (hs : L.Sm) (hk : d.Ok M) (hM : M + 66 ≤ 1125899906842624) (body : ByteArray) :
    Calls Tryz.prog 68 #[.pointer (some ⟨lb, 0, none⟩), .string body] w fun e w' => e = .returned (.int .i64 (L.next d body).1) ∧ LTo a lb db mb (lblk lb db mb kv pv xs) w w' (L.next d body).2 := by
  by_cases hx : xs = []
  · exact jnext_none h hs hk (by omega) body hx
  · obtain ⟨m, hm⟩ : ∃ m, xs.length = m + 1 := ⟨xs.length - 1, by have := List.length_pos_iff.2 hx; omega⟩
    obtain ⟨x, hx1, -, -⟩ := h.last hm
    cases hd : x.2.done with
    | true => exact jnext_done h hs hk (by omega) body hm hx1 hd
    | false =>
      by_cases hf : (body.size : Int) ≤ roomC L.size x.2.used
      · exact jnext_fits h hs body hm hx1 hd hf
      · exact jnext_full h hs hk hM body hm hx1 hd hf
end
end Go.Proofs.YtfjkjndpndjfpaaGreatDoor
/- Logs, plain: the numbers of a log and of its disk stay small. No program is named. -/
set_option linter.unusedVariables false
set_option linter.unusedSimpArgs false
namespace Go.Proofs.YtfjkjndpndjfpaaGreatDoor
open Go.RowKit
structure LogS.SmN (L : LogS) (N : Nat) : Prop where
  pre : L.pre.size ≤ 1000
  size : L.size ≤ 1000000000
  few : L.ps.length ≤ N
  len : L.len ≤ N
  used : ∀ p ∈ L.ps, 0 ≤ p.used ∧ p.used ≤ N
/-- The same parts. -/
def LogS.PsEq (L L' : LogS) : Prop := L'.ps = L.ps ∧ L'.pre = L.pre ∧ L'.size = L.size
section
variable {L L' L'' : LogS} {d : DS} {N M : Nat}
theorem LogS.SmN.sm (h : L.SmN N) (hN : N ≤ 1000000) : L.Sm := ⟨h.pre, h.size, by have := h.few; omega, by have := h.len; omega, fun p hp => by have := h.used p hp; omega⟩
theorem LogS.SmN.mono {N' : Nat} (h : L.SmN N) (hN : N ≤ N') : L.SmN N' := ⟨h.pre, h.size, Nat.le_trans h.few hN, by have := h.len; omega, fun p hp => by have := h.used p hp; omega⟩
theorem LogS.PsEq.refl (L : LogS) : L.PsEq L := ⟨rfl, rfl, rfl⟩
theorem LogS.PsEq.trans (h : LogS.PsEq L L') (k : LogS.PsEq L' L'') : LogS.PsEq L L'' := ⟨k.1.trans h.1, k.2.1.trans h.2.1, k.2.2.trans h.2.2⟩
theorem LogS.SmN.eq (h : L.SmN N) (k : LogS.PsEq L L') : L'.SmN N := by
  obtain ⟨k1, k2, k3⟩ := k
  refine ⟨by rw [k2]; exact h.pre, by rw [k3]; exact h.size, by rw [k1]; exact h.few, ?_, by rw [k1]; exact h.used⟩
  unfold LogS.len
  rw [k1]
  exact h.len
theorem LogS.told_eq (L : LogS) (e : Int) : L.PsEq (L.told e) := ⟨(LogS.told_ps L e).1, (LogS.told_ps L e).2.1, (LogS.told_ps L e).2.2.1⟩
theorem LogS.file_eq (L : LogS) (d : DS) (k : Int) (b : List UInt8) : L.PsEq (L.file d k b).2.1 := LogS.told_eq _ _
theorem LogS.sync_eq (L : LogS) (d : DS) : L.PsEq (L.sync d).2.1 := by
  unfold LogS.sync
  split
  · exact LogS.PsEq.refl L
  · dsimp only
    split
    · exact LogS.told_eq _ _
    · exact LogS.told_eq L _
theorem len_add (l : List PartL) (p : PartL) : ((l ++ [p]).map fun p => (p.bodies.length : Int)).sum = (l.map fun p => (p.bodies.length : Int)).sum + (p.bodies.length : Int) := by
  rw [List.map_append, List.sum_append_int]
  simp
theorem LogS.SmN.add (h : L.SmN N) (k : L'.ps = L.ps ++ [PartL.zero] ∧ L'.pre = L.pre ∧ L'.size = L.size) : L'.SmN (N + 1) := by
  obtain ⟨k1, k2, k3⟩ := k
  refine ⟨by rw [k2]; exact h.pre, by rw [k3]; exact h.size, ?_, ?_, ?_⟩
  · rw [k1, List.length_append]
    have := h.few
    simpa using this
  · have := h.len
    unfold LogS.len at this ⊢
    rw [k1, len_add]
    show _ + (0 : Int) ≤ _
    omega
  · rw [k1]
    intro p hp
    rcases List.mem_append.1 hp with hp | hp
    · have := h.used p hp
      omega
    · rw [List.mem_singleton.1 hp]
      show (0 : Int) ≤ 0 ∧ (0 : Int) ≤ _
      omega
/-- What fresh leaves. -/
theorem LogS.fresh_eq (L : LogS) (d : DS) : ((L.fresh d).1 ≠ 0 ∧ L.PsEq (L.fresh d).2.1) ∨ ((L.fresh d).1 = 0 ∧ (L.fresh d).2.1.ps = L.ps ++ [PartL.zero] ∧ (L.fresh d).2.1.pre = L.pre ∧ (L.fresh d).2.1.size = L.size) := by
  unfold LogS.fresh
  dsimp only
  have hf := LogS.file_eq L d L.ps.length (startE L.ps.length L.size).1
  split
  · exact .inl ⟨by show (20 : Int) ≠ 0; decide, LogS.PsEq.refl L⟩
  · split
    · exact .inl ⟨by assumption, hf⟩
    · exact .inr ⟨rfl, by dsimp only; rw [hf.1], hf.2.1, hf.2.2⟩
/-- What next leaves: the same parts, or the last one done, or a part more. -/
theorem LogS.next_eq (L : LogS) (d : DS) (body : ByteArray) : ∃ L1 : LogS, (L.PsEq L1 ∨ ∃ (k : Nat) (p : PartL), L.ps[k]? = some p ∧ L.ps.length = k + 1 ∧ L1.ps = L.ps.set k { p with done := true } ∧ L1.pre = L.pre ∧ L1.size = L.size) ∧
    (((L.next d body).1 ≠ 0 ∧ L1.PsEq (L.next d body).2.1) ∨ ((L.next d body).1 = 0 ∧ L.next d body = (0, L, d) ∧ L1 = L ∧ ∃ p, L.ps.getLast? = some p ∧ p.done = false) ∨ ((L.next d body).1 = 0 ∧ (L.next d body).2.1.ps = L1.ps ++ [PartL.zero] ∧ (L.next d body).2.1.pre = L1.pre ∧ (L.next d body).2.1.size = L1.size)) := by
  have fr : ∀ (L1 : LogS) (d1 : DS), L.next d body = L1.fresh d1 → ((L.next d body).1 ≠ 0 ∧ L1.PsEq (L.next d body).2.1) ∨ ((L.next d body).1 = 0 ∧ L.next d body = (0, L, d) ∧ L1 = L ∧ ∃ p, L.ps.getLast? = some p ∧ p.done = false) ∨ ((L.next d body).1 = 0 ∧ (L.next d body).2.1.ps = L1.ps ++ [PartL.zero] ∧ (L.next d body).2.1.pre = L1.pre ∧ (L.next d body).2.1.size = L1.size) := fun L1 d1 e => by
    rw [e]
    rcases L1.fresh_eq d1 with q | q
    · exact .inl q
    · exact .inr (.inr q)
  cases hl : L.ps.getLast? with
  | none =>
    refine ⟨L, .inl (LogS.PsEq.refl L), ?_⟩
    have := fr L d (by unfold LogS.next; rw [hl])
    rw [hl] at this
    exact this
  | some p =>
    have hnx := next_some L d body hl
    cases hd : p.done with
    | true =>
      rw [if_pos hd] at hnx
      have := fr L d hnx
      rw [hl] at this
      exact ⟨L, .inl (LogS.PsEq.refl L), this⟩
    | false =>
      rw [if_neg (by simp [hd])] at hnx
      by_cases hf : (body.size : Int) ≤ roomC L.size p.used
      · rw [if_pos hf] at hnx
        exact ⟨L, .inl (LogS.PsEq.refl L), .inr (.inl ⟨by rw [hnx], hnx, rfl, p, rfl, hd⟩)⟩
      · rw [if_neg hf] at hnx
        have hne : L.ps ≠ [] := fun e => by rw [e] at hl; cases hl
        obtain ⟨k, hk⟩ : ∃ k, L.ps.length = k + 1 := ⟨L.ps.length - 1, by have := List.length_pos_iff.2 hne; omega⟩
        have hkp : L.ps[k]? = some p := by rw [← hl, List.getLast?_eq_getElem?, hk]; rfl
        have hfe := LogS.file_eq L d (L.ps.length - 1) (finE (L.ps.length - 1) p.bodies.length).1
        obtain ⟨r, hr⟩ : ∃ r, L.file d (L.ps.length - 1) (finE (L.ps.length - 1) p.bodies.length).1 = r := ⟨_, rfl⟩
        rw [hr] at hnx hfe
        by_cases h1 : r.1 ≠ 0
        · rw [if_pos h1] at hnx
          refine ⟨L, .inl (LogS.PsEq.refl L), .inl ?_⟩
          rw [hnx]
          exact ⟨h1, hfe⟩
        · rw [if_neg h1] at hnx
          have hse := LogS.sync_eq (r.2.1.setPart (L.ps.length - 1) { p with done := true }) r.2.2
          obtain ⟨s, hs⟩ : ∃ s, (r.2.1.setPart (L.ps.length - 1) { p with done := true }).sync r.2.2 = s := ⟨_, rfl⟩
          rw [hs] at hnx hse
          have hL1 : L.PsEq s.2.1 ∨ ∃ (k : Nat) (p : PartL), L.ps[k]? = some p ∧ L.ps.length = k + 1 ∧ s.2.1.ps = L.ps.set k { p with done := true } ∧ s.2.1.pre = L.pre ∧ s.2.1.size = L.size := by
            refine .inr ⟨k, p, hkp, hk, ?_, hse.2.1.trans hfe.2.1, hse.2.2.trans hfe.2.2⟩
            rw [hse.1]
            show r.2.1.ps.set (L.ps.length - 1) _ = _
            rw [hfe.1, hk]
            rfl
          by_cases h2 : s.1 ≠ 0
          · rw [if_pos h2] at hnx
            refine ⟨s.2.1, hL1, .inl ?_⟩
            rw [hnx]
            exact ⟨h2, LogS.PsEq.refl _⟩
          · rw [if_neg h2] at hnx
            have := fr s.2.1 s.2.2 hnx
            rw [hl] at this
            exact ⟨s.2.1, hL1, this⟩
theorem LogS.SmN.set (h : L.SmN N) {k : Nat} {p : PartL} (hp : L.ps[k]? = some p) (b : Bool) (k1 : L'.ps = L.ps.set k { p with done := b } ∧ L'.pre = L.pre ∧ L'.size = L.size) : L'.SmN N := by
  obtain ⟨k1, k2, k3⟩ := k1
  have hl := len_setDone hp b
  refine ⟨by rw [k2]; exact h.pre, by rw [k3]; exact h.size, by rw [k1, List.length_set]; exact h.few, ?_, fun q hq => ?_⟩
  · have e : L'.len = (L.setPart k { p with done := b }).len := by unfold LogS.len; rw [k1]; rfl
    rw [e, hl]
    exact h.len
  · rw [k1] at hq
    rcases List.mem_or_eq_of_mem_set hq with e | e
    · exact h.used q e
    · subst e
      exact h.used p (List.mem_of_getElem? hp)
theorem LogS.SmN.next (h : L.SmN N) (d : DS) (body : ByteArray) : (L.next d body).2.1.SmN (N + 1) := by
  obtain ⟨L1, h1, h2⟩ := L.next_eq d body
  have h3 : L1.SmN N := by
    rcases h1 with q | ⟨k, p, q1, q2, q3⟩
    · exact h.eq q
    · exact h.set q1 true q3
  rcases h2 with q | q | q
  · exact (h3.eq q.2).mono (by omega)
  · rw [q.2.1]
    exact h.mono (by omega)
  · exact h3.add q.2
/-- Behind next there is a last part that is not done. -/
theorem LogS.next_last (L : LogS) (d : DS) (body : ByteArray) (h : (L.next d body).1 = 0) : ∃ (k : Nat) (p : PartL), (L.next d body).2.1.ps.length = k + 1 ∧ (L.next d body).2.1.ps[k]? = some p ∧ p.done = false := by
  obtain ⟨L1, -, h2⟩ := L.next_eq d body
  rcases h2 with q | ⟨q, q2, q3, p, q4, q5⟩ | ⟨q, q2, -⟩
  · exact absurd h q.1
  · rw [q2]
    have hne : L.ps ≠ [] := fun e => by rw [e] at q4; cases q4
    obtain ⟨k, hk⟩ : ∃ k, L.ps.length = k + 1 := ⟨L.ps.length - 1, by have := List.length_pos_iff.2 hne; omega⟩
    exact ⟨k, p, hk, by rw [← q4, List.getLast?_eq_getElem?, hk]; rfl, q5⟩
  · refine ⟨L1.ps.length, PartL.zero, by rw [q2, List.length_append]; rfl, ?_, rfl⟩
    rw [q2, List.getElem?_append_right (Nat.le_refl _), Nat.sub_self]
    rfl
theorem LogS.next_ok (h : d.Ok M) (body : ByteArray) : (L.next d body).2.2.Ok (M + 66) := by
  cases hl : L.ps.getLast? with
  | none =>
    rw [show L.next d body = L.fresh d by unfold LogS.next; rw [hl]]
    exact (fresh_ok h).mono (by omega)
  | some p =>
    rw [next_some L d body hl]
    split
    · exact (fresh_ok h).mono (by omega)
    · split
      · exact h.mono (by omega)
      · have hfl := finE_le (L.ps.length - 1) p.bodies.length
        have hfo := LogS.file_ok (L := L) h (L.ps.length - 1) (finE (L.ps.length - 1) p.bodies.length).1
        obtain ⟨r, hr⟩ : ∃ r, L.file d (L.ps.length - 1) (finE (L.ps.length - 1) p.bodies.length).1 = r := ⟨_, rfl⟩
        rw [hr] at hfo ⊢
        split
        · exact hfo.mono (by omega)
        · have hso := LogS.sync_ok (L := r.2.1.setPart (L.ps.length - 1) { p with done := true }) hfo
          obtain ⟨s, hs⟩ : ∃ s, (r.2.1.setPart (L.ps.length - 1) { p with done := true }).sync r.2.2 = s := ⟨_, rfl⟩
          rw [hs] at hso ⊢
          split
          · exact hso.mono (by omega)
          · exact (fresh_ok hso).mono (by omega)
theorem putF_le (b : ByteArray) : (putF (1 :: b.data.toList)).1.length ≤ b.size + 13 := by
  unfold putF
  split
  · simp
  · dsimp only
    rw [frameB_len, List.length_cons]
    simp
theorem LogS.append1_ok (h : d.Ok M) (body : ByteArray) : (L.append1 d body).2.2.Ok (M + body.size + 100) := by
  have hn := LogS.next_ok (L := L) h body
  have hp := putF_le body
  unfold LogS.append1
  dsimp only
  split
  · exact hn.mono (by omega)
  · have hf := LogS.file_ok (L := (L.next d body).2.1) hn ((L.next d body).2.1.ps.length - 1) (putF (1 :: body.data.toList)).1
    split
    · exact hf.mono (by omega)
    · split
      · exact hf.mono (by omega)
      · exact hf.mono (by omega)
end
end Go.Proofs.YtfjkjndpndjfpaaGreatDoor
/- A log in memory: a part's bodies grow; a part is laid anew. -/
set_option linter.unusedVariables false
set_option linter.unusedSimpArgs false
namespace Go.Proofs.YtfjkjndpndjfpaaGreatDoor
open Go Go.RowKit Go.Sort
theorem grows_app {W : World} {v : Value} {l : List ByteArray} (hs : Slc W 1 v l.length (strs l)) (hg : Grows W v l) (hl : l.length ≤ 10000000) (x : ByteArray) :
    ∃ A cap w', (Builtin.append_ #[22, 22] 22 #[v, .slice (some ⟨W.heap.size, 0, none⟩) 1 1]).run Tryz.prog (W.alloc (.cells #[.string x] 9)) = .ok (.slice A (l.length + 1) cap) w' ∧
      Slc w' 1 (.slice A (l.length + 1) cap) (l ++ [x]).length (strs (l ++ [x])) ∧ Grows w' (.slice A (l.length + 1) cap) (l ++ [x]) ∧ Only v.ownBlock.toList W w' ∧
      ∀ g, (Value.slice A (l.length + 1) cap).ownBlock = some g → (v.ownBlock = some g ∨ W.heap.size ≤ g) ∧ g < w'.heap.size := by
  have hO : Only [] W (W.alloc (.cells #[.string x] 9)) := ((Only.refl [] W).alloc _)
  have e : strs (l ++ [x]) = strs l ++ strs [x] := by simp [strs]
  have hsl := slc_new1 (w := W) (e := 9) (size := 1) (cs := strs [x]) rfl
  rcases hg with hown | ⟨A0, rfl⟩
  · obtain ⟨A, cap, w', h1, h2, h3, h4⟩ := run_app (P := Tryz.prog) (w := (W.alloc (.cells #[.string x] 9))) 22 22 0 9 (.string ⟨#[]⟩) 1 16 Tryz.underlying22 infoSJ rfl (by decide) (own_only hown hO (by simp)) hsl (by intro u hu; simp [strs] at hu; subst hu; rfl) (by omega) (by unfold maxLen; omega) (Nat.zero_le _)
    have hrow : w'.ownsRow 0 9 1 (.slice A (l.length + 1) cap) (l ++ [x]).length (strs (l ++ [x])) := by rw [List.length_append, e]; exact h2
    refine ⟨A, cap, w', h1, (Slc.of_own hrow).1, .inl hrow, hO.of_nil.trans h3, fun g hg => ⟨(h4 g hg).imp id (fun q => ?_), (hrow.lt g hg).2⟩⟩
    have := hO.size
    omega
  · cases A0 with
    | none =>
      have hn : l = [] := by
        obtain ⟨A, cap, hv, h1, h2, h3, h4⟩ := hs
        injection hv with e1 e2 e3
        subst e1
        cases l with
        | nil => rfl
        | cons y l =>
          obtain ⟨b, off, q, _⟩ := h4 (by simp)
          cases q
      subst hn
      obtain ⟨A, cap, w', h1, h2, h3, h4⟩ := run_app (P := Tryz.prog) (w := (W.alloc (.cells #[.string x] 9))) 22 22 0 9 (.string ⟨#[]⟩) 1 16 Tryz.underlying22 infoSJ rfl (by decide) (World.ownsRow_nil _ 0 9 1) hsl (by intro u hu; simp [strs] at hu; subst hu; rfl) (by omega) (by unfold maxLen; omega) (Nat.zero_le _)
      have hrow : w'.ownsRow 0 9 1 (.slice A (0 + 1) cap) ([] ++ [x] : List ByteArray).length (strs ([] ++ [x])) := by rw [List.length_append, e]; exact h2
      refine ⟨A, cap, w', h1, (Slc.of_own hrow).1, .inl hrow, hO.of_nil.trans h3, fun g hg => ⟨(h4 g hg).imp id (fun q => ?_), (hrow.lt g hg).2⟩⟩
      have := hO.size
      omega
    | some ad =>
      obtain ⟨i, hi1, hi2, hi3, hi4⟩ := info_parts infoSJ
      have hs2 := hs.only0 hO
      obtain ⟨A, cap, hv, h1, h2, h3, h4⟩ := hs2
      injection hv with e1 e2 e3
      subst e1
      obtain ⟨B, c, hB, b1, b2, b3, b4⟩ := hsl
      injection hB with f1 f2 f3
      subst f1
      obtain ⟨bb, off, q1, q2, q3⟩ := b4 (by omega)
      have hold : ∀ j u, (strs l)[j]? = some u → (W.alloc (.cells #[.string x] 9)).cell? (ad.add j) = some u := fun j u hj => by
        have hjl : j < (strs l).length := (List.getElem?_eq_some_iff.1 hj).1
        obtain ⟨b, of, r1, r2, r3⟩ := h4 (by simp [strs] at hjl; omega)
        cases r1
        rw [show ((⟨b, of, none⟩ : Addr).add j) = ⟨b, of + j, none⟩ by simp [Addr.add], r3 j hjl, hj]
      have hnew : ∀ j u, (strs [x])[j]? = some u → (W.alloc (.cells #[.string x] 9)).cell? ((⟨W.heap.size, 0, none⟩ : Addr).add j) = some u := fun j u hj => by
        have hjl : j < (strs [x]).length := (List.getElem?_eq_some_iff.1 hj).1
        cases q1
        rw [show ((⟨W.heap.size, 0, none⟩ : Addr).add j) = ⟨W.heap.size, 0 + j, none⟩ by simp [Addr.add]]
        exact (q3 j hjl).trans hj
      have hr := run_append_grow (P := Tryz.prog) (W.alloc (.cells #[.string x] 9)) 22 22 9 i (.string ⟨#[]⟩) Tryz.underlying22 hi1 hi2 ad l.length l.length (strs l) (by rw [hi3, h1]) hold ⟨W.heap.size, 0, none⟩ 1 1 (strs [x]) (by rw [hi3]; rfl) hnew (by omega) (by omega) (growslice_fits (by omega) (by rw [hi4]; omega))
      have hge := grownCap_ge (W.alloc (.cells #[.string x] 9)) (l.length + 1) l.length 9
      have hcm : grownCap (W.alloc (.cells #[.string x] 9)) (l.length + 1) l.length 9 ≤ maxLen := grownCap_le_maxLen _ _ _ _ (by unfold maxLen; omega)
      have hz : (Value.string ⟨#[]⟩).cells.size = 1 := rfl
      have hsz1 : (strs l).length = l.length := by simp [strs]
      have hrow : ((W.alloc (.cells #[.string x] 9)).drew.alloc (.cells ((strs l).toArray ++ (strs [x]).toArray ++ Builtin.zeroCells (Value.string ⟨#[]⟩).cells (grownCap (W.alloc (.cells #[.string x] 9)) (l.length + 1) l.length 9 - (l.length + 1))) 9)).ownsRow 0 9 1
          (.slice (some ⟨(W.alloc (.cells #[.string x] 9)).heap.size, 0, none⟩) (l.length + 1) (grownCap (W.alloc (.cells #[.string x] 9)) (l.length + 1) l.length 9)) (l ++ [x]).length (strs (l ++ [x])) := by
        rw [List.length_append, e]
        refine ⟨by rw [List.length_append, hsz1]; simp [strs], .inr ⟨_, _, _, rfl, Nat.zero_le _, heap_alloc_new (W.alloc (.cells #[.string x] 9)).drew _, hge, hcm, ?_, ?_⟩⟩
        · simp only [Array.size_append, List.size_toArray, size_zeroCells, hz, hsz1]
          simp [strs]
          omega
        · simp only [Array.toList_append, List.append_assoc]
          rw [← List.append_assoc, show ([x] : List ByteArray).length = 1 from rfl]
          rw [List.take_append_of_le_length (by simp [strs]), List.take_of_length_le (by simp [strs])]
      refine ⟨_, _, _, hr, (Slc.of_own hrow).1, .inl hrow, ?_, fun g hg => ⟨?_, (hrow.lt g hg).2⟩⟩
      · exact ((Only.refl _ W).alloc _).drew.alloc _
      · right
        have : (W.alloc (.cells #[.string x] 9)).heap.size = g := by simpa [Value.ownBlock] using hg
        have := hO.size
        omega
theorem flat_set01 : ∀ (xs : List (Value × PartL)) (k : Nat) (x : Value × PartL) (v : Value) (u : Int) (b : List ByteArray), xs[k]? = some x → ((xs.flatMap partCells).set (k * 3) v).set (k * 3 + 1) (.int .i64 u) = (xs.set k (v, ⟨b, u, x.2.done⟩)).flatMap partCells
  | [], k, x, v, u, b, h => by simp at h
  | y :: xs, 0, x, v, u, b, h => by
    cases h
    simp [partCells]
  | y :: xs, k + 1, x, v, u, b, h => by
    have ih := flat_set01 xs k x v u b (by simpa using h)
    rw [List.set_cons_succ, List.flatMap_cons, List.flatMap_cons, ← ih, show (k + 1) * 3 + 1 = k * 3 + 1 + 3 by omega, show (k + 1) * 3 = k * 3 + 3 by omega]
    rfl
theorem flat_set012 : ∀ (xs : List (Value × PartL)) (k : Nat) (x : Value × PartL) (v : Value) (p : PartL), xs[k]? = some x → (((xs.flatMap partCells).set (k * 3) v).set (k * 3 + 1) (.int .i64 p.used)).set (k * 3 + 2) (.bool p.done) = (xs.set k (v, p)).flatMap partCells
  | [], k, x, v, p, h => by simp at h
  | y :: xs, 0, x, v, p, h => by
    cases h
    simp [partCells]
  | y :: xs, k + 1, x, v, p, h => by
    have ih := flat_set012 xs k x v p (by simpa using h)
    rw [List.set_cons_succ, List.flatMap_cons, List.flatMap_cons, ← ih, show (k + 1) * 3 + 1 = k * 3 + 1 + 3 by omega, show (k + 1) * 3 + 2 = k * 3 + 2 + 3 by omega, show (k + 1) * 3 = k * 3 + 3 by omega]
    rfl
section
variable {a w W W' w' : World} {lb db mb M : Nat} {d d' : DS} {L L' : LogS} {kv pv kv' pv' : Value} {xs xs' : List (Value × PartL)} {R S : List Nat}
/-- A part is turned: its bodies' block, the row. -/
theorem LogOn.part {g n cap j : Nat} (h : LogOn a R w W lb db mb d L kv (.slice (some ⟨g, 0, none⟩) n cap) xs) {x y : Value × PartL} (hj : xs[j]? = some x) (k : Only (g :: x.1.ownBlock.toList) W w')
    (hr : w'.ownsRow 0 81 3 (.slice (some ⟨g, 0, none⟩) n cap) xs.length ((xs.set j y).flatMap partCells)) (hv : Slc w' 1 y.1 y.2.bodies.length (strs y.2.bodies)) (hg : y.2.done = true ∨ Grows w' y.1 y.2.bodies)
    (hy : ∀ q, y.1.ownBlock = some q → (x.1.ownBlock = some q ∨ W.heap.size ≤ q) ∧ q < w'.heap.size) :
    LogOn a R w w' lb db mb d (L.setPart j y.2) kv (.slice (some ⟨g, 0, none⟩) n cap) (xs.set j y) := by
  have hxm : x ∈ xs := List.mem_of_getElem? hj
  have hin : ∀ q, x.1.ownBlock = some q → q ∈ lblk lb db mb kv (.slice (some ⟨g, 0, none⟩) n cap) xs := fun q hq => mem_lblk.2 (.inr (.inr (.inr ⟨x.1, List.mem_cons_of_mem _ (List.mem_cons_of_mem _ (List.mem_map.2 ⟨x, hxm, rfl⟩)), hq⟩)))
  refine h.turn (h.at_.turn hj k (fun q hq => ?_) rfl hr hv hg hy) k (fun q hq => ?_) (fun q hq => ?_)
  · rcases List.mem_cons.1 hq with e | e
    · subst e; exact .inl rfl
    · exact .inr (by simpa using e)
  · rcases List.mem_cons.1 hq with e | e
    · subst e
      exact mem_lblk.2 (.inr (.inr (.inr ⟨_, List.mem_cons_of_mem _ (List.mem_cons_self ..), rfl⟩)))
    · exact hin q (by simpa using e)
  · rcases mem_lblk.1 hq with e | e | e | ⟨v, hv, hgv⟩
    · exact .inl (mem_lblk.2 (.inl e))
    · exact .inl (mem_lblk.2 (.inr (.inl e)))
    · exact .inl (mem_lblk.2 (.inr (.inr (.inl e))))
    · rcases List.mem_cons.1 hv with e | hv
      · exact .inl (mem_lblk.2 (.inr (.inr (.inr ⟨v, by simp [e], hgv⟩))))
      · rcases List.mem_cons.1 hv with e | hv
        · exact .inl (mem_lblk.2 (.inr (.inr (.inr ⟨v, by simp [e], hgv⟩))))
        · obtain ⟨z, hz, e⟩ := List.mem_map.1 hv
          rcases List.mem_or_eq_of_mem_set hz with q2 | q2
          · exact .inl (mem_lblk.2 (.inr (.inr (.inr ⟨v, List.mem_cons_of_mem _ (List.mem_cons_of_mem _ (List.mem_map.2 ⟨z, q2, e⟩)), hgv⟩))))
          · subst q2
            rw [← e] at hgv
            exact (hy q hgv).1.imp (hin q) id
theorem LogAt.rowne {g n cap j : Nat} (h : LogAt a w lb db mb d L kv (.slice (some ⟨g, 0, none⟩) n cap) xs) {x : Value × PartL} (hj : xs[j]? = some x) : ∀ q, x.1.ownBlock = some q → q ≠ g := fun q hq e => by
  subst e
  exact (List.pairwise_cons.1 (List.pairwise_cons.1 h.pair).2).1 x.1 (List.mem_map.2 ⟨x, List.mem_of_getElem? hj, rfl⟩) q rfl hq
/-- A record is put behind a part's. -/
theorem LogOn.push {g n cap j : Nat} (h : LogOn a R w W lb db mb d L kv (.slice (some ⟨g, 0, none⟩) n cap) xs) (hn : n = xs.length) {x : Value × PartL} (hj : xs[j]? = some x) {v : Value} {l : List ByteArray} {u : Int} (k : Only x.1.ownBlock.toList W W')
    (hv : Slc W' 1 v l.length (strs l)) (hg : Grows W' v l) (hy : ∀ q, v.ownBlock = some q → (x.1.ownBlock = some q ∨ W.heap.size ≤ q) ∧ q < W'.heap.size) :
    LogOn a R w ((W'.setCell ⟨g, j * 3, none⟩ v).setCell ⟨g, j * 3 + 1, none⟩ (.int .i64 u)) lb db mb d (L.setPart j ⟨l, u, x.2.done⟩) kv (.slice (some ⟨g, 0, none⟩) n cap) (xs.set j (v, ⟨l, u, x.2.done⟩)) := by
  subst hn
  have hne := h.at_.rowne hj
  have k2 : Only [g] W' ((W'.setCell ⟨g, j * 3, none⟩ v).setCell ⟨g, j * 3 + 1, none⟩ (.int .i64 u)) := ((Only.refl _ _).setCell (.inl (by simp)) _).setCell (.inl (by simp)) _
  have hgl : g < W.heap.size := (h.at_.row.lt g rfl).2
  have hvg : ∀ q, v.ownBlock = some q → q ∉ [g] := fun q hq hm => by
    rw [List.mem_singleton.1 hm] at hq
    rcases (hy g hq).1 with e | e
    · exact hne g e rfl
    · omega
  refine h.part (y := (v, ⟨l, u, x.2.done⟩)) hj ((k.mono (fun q hq => List.mem_cons_of_mem _ hq)).trans (k2.mono (fun q hq => by rw [List.mem_singleton.1 hq]; exact List.mem_cons_self ..))) ?_ (hv.only k2 hvg) (.inr (hg.only k2 hvg)) (fun q hq => ⟨(hy q hq).1, ?_⟩)
  · have hr0 := own_only h.at_.row k (fun q hq hm => hne g (by cases hq; simpa using hm) rfl)
    have := ((hr0.stored (j * 3) v).1.stored (j * 3 + 1) (.int .i64 u)).1
    rw [flat_set01 xs j x v u l hj] at this
    exact this
  · have := (hy q hq).2
    have := k2.size
    omega
end
end Go.Proofs.YtfjkjndpndjfpaaGreatDoor
/- A region that draws its order: reads; a read that may come before, between or behind two early ones; further early ones; reads; an early one; the rest. No program is named. -/
set_option linter.unusedVariables false
set_option linter.unusedSimpArgs false
namespace Go.Proofs.YtfjkjndpndjfpaaGreatDoor
open Go Go.RowKit Go.Sort
section
variable {P : Program} {md : Region.Mode} {C : World → Prop} {Q : Exit → Act → World → Prop} {l : List Oper}
def fork3To (md : Region.Mode) (ops : Array Oper) (S : Array Bool → Bool) (x y z : Nat) (listed : Array Bool) : Bool :=
  (decide (Region.ready md ops listed = [x, y]) || decide (Region.ready md ops listed = [y, x])) && (seqTo md ops S [y, z] (listed.setIfInBounds x true) && forkTo md ops S x z (listed.setIfInBounds y true))
theorem plan_fork3 {H T1 : List Nat} {n : Nat} {S : Array Bool → Bool} {L : Act → World → Prop} (hL : ∀ listed a w, S listed = true → L a w → AnyP P md l.toArray C Q H T1 n listed a w)
    (x y z : Nat) (listed : Array Bool) (a : Act) (w : World) (hx : x ∉ H) (hy : y ∉ H) (hz : z ∉ H) (hs : fork3To md l.toArray S x y z listed = true) (h1 : wpT1 P l.toArray C Q (opsAt l [x, y, z]) L a w)
    (h2 : wpT1 P l.toArray C Q (opsAt l [y]) (fun a w => wpT1 P l.toArray C Q (opsAt l [x, z]) L a w ∧ wpT1 P l.toArray C Q (opsAt l [z, x]) L a w) a w) :
    AnyP P md l.toArray C Q H T1 (n + 1 + 1 + 1) listed a w := by
  simp only [fork3To, Bool.and_eq_true, Bool.or_eq_true, decide_eq_true_eq] at hs
  obtain ⟨hr, s1, s2⟩ := hs
  have hmem : ∀ i, i ∈ Region.ready md l.toArray listed ↔ i = x ∨ i = y := fun i => by
    rcases hr with q | q
    · rw [q]; simp
    · rw [q]; simp [or_comm]
  refine ⟨fun q => by (rcases hr with r | r <;> rw [r] at q <;> cases q), fun i hi => ?_⟩
  rcases (hmem i).1 hi with rfl | rfl
  · obtain ⟨_, o, ho, _⟩ := mem_ready.1 hi
    have ho' : l[i]? = some o := by simpa using ho
    rw [opsAt_cons ho'] at h1
    refine .inr ⟨hx, ?_⟩
    have hw := wpOp_check (i := i) (by simpa using ho') h1
    refine wpOp_mono (fun a' w' h' => ⟨fun _ => h'.1, ?_⟩) hw
    have := plan_A (H := H) (T1 := T1) hL [y, z] (listed.setIfInBounds i true) a' w' (by intro t ht; simp at ht; rcases ht with rfl | rfl <;> assumption) s1 h'.2
    rwa [show [y, z].length + n = n + 1 + 1 by simp; omega] at this
  · obtain ⟨_, o, ho, _⟩ := mem_ready.1 hi
    have ho' : l[i]? = some o := by simpa using ho
    rw [opsAt_cons ho'] at h2
    refine .inr ⟨hy, ?_⟩
    have hw := wpOp_check (i := i) (by simpa using ho') h2
    refine wpOp_mono (fun a' w' h' => ⟨fun _ => h'.1, ?_⟩) hw
    exact plan_fork hL x z (listed.setIfInBounds i true) a' w' hx hz s2 h'.2.1 h'.2.2
/-- What the three early ones lead to, in whatever order; and what follows. -/
def Fork3Go (P : Program) (l : List Oper) (C : World → Prop) (Q : Exit → Act → World → Prop) (x y z : Nat) (R : Act → World → Prop) (a0 : Act) (w0 : World) : Prop :=
  ∃ M : Act → World → Prop, wpT1 P l.toArray C Q (opsAt l [x, y, z]) M a0 w0 ∧ wpT1 P l.toArray C Q (opsAt l [y]) (fun a w => wpT1 P l.toArray C Q (opsAt l [x, z]) M a w ∧ wpT1 P l.toArray C Q (opsAt l [z, x]) M a w) a0 w0 ∧ ∀ a w, M a w → R a w
theorem fork3_intro {x y z : Nat} {R : Act → World → Prop} {a0 : Act} {w0 : World} (M : Act → Act → World → Prop) (h1 : wpT1 P l.toArray C Q (opsAt l [x, y, z]) (M a0) a0 w0)
    (h2 : wpT1 P l.toArray C Q (opsAt l [y]) (fun a w => wpT1 P l.toArray C Q (opsAt l [x, z]) (M a0) a w ∧ wpT1 P l.toArray C Q (opsAt l [z, x]) (M a0) a w) a0 w0)
    (h3 : ∀ a w, M a0 a w → R a w) : Fork3Go P l C Q x y z R a0 w0 := ⟨M a0, h1, h2, h3⟩
def planF3 (md : Region.Mode) (ops : Array Oper) (H : List Nat) (x y z : Nat) (A G B T2 : List Nat) : Bool :=
  (Region.noSelect ops && (H ++ G).all (plainAt ops)) && (((List.range ops.size).all (fun i => (H ++ G).contains i || ((x :: y :: z :: (A ++ B)).contains i || T2.contains i)) && ((x :: y :: z :: (A ++ (B ++ T2))).all (fun i => !(H ++ G).contains i) && T2.all (fun i => !(x :: y :: z :: (A ++ B)).contains i))) &&
    (decide (H.length + (A.length + (G.length + (B.length + T2.length)) + 1 + 1 + 1) = ops.size) && (behindB md ops (H ++ (x :: y :: z :: (A ++ (G ++ B)))) T2 && headTo md ops (fork3To md ops (seqTo md ops (headTo md ops (seqTo md ops (seqL md ops T2) B) G) A) x y z) H (Array.replicate ops.size false))))
theorem wp_region_fork3 {id : Nat} {a : Act} {w : World} (F : List (Addr × Value)) (H : List Nat) (x y z : Nat) (A G B T2 : List Nat) (hF : ∀ x ∈ F, w.cell? x.1 = some x.2) (hm : P.follows .mixedOrders = true) (hB : planF3 .any l.toArray H x y z A G B T2 = true) (hQ : ∀ c d u a w, Q (.panic c) (Act.put a d u) w → Q (.panic c) a w)
    (h : Nonempty (Hold F) → wpQuiet P l.toArray (fun W => ∃ p : Hold F, W = p.W) (fun a' => Fork3Go P l (fun W => ∃ p : Hold F, W = p.W) Q x y z (wpT1 P l.toArray (fun W => ∃ p : Hold F, W = p.W) Q (opsAt l A) (fun a w => wpQuiet P l.toArray (fun W => ∃ p : Hold F, W = p.W) (fun a' => wpT1 P l.toArray (fun W => ∃ p : Hold F, W = p.W) Q (opsAt l B) (fun a w => wpList P l.toArray Q (opsAt l T2) a w) a' w) (opsAt l G) a)) a' w.drew) (opsAt l H) a) : (Code.region id l.toArray true).wp P Q a w := by
  have h := h ⟨⟨w.drew, hF⟩⟩
  simp only [planF3, Bool.and_eq_true, decide_eq_true_eq, List.all_eq_true, Bool.or_eq_true, List.contains_iff_mem, Bool.not_eq_true'] at hB
  obtain ⟨⟨hsel, hpl⟩, ⟨hcov, hd1, hd2⟩, hlen, hbe, hhd⟩ := hB
  refine wp_region_any hm ?_
  have inv0 : Closed .any l.toArray (Array.replicate l.toArray.size false) := fun j oj _ hl => by rw [getD_replicate_false] at hl; cases hl
  have hd1' : ∀ t ∈ x :: y :: z :: (A ++ (B ++ T2)), t ∉ H ++ G := fun t ht q => by
    have := hd1 t ht
    rw [List.contains_eq_mem, decide_eq_true q] at this
    cases this
  have hd2' : ∀ t ∈ T2, t ∉ x :: y :: z :: (A ++ B) := fun t ht q => by
    have := hd2 t ht
    rw [List.contains_eq_mem, decide_eq_true q] at this
    cases this
  have h2 : ∀ t ∈ T2, t ∉ H ++ G ∧ t ∉ x :: y :: z :: (A ++ B) := fun t ht => ⟨hd1' t (by simp [ht]), hd2' t ht⟩
  have := plan_Hn (C := fun W => ∃ p : Hold F, W = p.W) (md := .any) (H := H ++ G) (T1 := x :: y :: z :: (A ++ B)) (S := fork3To .any l.toArray (seqTo .any l.toArray (headTo .any l.toArray (seqTo .any l.toArray (seqL .any l.toArray T2) B) G) A) x y z) hsel hQ
    (fun listed a hs hl => by
      obtain ⟨M, m1, m2, m3⟩ := hl
      exact plan_fork3 (S := seqTo .any l.toArray (headTo .any l.toArray (seqTo .any l.toArray (seqL .any l.toArray T2) B) G) A) (L := M) (fun listed a w hs hM => plan_A (S := headTo .any l.toArray (seqTo .any l.toArray (seqL .any l.toArray T2) B) G)
        (fun listed a w hs hl => plan_Hn (S := seqTo .any l.toArray (seqL .any l.toArray T2) B) hsel hQ
          (fun listed a hs hl => plan_A (S := seqL .any l.toArray T2) (fun listed a w hs hl => plan_T2 T2 listed a w h2 hs hl) B listed a w (fun t ht => hd1' t (by simp [ht])) hs hl)
          G listed a (fun h hh => ⟨by simp [hh], hpl h (by simp [hh])⟩) hs hl)
        A listed a w (fun t ht => hd1' t (by simp [ht])) hs (m3 a w hM)) x y z listed a w.drew (hd1' x (by simp)) (hd1' y (by simp)) (hd1' z (by simp)) hs m1 m2) H _ a (fun h hh => ⟨by simp [hh], hpl h (by simp [hh])⟩) hhd h
  rw [hlen] at this
  exact anyP_anyZ hbe (fun x hx => by simp at hx ⊢; rcases hx with q | q <;> simp [q]) (fun i hi => by
    rcases hcov i (List.mem_range.2 hi) with q | q | q
    · exact .inl q
    · exact .inr (.inl q)
    · exact .inr (.inr q)) _ _ _ _ inv0 (.inl ⟨⟨w.drew, hF⟩, rfl⟩) this
end
end Go.Proofs.YtfjkjndpndjfpaaGreatDoor
