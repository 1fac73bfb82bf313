/- Proved here: contracts of functions and plain laws, part 7 of one proof. Conditions: each theorem names its own. -/
import Derived.Test.YtpcemipfanimgaaGreatDoorP6
/- Contracts: the document's own reading of numbers and of links. -/
set_option linter.unusedVariables false
set_option linter.unusedSimpArgs false
namespace Go.Proofs.YtpcemipfanimgaaGreatDoor
open Go Go.RowKit Go.Sort Go.Lib Go.Shelf
theorem mag_neg {s : ByteArray} (h : negB s.data.toList = true) : s.extract 1 s.size = magS s := by
  unfold magS magB
  rw [h, if_pos rfl]
  apply bts_inj
  rw [bts_ba]
  have e : s.data.toList.tail.length ≤ s.size - 1 := by simp
  simp
  exact List.take_of_length_le e
theorem mag_pos {s : ByteArray} (h : negB s.data.toList = false) : s = magS s := by
  unfold magS magB
  rw [h]
  rfl
theorem neg_get {s : ByteArray} (h : 0 < s.size) : negB s.data.toList = decide (s[0] = 45) := by
  have h0 : s.data.toList[0]? = some s[0] := by
    rw [List.getElem?_eq_getElem (by simpa using h)]
    rfl
  cases e : s.data.toList with
  | nil => rw [e] at h0; cases h0
  | cons a l =>
    rw [e] at h0
    simp only [List.getElem?_cons_zero, Option.some.injEq] at h0
    rw [← h0]
    unfold negB
    simp only [List.isPrefixOf, Bool.and_true]
    by_cases q : a = 45
    · rw [q]; rfl
    · rw [decide_eq_false q, beq_eq_false_iff_ne]
      exact fun e => q e.symm
theorem neg_nil {s : ByteArray} (h : s.size = 0) : negB s.data.toList = false := by
  have : s.data.toList = [] := by
    apply List.eq_nil_of_length_eq_zero
    simpa using h
  rw [this]
  rfl
set_option maxRecDepth 100000 in
set_option maxHeartbeats 4000000 in
theorem r1number_any (s : ByteArray) (w : World) (hs : s.size ≤ 1000000) : Calls Tryz.prog 64 #[.string s] w fun e w' => e = .returned (.tuple #[.int .i64 (numRet s).1, .int .i64 (numRet s).2]) ∧ w = w' := by
  obtain ⟨d, hd⟩ : ∃ d, d = magS s := ⟨_, rfl⟩
  obtain ⟨p, hp⟩ : ∃ p, p = negB s.data.toList := ⟨_, rfl⟩
  have hds : d.size ≤ s.size := by rw [hd]; exact magS_size s
  have hsh := shape_of s
  rw [← hd, ← hp] at hsh
  have hbad := fun (h : (d.data.toList).all digitB = false) => numRet_bad (s := s) (.inr (by rw [hd] at h; unfold magS at h; rw [bts_ba] at h; exact h))
  have hok := fun (h1 : shapeB s.data.toList = true) (h : (d.data.toList).all digitB = true) => numRet_ok (s := s) h1 (by rw [hd] at h; unfold magS at h; rw [bts_ba] at h; exact h)
  have hok2 : shapeB s.data.toList = true → (d.data.toList).all digitB = true → numRet s = (if p then -(valN d.data.toList : Int) else (valN d.data.toList : Int), 0) := by
    intro h1 h2
    rw [hok h1 h2, hp, hd]
    unfold magS
    rw [bts_ba]
  obtain ⟨r, hr⟩ : ∃ r, r = numRet s := ⟨_, rfl⟩
  rw [← hr] at hbad hok2 ⊢
  have hb0 : shapeB s.data.toList = false → r = (0, 1) := fun h => by rw [hr]; exact numRet_bad (.inl h)
  clear hr hok
  obtain ⟨r1, r2⟩ := r
  have HB := Lib.hid hbad
  have HO := Lib.hid hok2
  have HB0 := Lib.hid hb0
  clear hbad hok2 hb0
  by_cases hz0 : s.size = 0
  · have hpf : p = false := by rw [hp]; exact neg_nil hz0
    have HE : Hid (s = d) := by rw [hd]; exact mag_pos (neg_nil hz0)
    have c0 : d.size = 0 := by omega
    have hsd := HE.out.symm
    clear hd hp
    subst hpf
    subst hsd
    obtain ⟨rfl, rfl⟩ : r1 = 0 ∧ r2 = 1 := by
      have hrr := HB0.out (by rw [hsh]; (rw [decide_eq_true c0]; rfl))
      injection hrr with a b
      exact ⟨a, b⟩
    clear hsh HB HO HB0
    go_enter Tryz.func64, Tryz.ntmps64
    go_upto_region 4 with fail
    try rw [HE.out]
    clear HE
    go_wp2
    go_ret2
    exact ⟨rfl, rfl⟩
  · have hpos : 0 < s.size := by omega
    have hb45 := get_toNat hpos 45
    have h45 : ((45 : UInt8).toNat : Int) = 45 := rfl
    rw [h45] at hb45
    have hng := neg_get hpos
    have hb255 : (s[0].toNat : Int) < 256 := by have := s[0].toNat_lt; omega
    by_cases hq : s[0] = 45
    · rw [decide_eq_true hq] at hb45 hng
      have HE : Hid (s.extract 1 s.size = d) := by rw [hd]; exact mag_neg hng
      have hpt : p = true := hp.trans hng
      clear hd hp hng hq h45
      subst hpt
      by_cases c0 : d.size = 0
      · obtain ⟨rfl, rfl⟩ : r1 = 0 ∧ r2 = 1 := by
          have hrr := HB0.out (by rw [hsh]; (rw [decide_eq_true c0]; rfl))
          injection hrr with a b
          exact ⟨a, b⟩
        clear hsh HB HO HB0
        go_enter Tryz.func64, Tryz.ntmps64
        go_upto_region 4 with fail
        try rw [HE.out]
        clear HE
        go_wp2
        go_ret2
        exact ⟨rfl, rfl⟩
      · by_cases c1 : 18 < d.size
        · obtain ⟨rfl, rfl⟩ : r1 = 0 ∧ r2 = 1 := by
            have hrr := HB0.out (by rw [hsh]; (rw [decide_eq_true c1]; simp))
            injection hrr with a b
            exact ⟨a, b⟩
          clear hsh HB HO HB0
          go_enter Tryz.func64, Tryz.ntmps64
          go_upto_region 4 with fail
          try rw [HE.out]
          clear HE
          go_wp2
          go_ret2
          exact ⟨rfl, rfl⟩
        · have hposd : 0 < d.size := by omega
          have hh := head_get hposd
          rw [hh, decide_eq_false c0, decide_eq_false c1] at hsh
          have hb256 : (d[0].toNat : Int) < 256 := by have := d[0].toNat_lt; omega
          have x0 : decide ((d.size : Int) < 1) = false := decide_eq_false (by omega)
          have x1 : decide ((18 : Int) < (d.size : Int)) = false := decide_eq_false (by omega)
          cases hz : ((d[0].toNat : Int) == 48) with
          | true =>
            by_cases m1 : 1 < d.size
            · obtain ⟨rfl, rfl⟩ : r1 = 0 ∧ r2 = 1 := by
                have hrr := HB0.out (by rw [hsh]; (simp_all))
                injection hrr with a b
                exact ⟨a, b⟩
              clear hsh HB HO HB0
              go_enter Tryz.func64, Tryz.ntmps64
              go_upto_region 4 with fail
              try rw [HE.out]
              clear HE
              go_wp2
              go_ret2
              exact ⟨rfl, rfl⟩
            · obtain ⟨rfl, rfl⟩ : r1 = 0 ∧ r2 = 1 := by
                have hrr := HB0.out (by rw [hsh]; (simp_all))
                injection hrr with a b
                exact ⟨a, b⟩
              clear hsh HB HO HB0
              go_enter Tryz.func64, Tryz.ntmps64
              go_upto_region 4 with fail
              try rw [HE.out]
              clear HE
              go_wp2
              go_ret2
              exact ⟨rfl, rfl⟩
          | false =>
            have HSh : Hid (_ = true) := Eq.trans hsh (by simp_all)
            clear hsh HB0 hh
            go_enter Tryz.func64, Tryz.ntmps64
            go_upto_region 4 with fail
            try rw [HE.out]
            clear HE
            go_wp2
            go_loop [5, 6] (fun a i => ∃ k : Nat, k ≤ d.size ∧ i = .int .i64 k ∧ a = .int .i64 (valN (d.data.toList.take k) : Int) ∧ Hid ((d.data.toList.take k).all digitB = true)) (fun _ i => d.size - (intOf i).toNat)
            case atStart => exact ⟨0, Nat.zero_le _, rfl, rfl, by simp [Hid]⟩
            case round =>
              obtain ⟨k, hk, rfl, rfl, hT⟩ := hrel
              by_cases hlt : k < d.size
              · have hb2 : (d[k].toNat : Int) < 256 := by have := d[k].toNat_lt; omega
                have hall := all_takeD hlt
                have hbadk : digitB d[k] = false → r1 = 0 ∧ r2 = 1 := fun h => by
                  have := HB.out (all_false (k := k) (by simpa using hlt) h)
                  injection this with a b
                  exact ⟨a, b⟩
                by_cases q1 : (d[k].toNat : Int) < 48
                · obtain ⟨rfl, rfl⟩ := hbadk (by unfold digitB; rw [decide_eq_true q1]; rfl)
                  clear hall hbadk HB HO hT
                  go_wp2
                  go_ret2
                  exact ⟨rfl, rfl⟩
                · by_cases q2 : 57 < (d[k].toNat : Int)
                  · obtain ⟨rfl, rfl⟩ := hbadk (by unfold digitB; rw [decide_eq_true q2]; simp)
                    clear hall hbadk HB HO hT
                    go_wp2
                    go_ret2
                    exact ⟨rfl, rfl⟩
                  · have hdk : digitB d[k] = true := by unfold digitB; rw [decide_eq_false q1, decide_eq_false q2]; rfl
                    rw [hT.out, hdk] at hall
                    have hv := valN_take hlt
                    have hbd := valN_small (k := 17) hT.out (by rw [List.length_take]; omega)
                    obtain ⟨n, hn⟩ : ∃ n, n = valN (d.data.toList.take k) := ⟨_, rfl⟩
                    rw [← hn] at hv hbd ⊢
                    have hbd : n < 100000000000000000 := hbd
                    have HN : Hid (((n : Int) * 10) + ((d[k].toNat : Int) - 48) = ((valN (d.data.toList.take (k + 1)) : Nat) : Int)) := by
                      unfold Hid
                      rw [hv]
                      omega
                    have HA := Lib.hid hall
                    have e1 := IntWalk.u8_in ((d[k].toNat : Int) - 48) ⟨by omega, by omega⟩
                    have e2 := IntWalk.i64_in ((d[k].toNat : Int) - 48) ⟨by omega, by omega⟩
                    have e3 := IntWalk.i64_in ((n : Int) * 10) ⟨by omega, by omega⟩
                    have e4 := IntWalk.i64_in ((n : Int) * 10 + ((d[k].toNat : Int) - 48)) ⟨by omega, by omega⟩
                    clear hall hbadk HB HO hT hv hn hdk
                    go_wp2
                    go_round
                    case rel => exact ⟨k + 1, hlt, by go_num, by rw [← HN.out], HA⟩
                    case measure => simp [intOf]; omega
              · have hall := hT.out
                rw [List.take_of_length_le (by simp; omega)] at hall ⊢
                have hrr := HO.out HSh.out hall
                have hbd := valN_small (k := 18) hall (by simp; omega)
                obtain ⟨n, hn⟩ : ∃ n, n = valN d.data.toList := ⟨_, rfl⟩
                rw [← hn] at hrr hbd ⊢
                have hbd : n < 1000000000000000000 := hbd
                have e1 := IntWalk.i64_in (-(n : Int)) ⟨by omega, by omega⟩
                obtain ⟨rfl, rfl⟩ : r1 = _ ∧ r2 = 0 := by injection hrr with a b; exact ⟨a, b⟩
                clear hall HB HO hT hrr hn
                go_wp2
                go_ret2
                exact ⟨rfl, rfl⟩
    · rw [decide_eq_false hq] at hb45 hng
      have HE : Hid (s = d) := by rw [hd]; exact mag_pos hng
      have hpt : p = false := hp.trans hng
      have hsd := HE.out.symm
      clear hd hp hng hq h45
      subst hpt
      subst hsd
      by_cases c0 : d.size = 0
      · obtain ⟨rfl, rfl⟩ : r1 = 0 ∧ r2 = 1 := by
          have hrr := HB0.out (by rw [hsh]; (rw [decide_eq_true c0]; rfl))
          injection hrr with a b
          exact ⟨a, b⟩
        clear hsh HB HO HB0
        go_enter Tryz.func64, Tryz.ntmps64
        go_upto_region 4 with fail
        try rw [HE.out]
        clear HE
        go_wp2
        go_ret2
        exact ⟨rfl, rfl⟩
      · by_cases c1 : 18 < d.size
        · obtain ⟨rfl, rfl⟩ : r1 = 0 ∧ r2 = 1 := by
            have hrr := HB0.out (by rw [hsh]; (rw [decide_eq_true c1]; simp))
            injection hrr with a b
            exact ⟨a, b⟩
          clear hsh HB HO HB0
          go_enter Tryz.func64, Tryz.ntmps64
          go_upto_region 4 with fail
          try rw [HE.out]
          clear HE
          go_wp2
          go_ret2
          exact ⟨rfl, rfl⟩
        · have hposd : 0 < d.size := by omega
          have hh := head_get hposd
          rw [hh, decide_eq_false c0, decide_eq_false c1] at hsh
          have hb256 : (d[0].toNat : Int) < 256 := by have := d[0].toNat_lt; omega
          have x0 : decide ((d.size : Int) < 1) = false := decide_eq_false (by omega)
          have x1 : decide ((18 : Int) < (d.size : Int)) = false := decide_eq_false (by omega)
          cases hz : ((d[0].toNat : Int) == 48) with
          | true =>
            by_cases m1 : 1 < d.size
            · obtain ⟨rfl, rfl⟩ : r1 = 0 ∧ r2 = 1 := by
                have hrr := HB0.out (by rw [hsh]; (simp_all))
                injection hrr with a b
                exact ⟨a, b⟩
              clear hsh HB HO HB0
              go_enter Tryz.func64, Tryz.ntmps64
              go_upto_region 4 with fail
              try rw [HE.out]
              clear HE
              go_wp2
              go_ret2
              exact ⟨rfl, rfl⟩
            · have HSh : Hid (_ = true) := Eq.trans hsh (by simp_all)
              clear hsh HB0 hh
              go_enter Tryz.func64, Tryz.ntmps64
              go_upto_region 4 with fail
              try rw [HE.out]
              clear HE
              go_wp2
              go_loop [5, 6] (fun a i => ∃ k : Nat, k ≤ d.size ∧ i = .int .i64 k ∧ a = .int .i64 (valN (d.data.toList.take k) : Int) ∧ Hid ((d.data.toList.take k).all digitB = true)) (fun _ i => d.size - (intOf i).toNat)
              case atStart => exact ⟨0, Nat.zero_le _, rfl, rfl, by simp [Hid]⟩
              case round =>
                obtain ⟨k, hk, rfl, rfl, hT⟩ := hrel
                by_cases hlt : k < d.size
                · have hb2 : (d[k].toNat : Int) < 256 := by have := d[k].toNat_lt; omega
                  have hall := all_takeD hlt
                  have hbadk : digitB d[k] = false → r1 = 0 ∧ r2 = 1 := fun h => by
                    have := HB.out (all_false (k := k) (by simpa using hlt) h)
                    injection this with a b
                    exact ⟨a, b⟩
                  by_cases q1 : (d[k].toNat : Int) < 48
                  · obtain ⟨rfl, rfl⟩ := hbadk (by unfold digitB; rw [decide_eq_true q1]; rfl)
                    clear hall hbadk HB HO hT
                    go_wp2
                    go_ret2
                    exact ⟨rfl, rfl⟩
                  · by_cases q2 : 57 < (d[k].toNat : Int)
                    · obtain ⟨rfl, rfl⟩ := hbadk (by unfold digitB; rw [decide_eq_true q2]; simp)
                      clear hall hbadk HB HO hT
                      go_wp2
                      go_ret2
                      exact ⟨rfl, rfl⟩
                    · have hdk : digitB d[k] = true := by unfold digitB; rw [decide_eq_false q1, decide_eq_false q2]; rfl
                      rw [hT.out, hdk] at hall
                      have hv := valN_take hlt
                      have hbd := valN_small (k := 17) hT.out (by rw [List.length_take]; omega)
                      obtain ⟨n, hn⟩ : ∃ n, n = valN (d.data.toList.take k) := ⟨_, rfl⟩
                      rw [← hn] at hv hbd ⊢
                      have hbd : n < 100000000000000000 := hbd
                      have HN : Hid (((n : Int) * 10) + ((d[k].toNat : Int) - 48) = ((valN (d.data.toList.take (k + 1)) : Nat) : Int)) := by
                        unfold Hid
                        rw [hv]
                        omega
                      have HA := Lib.hid hall
                      have e1 := IntWalk.u8_in ((d[k].toNat : Int) - 48) ⟨by omega, by omega⟩
                      have e2 := IntWalk.i64_in ((d[k].toNat : Int) - 48) ⟨by omega, by omega⟩
                      have e3 := IntWalk.i64_in ((n : Int) * 10) ⟨by omega, by omega⟩
                      have e4 := IntWalk.i64_in ((n : Int) * 10 + ((d[k].toNat : Int) - 48)) ⟨by omega, by omega⟩
                      clear hall hbadk HB HO hT hv hn hdk
                      go_wp2
                      go_round
                      case rel => exact ⟨k + 1, hlt, by go_num, by rw [← HN.out], HA⟩
                      case measure => simp [intOf]; omega
                · have hall := hT.out
                  rw [List.take_of_length_le (by simp; omega)] at hall ⊢
                  have hrr := HO.out HSh.out hall
                  have hbd := valN_small (k := 18) hall (by simp; omega)
                  obtain ⟨n, hn⟩ : ∃ n, n = valN d.data.toList := ⟨_, rfl⟩
                  rw [← hn] at hrr hbd ⊢
                  have hbd : n < 1000000000000000000 := hbd
                  have e1 := IntWalk.i64_in (-(n : Int)) ⟨by omega, by omega⟩
                  obtain ⟨rfl, rfl⟩ : r1 = _ ∧ r2 = 0 := by injection hrr with a b; exact ⟨a, b⟩
                  clear hall HB HO hT hrr hn
                  go_wp2
                  go_ret2
                  exact ⟨rfl, rfl⟩
          | false =>
            have HSh : Hid (_ = true) := Eq.trans hsh (by simp_all)
            clear hsh HB0 hh
            go_enter Tryz.func64, Tryz.ntmps64
            go_upto_region 4 with fail
            try rw [HE.out]
            clear HE
            go_wp2
            go_loop [5, 6] (fun a i => ∃ k : Nat, k ≤ d.size ∧ i = .int .i64 k ∧ a = .int .i64 (valN (d.data.toList.take k) : Int) ∧ Hid ((d.data.toList.take k).all digitB = true)) (fun _ i => d.size - (intOf i).toNat)
            case atStart => exact ⟨0, Nat.zero_le _, rfl, rfl, by simp [Hid]⟩
            case round =>
              obtain ⟨k, hk, rfl, rfl, hT⟩ := hrel
              by_cases hlt : k < d.size
              · have hb2 : (d[k].toNat : Int) < 256 := by have := d[k].toNat_lt; omega
                have hall := all_takeD hlt
                have hbadk : digitB d[k] = false → r1 = 0 ∧ r2 = 1 := fun h => by
                  have := HB.out (all_false (k := k) (by simpa using hlt) h)
                  injection this with a b
                  exact ⟨a, b⟩
                by_cases q1 : (d[k].toNat : Int) < 48
                · obtain ⟨rfl, rfl⟩ := hbadk (by unfold digitB; rw [decide_eq_true q1]; rfl)
                  clear hall hbadk HB HO hT
                  go_wp2
                  go_ret2
                  exact ⟨rfl, rfl⟩
                · by_cases q2 : 57 < (d[k].toNat : Int)
                  · obtain ⟨rfl, rfl⟩ := hbadk (by unfold digitB; rw [decide_eq_true q2]; simp)
                    clear hall hbadk HB HO hT
                    go_wp2
                    go_ret2
                    exact ⟨rfl, rfl⟩
                  · have hdk : digitB d[k] = true := by unfold digitB; rw [decide_eq_false q1, decide_eq_false q2]; rfl
                    rw [hT.out, hdk] at hall
                    have hv := valN_take hlt
                    have hbd := valN_small (k := 17) hT.out (by rw [List.length_take]; omega)
                    obtain ⟨n, hn⟩ : ∃ n, n = valN (d.data.toList.take k) := ⟨_, rfl⟩
                    rw [← hn] at hv hbd ⊢
                    have hbd : n < 100000000000000000 := hbd
                    have HN : Hid (((n : Int) * 10) + ((d[k].toNat : Int) - 48) = ((valN (d.data.toList.take (k + 1)) : Nat) : Int)) := by
                      unfold Hid
                      rw [hv]
                      omega
                    have HA := Lib.hid hall
                    have e1 := IntWalk.u8_in ((d[k].toNat : Int) - 48) ⟨by omega, by omega⟩
                    have e2 := IntWalk.i64_in ((d[k].toNat : Int) - 48) ⟨by omega, by omega⟩
                    have e3 := IntWalk.i64_in ((n : Int) * 10) ⟨by omega, by omega⟩
                    have e4 := IntWalk.i64_in ((n : Int) * 10 + ((d[k].toNat : Int) - 48)) ⟨by omega, by omega⟩
                    clear hall hbadk HB HO hT hv hn hdk
                    go_wp2
                    go_round
                    case rel => exact ⟨k + 1, hlt, by go_num, by rw [← HN.out], HA⟩
                    case measure => simp [intOf]; omega
              · have hall := hT.out
                rw [List.take_of_length_le (by simp; omega)] at hall ⊢
                have hrr := HO.out HSh.out hall
                have hbd := valN_small (k := 18) hall (by simp; omega)
                obtain ⟨n, hn⟩ : ∃ n, n = valN d.data.toList := ⟨_, rfl⟩
                rw [← hn] at hrr hbd ⊢
                have hbd : n < 1000000000000000000 := hbd
                have e1 := IntWalk.i64_in (-(n : Int)) ⟨by omega, by omega⟩
                obtain ⟨rfl, rfl⟩ : r1 = _ ∧ r2 = 0 := by injection hrr with a b; exact ⟨a, b⟩
                clear hall HB HO hT hrr hn
                go_wp2
                go_ret2
                exact ⟨rfl, rfl⟩
end Go.Proofs.YtpcemipfanimgaaGreatDoor
/- Contract: the document's own reading of a link. -/
set_option linter.unusedVariables false
set_option linter.unusedSimpArgs false
namespace Go.Proofs.YtpcemipfanimgaaGreatDoor
open Go Go.RowKit Go.Sort Go.Lib Go.Shelf
theorem unlink_hit {s : ByteArray} {k : Nat} (hk : k < s.size) (h : ∀ x ∈ s.data.toList.take k, x ≠ 64) (hq : s[k] = 64) :
    unlinkRet s = if (numRet (s.extract 0 k)).2 = 0 ∧ 0 ≤ (numRet (s.extract 0 k)).1 ∧ nameOk (s.extract (k + 1) s.size) = true then ((numRet (s.extract 0 k)).1, s.extract (k + 1) s.size, 0) else (0, ⟨#[]⟩, 6) := by
  obtain ⟨p1, p2⟩ := pre_at h (take_hit hk hq)
  have hl : (s.data.toList.take k).length = k := by rw [List.length_take]; have : s.data.toList.length = s.size := by simp
                                                    omega
  have e1 : s.extract 0 k = ba (preOf 64 s.data.toList) := by rw [ext_take s k (by omega), p1]
  have e2 : s.extract (k + 1) s.size = ba (s.data.toList.drop ((preOf 64 s.data.toList).length + 1)) := by rw [ext_drop, p1, hl]
  rw [e2, e1]
  unfold unlinkRet unlinkB
  rw [if_pos p2]
  have hp := numRet_pair (ba (preOf 64 s.data.toList))
  rw [bts_ba] at hp
  rcases hp with ⟨h1, h2⟩ | ⟨h1, h2, h3⟩
  · rw [h2]
    simp only [h1, true_and]
    split
    · rename_i v n hv
      split at hv
      · rename_i q
        rw [if_pos q]
        injection hv with hv
        injection hv with a b
        rw [a, b]
      · cases hv
    · rename_i hv
      split at hv
      · cases hv
      · rename_i q
        rw [if_neg q]
  · rw [h3]
    rw [if_neg (by rw [h1]; simp)]
theorem unlink_miss {s : ByteArray} (h : ∀ x ∈ s.data.toList, x ≠ 64) : unlinkRet s = (0, ⟨#[]⟩, 6) := by
  unfold unlinkRet unlinkB
  rw [if_neg (fun q => h 64 q rfl)]
set_option maxRecDepth 100000 in
set_option maxHeartbeats 2000000 in
theorem r1unlink_any (s : ByteArray) (w : World) (hs : s.size ≤ 1000000) : Calls Tryz.prog 29 #[.string s] w fun e w' => e = .returned (.tuple #[.int .i64 (unlinkRet s).1, .string (unlinkRet s).2.1, .int .i64 (unlinkRet s).2.2]) ∧ Only [] w w' := by
  have HHit := Lib.hid (fun (k : Nat) (hk : k < s.size) (h1 : ∀ x ∈ s.data.toList.take k, x ≠ 64) (h2 : s[k] = 64) => unlink_hit hk h1 h2)
  have HMiss := Lib.hid (fun (h : ∀ x ∈ s.data.toList, x ≠ 64) => unlink_miss h)
  obtain ⟨r, hr⟩ : ∃ r, unlinkRet s = r := ⟨_, rfl⟩
  rw [hr] at HHit HMiss ⊢
  obtain ⟨r1, r2, r3⟩ := r
  clear hr
  go_enter Tryz.func29, Tryz.ntmps29
  go_wp2
  go_loopw [5] (fun i wr => ∃ k : Nat, k ≤ s.size ∧ i = .int .i64 k ∧ Hid (∀ x ∈ s.data.toList.take k, x ≠ 64) ∧ Only [] w wr) (fun i _ => s.size - (intOf i).toNat)
  case atStart => exact ⟨0, Nat.zero_le _, rfl, by simp [Hid], Only.refl _ _⟩
  case round =>
    obtain ⟨k, hk, rfl, hT, hO⟩ := hrel
    by_cases hlt : k < s.size
    · have hb := get_toNat hlt 64
      have h64 : ((64 : UInt8).toNat : Int) = 64 := rfl
      rw [h64] at hb
      have e9 := IntWalk.i64_in ((k : Int) + 1) ⟨by omega, by omega⟩
      by_cases hq : s[k] = 64
      · rw [decide_eq_true hq] at hb
        have hr := HHit.out k hlt hT.out hq
        have hx0 : s.extract 0 k = ba (s.data.toList.take k) := ext_take s k (by omega)
        have hy0 : s.extract (k + 1) s.size = ba (s.data.toList.drop (k + 1)) := ext_drop s (k + 1)
        have hxs : (s.extract 0 k).size ≤ 1000000 := by simp; omega
        have hys : (s.extract (k + 1) s.size).size ≤ 1000000 := by simp; omega
        obtain ⟨x, hx⟩ : ∃ x, s.extract 0 k = x := ⟨_, rfl⟩
        obtain ⟨y, hy⟩ : ∃ y, s.extract (k + 1) s.size = y := ⟨_, rfl⟩
        rw [hx, hy] at hr
        rw [hx] at hxs
        rw [hy] at hys
        have HX := Lib.hid hx
        have HY := Lib.hid hy
        have HN := Lib.hid (fun W => r1number_any x W hxs)
        have HS := Lib.hid (fun W => r1stream_any y W (by unfold maxLen; omega))
        obtain ⟨nn, hnn⟩ : ∃ nn, numRet x = nn := ⟨_, rfl⟩
        obtain ⟨ok, hok⟩ : ∃ ok, nameOk y = ok := ⟨_, rfl⟩
        rw [hnn, hok] at hr
        rw [hnn] at HN
        rw [hok] at HS
        obtain ⟨n1, n2⟩ := nn
        dsimp only at hr HN
        clear hT hq h64 hx0 hy0 HHit HMiss hnn hok hx hy
        go_wp2_with fail
        rw [HX.out]
        refine (HN.out _).mono ?_
        rintro e w2 ⟨rfl, rfl⟩
        by_cases h2 : n2 = 0
        · subst h2
          have hb2 : ((0 : Int) != 0) = false := rfl
          by_cases h1 : n1 < 0
          · have hd1 : decide (n1 < 0) = true := decide_eq_true h1
            rw [if_neg (fun q => by omega)] at hr
            injection hr with q1 q2
            injection q2 with q2 q3
            subst q1 q2 q3
            go_wp2
            go_ret3
            exact ⟨rfl, hO⟩
          · have hd1 : decide (n1 < 0) = false := decide_eq_false h1
            cases ok with
            | false =>
              rw [if_neg (fun q => by cases q.2.2)] at hr
              injection hr with q1 q2
              injection q2 with q2 q3
              subst q1 q2 q3
              go_wp2_with fail
              rw [HY.out]
              refine (HS.out _).mono ?_
              rintro e w3 ⟨rfl, rfl⟩
              go_wp2
              go_ret3
              exact ⟨rfl, hO⟩
            | true =>
              rw [if_pos ⟨rfl, by omega, rfl⟩] at hr
              injection hr with q1 q2
              injection q2 with q2 q3
              subst q1 q3
              have Q2 := Lib.hid q2
              clear q2
              go_wp2_with fail
              rw [HY.out]
              refine (HS.out _).mono ?_
              rintro e w3 ⟨rfl, rfl⟩
              have hkk : k + 1 ≤ s.size := by omega
              go_wp2_with fail
              refine wp_region_quiet_below (by kernel_rfl) (by kernel_rfl) ?_
              repeat (go_big_quiet_step (fail))
              refine wpQuiet_nil ?_
              rintro _ ⟨p, rfl⟩
              go_wp2
              go_ret3
              have e0 : s.extract (k + 1) s.size = r2 := by rw [Q2.out]; exact HY.out
              exact ⟨by rw [← e0]; rfl, hO.trans (Only.regrown [] _ _ _)⟩
        · have hb2 : (n2 != 0) = true := by simpa using h2
          rw [if_neg (fun q => h2 q.1)] at hr
          injection hr with q1 q2
          injection q2 with q2 q3
          subst q1 q2 q3
          go_wp2
          go_ret3
          exact ⟨rfl, hO⟩
      · rw [decide_eq_false hq] at hb
        have HN := Lib.hid (take_none hlt hT.out hq)
        clear hq h64 hT
        go_wp2
        exact ⟨⟨k + 1, hlt, by simp, HN, hO⟩, by simp [intOf]; omega⟩
    · have hr := HMiss.out (fun x hx => hT.out x (by rw [List.take_of_length_le (by simp; omega)]; exact hx))
      injection hr with q1 q2
      injection q2 with q2 q3
      subst q1 q2 q3
      clear HHit HMiss hT
      go_wp2
      go_ret3
      exact ⟨rfl, hO⟩
end Go.Proofs.YtpcemipfanimgaaGreatDoor
/- LinkTargets: the walk. -/
set_option linter.unusedVariables false
set_option linter.unusedSimpArgs false
namespace Go.Proofs.YtpcemipfanimgaaGreatDoor
open Go Go.RowKit Go.Sort
theorem blk_put8L {W : World} {g : Nat} {T : TypeId} {a0 a1 a2 a3 a4 a5 a6 a7 : Value} (h : Blk W g T #[a0, a1, a2, a3, a4, a5, a6, a7]) (b0 b1 b2 b3 b4 b5 b6 b7 : Value) : Blk ((((((((W.setCell ⟨g, 0, none⟩ b0).setCell ⟨g, 1, none⟩ b1).setCell ⟨g, 2, none⟩ b2).setCell ⟨g, 3, none⟩ b3).setCell ⟨g, 4, none⟩ b4).setCell ⟨g, 5, none⟩ b5).setCell ⟨g, 6, none⟩ b6).setCell ⟨g, 7, none⟩ b7) g T #[b0, b1, b2, b3, b4, b5, b6, b7] := by
  have := ((((((((h.set 0 b0).set 1 b1).set 2 b2).set 3 b3).set 4 b4).set 5 b5).set 6 b6).set 7 b7)
  simpa using this
theorem targetsAll_few {s : MS} (h : s.all.length ≤ 300) : (targetsAll s).length ≤ 600 := by
  have hk := targK_few s s.all.length (Nat.le_refl _)
  unfold targK at hk
  rw [List.take_length] at hk
  unfold targetsAll
  rw [List.length_map]
  refine Nat.le_trans (m := (blsort ((s.all.flatMap targetsOf).map fun t => t.data.toList)).length) ?_ ?_
  · unfold Lib.compact Lib.compactUpTo
    rw [List.length_map]
    exact Nat.le_trans (List.length_filter_le _ _) (by simp)
  · unfold blsort
    rw [List.length_mergeSort, List.length_map]
    omega
theorem catT_size (s : ByteArray) : (catT s).size ≤ s.size := by
  unfold catT
  cases h : cat s with
  | none => exact Nat.zero_le _
  | some c =>
    obtain ⟨_, _, _, e, _⟩ := cat_some h
    show c.size ≤ _
    rw [e]
    exact pre_size
set_option maxRecDepth 100000 in
set_option maxHeartbeats 4000000 in
theorem targets_go (w : World) (hT : Tab w) (v1 v2 : Value) (l : List CmdV) (pg : List StoredR) (hc : CmdsAt w w v1 l) (hpg : Slc w 8 v2 pg.length (pg.flatMap StoredR.cells)) (hpf : ∀ x ∈ pg, StFits x) :
    Calls Tryz.prog 7 #[v1, v2] w fun e w' => e = .returned (.bool true) ∧ Only [] w w' := by
  have hsf := stF
  have hl0 := fun (W : World) (hW : Only [] w W) => light_any (hc.keep0 hW) 30 (by omega)
  have hf0 := fun (W : World) (hW : Only [] w W) => few_any 20 (by omega) (hpg.only0 hW) hpf
  have HST := Lib.hid (fun (W : World) (hW : Only [] w W) (hl : l.length ≤ 1000) => state_any (a := w) (w := W) hW (hc.keep0 hW) hl)
  obtain ⟨A1, cap1, rfl, hnc1, hcm1, hel1⟩ := hc.cells
  obtain ⟨A2, cap2, rfl, hnc2, hcm2, hel2⟩ := hpg.openE StoredR.cells (fun _ => rfl)
  unfold maxLen at hcm1 hcm2
  have HL1 := Lib.hid hl0
  have HF1 := Lib.hid hf0
  have HA := Lib.hid (fun (W : World) (hW : Only [] w W) => alive25_any W (hT.only hW))
  clear hl0 hf0
  go_enter Tryz.func7, Tryz.ntmps7
  go_wp2_with fail
  refine (HL1.out _ (Only.refl _ _)).mono ?_
  rintro e w1 ⟨⟨b1, rfl, hl1⟩, ho1⟩
  cases b1
  · clear hl1
    go_wp2_with (go_at_call 10; refine (HA.out _ ho1).mono ?_; rintro e w3 ⟨rfl, ho3⟩)
    go_ret
    exact ⟨rfl, ho1.trans ho3⟩
  have hl30 : l.length ≤ 30 := hl1 rfl
  clear hl1
  go_wp2_with fail
  refine (HF1.out _ ho1).mono ?_
  rintro e w2 ⟨⟨b2, rfl, hf1⟩, ho2⟩
  have hO2 := ho1.trans ho2
  cases b2
  · clear hf1
    go_wp2_with (go_at_call 10; refine (HA.out _ hO2).mono ?_; rintro e w3 ⟨rfl, ho3⟩)
    go_ret
    exact ⟨rfl, hO2.trans ho3⟩
  obtain ⟨hp20, hpd⟩ := hf1 rfl
  clear hf1
  go_wp2_with fail
  refine (HST.out _ hO2 (by omega)).mono ?_
  rintro e w4 ⟨rfl, hh4, hk4⟩
  have hnt := neat_run (l := l) neat_new
  have hsi := sinv_run (l := l) sinv_new
  obtain ⟨s, hs⟩ : ∃ s, runS MS.new l = s := ⟨_, rfl⟩
  rw [hs] at hh4 hnt hsi
  obtain ⟨sb, hsb⟩ : ∃ sb, w2.heap.size + 1 = sb := ⟨_, rfl⟩
  obtain ⟨mb, hmb⟩ : ∃ mb, w2.heap.size = mb := ⟨_, rfl⟩
  rw [hsb, hmb] at hh4
  rw [hsb]
  clear hsb hmb hs HL1 HF1 HST hel1 hc
  have hlen : s.all.length ≤ 1000000 := by have := hh4.ok.all; omega
  have HE := Lib.hid (has_every hh4 (by omega))
  have HTg := Lib.hid (fun (W : World) (hW : Only [] w4 W) => targetsAll_any (hh4.keep hW) (by omega) hnt)
  have hTmem := Lib.hid (targetsAll_mem s)
  have hTris := Lib.hid (targetsAll_rising s)
  have hTpl := Lib.hid (fun (t : ByteArray) (h : t ∈ targetsAll s) => plain_some h)
  have hTn := Lib.hid (targetsAll_few (s := s) (by have := hh4.ok.all; omega))
  obtain ⟨T, hTT⟩ : ∃ T, targetsAll s = T := ⟨_, rfl⟩
  rw [hTT] at hTn HTg hTmem hTris hTpl
  clear hTT
  go_wp2_with (first
    | (go_at_call 22; refine HE.out.mono ?_; rintro e w5 ⟨v5, rfl, hown5, ho5⟩
       obtain ⟨A5, cap5, rfl, hS5⟩ := StSl.of (Slc.of_own hown5).1)
    | (go_at_call 20; refine (HTg.out _ ho5).mono ?_; rintro e w6 ⟨v6, rfl, hown6, ho6⟩
       obtain ⟨A6, cap6, rfl, hnc6, hcm6, hel6⟩ := (Slc.of_own hown6).1.openS
       unfold maxLen at hcm6))
  have hPl := Lib.hid (fun (W : World) (hW : Only [] w5 W) (t : ByteArray) (ht : t.size ≤ maxLen) => plain_any (w := W) (v := .slice A5 s.all.length cap5) t ht ((Slc.of_own (own_only hown5 hW (by simp))).1) hlen (fun x hx => by have := (hnt.sizes hx).1; unfold maxLen; omega))
  have hTsz : ∀ t ∈ T, t.size ≤ 60 := fun t ht => by
    obtain ⟨x, _, hx⟩ := (hTmem.out t).1 ht
    exact (nameOk_size (wantsL_sys hx).1).2
  have HTsz := Lib.hid hTsz
  have hle5 := hS5.le
  have hcap5 := hS5.cap
  clear HE HTg hTsz hown5
  have hTl0 : T.length ≤ 1000000 := by
    have h1 := hTn.out
    omega
  go_loopw [8] (fun i wr => ∃ j : Nat, j ≤ T.length ∧ i = .int .i64 j ∧ Only [] w6 wr) (fun i _ => T.length - (intOf i).toNat)
  case atStart => exact ⟨0, Nat.zero_le _, rfl, Only.refl _ _⟩
  case round =>
    obtain ⟨j, hj, rfl, hOj⟩ := hrel
    by_cases hjl : j < T.length
    · obtain ⟨bt, offt, rfl, hbt, hct⟩ := hel6 j hjl
      have hlt2 : decide ((j : Int) < (T.length : Int)) = true := decide_eq_true (by omega)
      have e9 := IntWalk.i64_in ((j : Int) + 1) ⟨by omega, by omega⟩
      obtain ⟨y, hy⟩ : ∃ y, T[j] = y := ⟨_, rfl⟩
      have hym : y ∈ T := by rw [← hy]; exact List.getElem_mem hjl
      have hys := HTsz.out y hym
      have hpos := hTpl.out y hym
      rw [hy] at hct
      have c0 := (hOj.cell hbt (by simp)).trans hct
      have hbw : bt < wr.heap.size := Nat.lt_of_lt_of_le hbt hOj.size
      have k0 := Within.cell (S := []) c0 (by simp)
      have HP1 := Lib.hid (fun (W : World) (hW : Only [] wr W) => hPl.out W ((ho6.trans hOj).trans hW) y (by unfold maxLen; omega))
      obtain ⟨P, hP⟩ : ∃ P, plainL y s.all = P := ⟨_, rfl⟩
      rw [hP] at HP1 hpos
      have hne : ((P.length : Int) == 0) = false := by rw [beq_eq_false_iff_ne]; omega
      clear hP hct
      by_cases hj0 : 0 < j
      · obtain ⟨b', off', e', hbt', hct'⟩ := hel6 (j - 1) (by omega)
        cases e'
        obtain ⟨z, hz⟩ : ∃ z, T[j - 1] = z := ⟨_, rfl⟩
        rw [hz] at hct'
        have c1 := (hOj.cell hbt' (by simp)).trans hct'
        have k1 := Within.cell (S := []) c1 (by simp)
        have hlt : z.data.toList < y.data.toList := by
          have := List.pairwise_iff_getElem.1 hTris.out (j - 1) j (by omega) hjl (by omega)
          rw [hz, hy] at this
          exact this
        have g1 : decide ((j : Int) > 0) = true := decide_eq_true (by omega)
        have g2 : decide (0 < j) = true := decide_eq_true hj0
        have e8 := IntWalk.i64_in ((j : Int) - 1) ⟨by omega, by omega⟩
        have e7 : ((j : Int) - 1).toNat = j - 1 := by omega
        have e6 : (0 : Int) ≤ (j : Int) - 1 := by omega
        have hbl : Op.bytesLess z.toList y.toList = true := by
          rw [ByteArray.toList_eq, ByteArray.toList_eq, Go.Proofs.bytesLess_eq]
          exact decide_eq_true hlt
        clear hel6 hz hy hct' c1 c0 hlt
        go_wp2_with fail
        refine wp_region_stages (C := fun W => ∃ p : Within [] wr, W = p.W) [([0, 1, 2, 3, 4, 5, 6, 7, 8, 9, 10, 11, 12, 13, 14, 15, 16, 17, 18, 19], [])] [20, 21, 22, 23] (by kernel_rfl) (by kernel_rfl) (by intro c d u a w h; cases d <;> exact h) ⟨⟨_, (Only.refl _ _).drew⟩, rfl⟩ ?_
        refine stagesFirst ?_
        show wpQuiet _ _ _ _ [_, _, _, _, _, _, _, _, _, _, _, _, _, _, _, _, _, _, _, _] _
        repeat (go_big_quiet_step (fail))
        refine wpQuiet_nil ?_
        refine stagesEnd ?_
        show wpList _ _ _ [_, _, _, _] _ _
        go_wp2_with (go_at_call 23; refine (HP1.out _ (Only.refl _ _).drew).mono ?_; rintro e w7 ⟨v7, rfl, hown7, ho7⟩
                     obtain ⟨A7, cap7, rfl, _, _⟩ := own_form hown7)
        exact ⟨⟨j + 1, by omega, by simp, (hOj.trans (Only.refl _ _).drew).trans ho7⟩, by simp [intOf]; omega⟩
      · have g1 : decide ((j : Int) > 0) = false := decide_eq_false (by omega)
        have g2 : decide (0 < j) = false := decide_eq_false hj0
        clear hel6 hy
        go_wp2_with fail
        refine wp_region_stages (C := fun W => ∃ p : Within [] wr, W = p.W) [([0, 1, 2, 3, 4, 5, 6, 7, 8, 9, 10, 11, 12, 13, 14, 15, 16, 17, 18, 19], [])] [20, 21, 22, 23] (by kernel_rfl) (by kernel_rfl) (by intro c d u a w h; cases d <;> exact h) ⟨⟨_, (Only.refl _ _).drew⟩, rfl⟩ ?_
        refine stagesFirst ?_
        show wpQuiet _ _ _ _ [_, _, _, _, _, _, _, _, _, _, _, _, _, _, _, _, _, _, _, _] _
        repeat (go_big_quiet_step (fail))
        refine wpQuiet_nil ?_
        refine stagesEnd ?_
        show wpList _ _ _ [_, _, _, _] _ _
        go_wp2_with (go_at_call 23; refine (HP1.out _ (Only.refl _ _).drew).mono ?_; rintro e w7 ⟨v7, rfl, hown7, ho7⟩
                     obtain ⟨A7, cap7, rfl, _, _⟩ := own_form hown7)
        exact ⟨⟨j + 1, by omega, by simp, (hOj.trans (Only.refl _ _).drew).trans ho7⟩, by simp [intOf]; omega⟩
    · have hlt2 : decide ((j : Int) < (T.length : Int)) = false := decide_eq_false (by omega)
      go_upto_region 14 with fail
      have hO6 := (hh4.keep ((ho5.trans ho6).trans hOj)).only
      have hS6 := hS5.only (ho6.trans hOj)
      have hsT : Slc wr 1 (.slice A6 T.length cap6) T.length (strs T) := (Slc.of_own (own_only hown6 hOj (by simp))).1
      have hTl : T.length ≤ 1000000 := by
        apply Classical.byContradiction
        intro q
        exact absurd hTl0 (by omega)
      have hh6 := hh4.keep ((ho5.trans ho6).trans hOj)
      have hIn := Lib.hid (fun (W : World) (hW : Only [] wr W) (t : ByteArray) (ht : t ∈ T) => inS_any (hsT.only0 hW) t hTl ht)
      have hW0 : Only [] w wr := hO6
      clear hel6 hown6 hcm6 hPl hTpl hTris hTl hTl0 hlt2 hjl hj hk4 hO6 HTsz hS5
      obtain ⟨W9, hW9⟩ : ∃ W9, W9 = wr := ⟨_, rfl⟩
      rw [← hW9] at hS6 hh6 hIn hW0 hsT ⊢
      clear hW9 hOj ho6 ho5 hh4 hsT
      go_loopw [9] (fun i wr => ∃ k : Nat, k ≤ s.all.length ∧ i = .int .i64 k ∧ Only [] W9 wr) (fun i _ => s.all.length - (intOf i).toNat)
      case atStart => exact ⟨0, Nat.zero_le _, rfl, Only.refl _ _⟩
      case round =>
        obtain ⟨k, hk, rfl, hOk⟩ := hrel
        by_cases hkl : k < s.all.length
        · obtain ⟨b, off, rfl, hbb, hcc⟩ := (hS6.only hOk).at_ k hkl
          obtain ⟨x, hx⟩ : ∃ x, s.all[k] = x := ⟨_, rfl⟩
          have hxm : x ∈ s.all := by rw [← hx]; exact List.getElem_mem hkl
          have hxs := hnt.sizes hxm
          rw [hx] at hcc
          have c0 : wr.cell? ⟨b, off + k * 8, none⟩ = some (.int .i64 x.ev.id) := hcc 0 (by omega)
          have c1 : wr.cell? ⟨b, off + k * 8 + 1, none⟩ = some (.string x.ev.type) := hcc 1 (by omega)
          have c2 : wr.cell? ⟨b, off + k * 8 + 2, none⟩ = some (.string x.ev.data) := hcc 2 (by omega)
          have c3 : wr.cell? ⟨b, off + k * 8 + 3, none⟩ = some (.float .f64 x.ev.value) := hcc 3 (by omega)
          have c4 : wr.cell? ⟨b, off + k * 8 + 4, none⟩ = some (.string x.stream) := hcc 4 (by omega)
          have c5 : wr.cell? ⟨b, off + k * 8 + 5, none⟩ = some (.int .i64 x.version) := hcc 5 (by omega)
          have c6 : wr.cell? ⟨b, off + k * 8 + 6, none⟩ = some (.int .i64 x.position) := hcc 6 (by omega)
          have c7 : wr.cell? ⟨b, off + k * 8 + 7, none⟩ = some (.int .i64 x.time) := hcc 7 (by omega)
          have hlt2 : decide ((k : Int) < (s.all.length : Int)) = true := decide_eq_true (by omega)
          have e9 := IntWalk.i64_in ((k : Int) + 1) ⟨by omega, by omega⟩
          have HCa := Lib.hid (fun W => r1category_any x.stream W (by unfold maxLen; omega))
          have hcs := catT_size x.stream
          obtain ⟨cT, hcT⟩ : ∃ cT, catT x.stream = cT := ⟨_, rfl⟩
          obtain ⟨ok, hok⟩ : ∃ ok, (cat x.stream).isSome = ok := ⟨_, rfl⟩
          rw [hcT, hok] at HCa
          rw [hcT] at hcs
          have HWn := Lib.hid (fun (W : World) (y : ByteArray) (hy : y.size ≤ 1000) => lwants_any (w := W) y x (by unfold maxLen; omega) (by unfold maxLen; omega))
          unfold StoredR.val at HWn
          have HIn := Lib.hid (fun (W : World) (hW : Only [] W9 W) (y : ByteArray) (hy : wantsL y x = true) => hIn.out W hW y ((hTmem.out y).2 ⟨x, hxm, hy⟩))
          clear hcc hx hok hcT
          go_wp2_with (go_at_call 24; refine (HCa.out _).mono ?_; rintro e w10 ⟨rfl, ho10⟩
                       have d1 := (ho10.cell (p := ⟨b, off + k * 8 + 1, none⟩) hbb (by simp)).trans c1)
          have hsl : ∃ s1 s2 : ByteArray, s1.size ≤ 1000 ∧ s2.size ≤ 1000 ∧ s1 = (⟨#[36, 99, 101, 45]⟩ ++ cT : ByteArray) ∧ s2 = (⟨#[36, 101, 116, 45]⟩ ++ x.ev.type : ByteArray) := ⟨_, _, by simp; have : (⟨#[36, 99, 101, 45]⟩ : ByteArray).size = 4 := rfl; omega, by simp; have : (⟨#[36, 101, 116, 45]⟩ : ByteArray).size = 4 := rfl; omega, rfl, rfl⟩
          obtain ⟨s1, s2, hs1, hs2, e1, e2⟩ := hsl
          rw [← e1, ← e2]
          have E1 := Lib.hid e1
          have E2 := Lib.hid e2
          clear e1 e2
          have hB10 := Blk.new w10 9 #[.string s1, .string s2]
          have hO10 := ho10.alloc (.cells #[.string s1, .string s2] 9)
          obtain ⟨W10, hW10⟩ : ∃ W10, w10.alloc (.cells #[.string s1, .string s2] 9) = W10 := ⟨_, rfl⟩
          obtain ⟨b10, hb10⟩ : ∃ b10, w10.heap.size = b10 := ⟨_, rfl⟩
          rw [hW10] at hB10 hO10 ⊢
          rw [hb10] at hB10 ⊢
          clear hW10 hb10 ho10
          have hY : ∀ i, i < 2 → ∃ y : ByteArray, y.size ≤ 1000 ∧ W10.cell? ⟨b10, i, none⟩ = some (.string y) := fun i hi => by
            match i, hi with
            | 0, _ => exact ⟨s1, hs1, hB10.cell 0⟩
            | 1, _ => exact ⟨s2, hs2, hB10.cell 1⟩
          have hbb10 := hB10.lt
          have hbw : b < W10.heap.size := Nat.lt_of_lt_of_le hbb hO10.size
          have HY := Lib.hid hY
          have d0 := (hO10.cell (p := ⟨b, off + k * 8, none⟩) hbb (by simp)).trans c0
          have d1 := (hO10.cell (p := ⟨b, off + k * 8 + 1, none⟩) hbb (by simp)).trans c1
          have d2 := (hO10.cell (p := ⟨b, off + k * 8 + 2, none⟩) hbb (by simp)).trans c2
          have d3 := (hO10.cell (p := ⟨b, off + k * 8 + 3, none⟩) hbb (by simp)).trans c3
          have d4 := (hO10.cell (p := ⟨b, off + k * 8 + 4, none⟩) hbb (by simp)).trans c4
          have d5 := (hO10.cell (p := ⟨b, off + k * 8 + 5, none⟩) hbb (by simp)).trans c5
          have d6 := (hO10.cell (p := ⟨b, off + k * 8 + 6, none⟩) hbb (by simp)).trans c6
          have d7 := (hO10.cell (p := ⟨b, off + k * 8 + 7, none⟩) hbb (by simp)).trans c7
          have hO11 := hOk.trans hO10
          clear c0 c1 c2 c3 c4 c5 c6 c7 hY hB10 hs1 hs2
          go_loopw [96] (fun i wr => ∃ m : Nat, m ≤ 2 ∧ i = .int .i64 m ∧ Only [] W10 wr) (fun i _ => 2 - (intOf i).toNat)
          case atStart => exact ⟨0, Nat.zero_le _, rfl, Only.refl _ _⟩
          case round =>
            obtain ⟨m, hm, rfl, hOm⟩ := hrel
            by_cases hm2 : m < 2
            · obtain ⟨y, hys, hyc⟩ := HY.out m hm2
              have c0 := (hOm.cell hbw (by simp)).trans d0
              have c1 := (hOm.cell hbw (by simp)).trans d1
              have c2 := (hOm.cell hbw (by simp)).trans d2
              have c3 := (hOm.cell hbw (by simp)).trans d3
              have c4 := (hOm.cell hbw (by simp)).trans d4
              have c5 := (hOm.cell hbw (by simp)).trans d5
              have c6 := (hOm.cell hbw (by simp)).trans d6
              have c7 := (hOm.cell hbw (by simp)).trans d7
              have c8 := (hOm.cell hbb10 (by simp)).trans hyc
              have HW1 := Lib.hid (fun W => HWn.out W y hys)
              have hm3 : decide ((m : Int) < 2) = true := decide_eq_true (by omega)
              have e8 := IntWalk.i64_in ((m : Int) + 1) ⟨by omega, by omega⟩
              clear d0 d1 d2 d3 d4 d5 d6 d7 hyc
              cases hq : wantsL y x with
              | true =>
                rw [hq] at HW1
                have HI1 := Lib.hid (fun W hW => HIn.out W hW y hq)
                clear hq
                cases ok with
                | true =>
                  go_wp2_with (first
                    | (go_at_call 12; refine (HW1.out _).mono ?_; rintro e w12 ⟨rfl, ho12⟩)
                    | (go_at_call 25; refine (HI1.out _ ((hO11.trans hOm).trans ho12)).mono ?_; rintro e w13 ⟨rfl, ho13⟩))
                  exact ⟨⟨m + 1, by omega, by simp, (hOm.trans ho12).trans ho13⟩, by simp [intOf]; omega⟩
                | false =>
                  go_wp2_with (first
                    | (go_at_call 12; refine (HW1.out _).mono ?_; rintro e w12 ⟨rfl, ho12⟩)
                    | (go_at_call 25; refine (HI1.out _ ((hO11.trans hOm).trans ho12)).mono ?_; rintro e w13 ⟨rfl, ho13⟩))
                  all_goals go_round
                  all_goals first
                    | exact ⟨m + 1, by omega, by go_num, (hOm.trans ho12).trans ho13⟩
                    | exact ⟨m + 1, by omega, by go_num, hOm⟩
                    | (simp [intOf]; omega)
              | false =>
                rw [hq] at HW1
                clear hq
                cases ok with
                | true =>
                  go_wp2_with (go_at_call 12; refine (HW1.out _).mono ?_; rintro e w12 ⟨rfl, ho12⟩)
                  exact ⟨⟨m + 1, by omega, by simp, hOm.trans ho12⟩, by simp [intOf]; omega⟩
                | false =>
                  go_wp2_with (go_at_call 12; refine (HW1.out _).mono ?_; rintro e w12 ⟨rfl, ho12⟩)
                  all_goals go_round
                  all_goals first
                    | exact ⟨m + 1, by omega, by go_num, hOm.trans ho12⟩
                    | exact ⟨m + 1, by omega, by go_num, hOm⟩
                    | (simp [intOf]; omega)
            · have hm3 : decide ((m : Int) < 2) = false := decide_eq_false (by omega)
              clear d0 d1 d2 d3 d4 d5 d6 d7
              go_wp2
              exact ⟨⟨k + 1, by omega, by simp, hO11.trans hOm⟩, by simp [intOf]; omega⟩
        · have hlt2 : decide ((k : Int) < (s.all.length : Int)) = false := decide_eq_false (by omega)
          go_upto_region 23 with fail
          have hhk := hh6.keep hOk
          have HLe := Lib.hid (lentS_any (w := wr) (hpg.only0 hhk.only) (by omega))
          have hwr := hhk.only
          obtain ⟨W11, hW11⟩ : ∃ W11, W11 = wr := ⟨_, rfl⟩
          rw [← hW11] at hhk HLe hwr ⊢
          clear hW11 hOk hh6 hS6 hIn hTmem hTn hlt2 hkl hk hle5 hcap5 hnc6 hW0
          go_wp2_with (first
            | (go_at_call 26; refine HLe.out.mono ?_; rintro e w12 ⟨A12, c12, rfl, hL12, ho12⟩
               have HRs := Lib.hid (kresolve_any (hhk.keep ho12) (by omega) hL12.slc (by omega) (fun x hx => by have := (hpd x hx).2.2; omega)))
            | (go_at_call 27; refine HRs.out.mono ?_; rintro e w13 ⟨A13, c13, rfl, hown13, ho13⟩
               have HSy := Lib.hid (staysS_any (hL12.keep ho13 (by simp)) (hpg.only0 ((hwr.trans ho12).trans ho13)) (by omega)))
            | (go_at_call 28; refine HSy.out.mono ?_; rintro e w14 ⟨rfl, ho14⟩))
          have hR0 : (pg.map (resolveB s)).length = pg.length := List.length_map _
          have hSR : Slc w14 8 (.slice A13 (pg.map (resolveB s)).length c13) (pg.map (resolveB s)).length ((pg.map (resolveB s)).flatMap StoredR.cells) := by
            rw [hR0]
            exact (Slc.of_own (own_only hown13 ho14 (by simp))).1
          obtain ⟨_, _, e13, hStR⟩ := StSl.of hSR
          cases e13
          have hleR := hStR.le
          have hcapR := hStR.cap
          rw [hR0] at hleR
          have HR0 := Lib.hid hR0
          have hh14 := hhk.keep ((ho12.trans ho13).trans ho14)
          have hww := hh14.only
          clear hSR hown13 hL12 HLe HRs HSy hR0 hhk hwr
          have HUn := Lib.hid (fun (W : World) (x : StoredR) (hx : x ∈ pg) => r1unlink_any x.ev.data W (by have := (hpd x hx).2.2; omega))
          have HAt := Lib.hid (fun (W : World) (hW : Only [] w14 W) (n : ByteArray) (v : Int) => has_at (hh14.keep hW) (by omega) n v)
          have HRe := Lib.hid (fun (x : StoredR) => (rfl : resolveB s x = _))
          unfold resolveB at HRe
          clear hh14 hnt hsi hpd hpg hpf
          go_loopw [16] (fun i wr => ∃ k : Nat, k ≤ pg.length ∧ i = .int .i64 k ∧ Only [] w14 wr) (fun i _ => pg.length - (intOf i).toNat)
          case atStart => exact ⟨0, Nat.zero_le _, rfl, Only.refl _ _⟩
          case round =>
            obtain ⟨k, hk, rfl, hOk⟩ := hrel
            by_cases hkl : k < pg.length
            · obtain ⟨b, off, rfl, hbb, hcc⟩ := hel2 k hkl
              obtain ⟨br, offr, rfl, hbr, hcr⟩ := hStR.at_ k (by rw [HR0.out]; exact hkl)
              rw [List.getElem_map] at hcr
              obtain ⟨x, hx⟩ : ∃ x, pg[k] = x := ⟨_, rfl⟩
              have hxm : x ∈ pg := by rw [← hx]; exact List.getElem_mem hkl
              rw [hx] at hcc hcr
              have hO14 := hww.trans hOk
              have hbw : b < wr.heap.size := Nat.lt_of_lt_of_le hbb hO14.size
              have hbrw : br < wr.heap.size := Nat.lt_of_lt_of_le hbr hOk.size
              have c0 : wr.cell? ⟨b, off + k * 8, none⟩ = some (.int .i64 x.ev.id) := (hO14.cell hbb (by simp)).trans (hcc 0 (by omega))
              have c1 : wr.cell? ⟨b, off + k * 8 + 1, none⟩ = some (.string x.ev.type) := (hO14.cell hbb (by simp)).trans (hcc 1 (by omega))
              have c2 : wr.cell? ⟨b, off + k * 8 + 2, none⟩ = some (.string x.ev.data) := (hO14.cell hbb (by simp)).trans (hcc 2 (by omega))
              have c3 : wr.cell? ⟨b, off + k * 8 + 3, none⟩ = some (.float .f64 x.ev.value) := (hO14.cell hbb (by simp)).trans (hcc 3 (by omega))
              have c4 : wr.cell? ⟨b, off + k * 8 + 4, none⟩ = some (.string x.stream) := (hO14.cell hbb (by simp)).trans (hcc 4 (by omega))
              have c5 : wr.cell? ⟨b, off + k * 8 + 5, none⟩ = some (.int .i64 x.version) := (hO14.cell hbb (by simp)).trans (hcc 5 (by omega))
              have c6 : wr.cell? ⟨b, off + k * 8 + 6, none⟩ = some (.int .i64 x.position) := (hO14.cell hbb (by simp)).trans (hcc 6 (by omega))
              have c7 : wr.cell? ⟨b, off + k * 8 + 7, none⟩ = some (.int .i64 x.time) := (hO14.cell hbb (by simp)).trans (hcc 7 (by omega))
              have hlt2 : decide ((k : Int) < (pg.length : Int)) = true := decide_eq_true (by omega)
              have e9 := IntWalk.i64_in ((k : Int) + 1) ⟨by omega, by omega⟩
              have hun := fun W => HUn.out W x hxm
              have hz : (x.ev.type.toList == [36, 62]) = decide (x.ev.type.data.toList = linkT) := toList_lit x.ev.type [36, 62]
              have hre := HRe.out x
              obtain ⟨y, hy⟩ : ∃ y, resolveB s x = y := ⟨_, rfl⟩
              rw [hy] at hcr
              have hre2 := hre.symm.trans hy
              have HSm := Lib.hid (fun W => r7sameS_any y y W)
              rw [sameS_refl] at HSm
              have r0 : wr.cell? ⟨br, offr + k * 8, none⟩ = some (.int .i64 y.ev.id) := (hOk.cell hbr (by simp)).trans (hcr 0 (by omega))
              have r1 : wr.cell? ⟨br, offr + k * 8 + 1, none⟩ = some (.string y.ev.type) := (hOk.cell hbr (by simp)).trans (hcr 1 (by omega))
              have r2 : wr.cell? ⟨br, offr + k * 8 + 2, none⟩ = some (.string y.ev.data) := (hOk.cell hbr (by simp)).trans (hcr 2 (by omega))
              have r3 : wr.cell? ⟨br, offr + k * 8 + 3, none⟩ = some (.float .f64 y.ev.value) := (hOk.cell hbr (by simp)).trans (hcr 3 (by omega))
              have r4 : wr.cell? ⟨br, offr + k * 8 + 4, none⟩ = some (.string y.stream) := (hOk.cell hbr (by simp)).trans (hcr 4 (by omega))
              have r5 : wr.cell? ⟨br, offr + k * 8 + 5, none⟩ = some (.int .i64 y.version) := (hOk.cell hbr (by simp)).trans (hcr 5 (by omega))
              have r6 : wr.cell? ⟨br, offr + k * 8 + 6, none⟩ = some (.int .i64 y.position) := (hOk.cell hbr (by simp)).trans (hcr 6 (by omega))
              have r7 : wr.cell? ⟨br, offr + k * 8 + 7, none⟩ = some (.int .i64 y.time) := (hOk.cell hbr (by simp)).trans (hcr 7 (by omega))
              clear hcc hcr hx hre hy hxm hel2
              obtain ⟨xe, xs, xv, xp, xt⟩ := x
              obtain ⟨xi, xty, xd, xf⟩ := xe
              dsimp only at c0 c1 c2 c3 c4 c5 c6 c7 hun hz hre2
              by_cases hl : xty.data.toList = linkT
              · rw [if_pos hl] at hre2
                rw [decide_eq_true hl] at hz
                cases hu : unlinkB xd with
                | none =>
                  rw [hu] at hre2
                  subst hre2
                  dsimp only at r0 r1 r2 r3 r4 r5 r6 r7 HSm
                  unfold unlinkRet at hun
                  rw [hu] at hun
                  have HU := Lib.hid hun
                  clear hl hun hu
                  go_wp2_with fail
                  have hB19 := Blk.new wr 26 #[.int .i64 xi, .string xty, .string xd, .float .f64 xf, .string xs, .int .i64 xv, .int .i64 xp, .int .i64 xt]
                  have hO19 := (Only.refl [] wr).alloc (.cells #[.int .i64 xi, .string xty, .string xd, .float .f64 xf, .string xs, .int .i64 xv, .int .i64 xp, .int .i64 xt] 26)
                  refine (HU.out _).mono ?_
                  rintro e w20 ⟨rfl, ho20⟩
                  have hB20 := ho20.blk hB19 (by simp)
                  have hO20 := hO19.trans ho20
                  have d1 := (hO20.cell (p := ⟨b, off + k * 8 + 1, none⟩) hbw (by simp)).trans c1
                  go_wp2_with fail
                  have q0 := Within.cell (S := []) ((hO20.cell hbrw (by simp)).trans r0) (by simp)
                  have q1 := Within.cell (S := []) ((hO20.cell hbrw (by simp)).trans r1) (by simp)
                  have q2 := Within.cell (S := []) ((hO20.cell hbrw (by simp)).trans r2) (by simp)
                  have q3 := Within.cell (S := []) ((hO20.cell hbrw (by simp)).trans r3) (by simp)
                  have q4 := Within.cell (S := []) ((hO20.cell hbrw (by simp)).trans r4) (by simp)
                  have q5 := Within.cell (S := []) ((hO20.cell hbrw (by simp)).trans r5) (by simp)
                  have q6 := Within.cell (S := []) ((hO20.cell hbrw (by simp)).trans r6) (by simp)
                  have q7 := Within.cell (S := []) ((hO20.cell hbrw (by simp)).trans r7) (by simp)
                  have p0 := Within.cell (S := []) (show w20.cell? ⟨wr.heap.size, 0, none⟩ = some (.int .i64 xi) from hB20.cell 0) (by simp)
                  have p1 := Within.cell (S := []) (show w20.cell? ⟨wr.heap.size, 1, none⟩ = some (.string xty) from hB20.cell 1) (by simp)
                  have p2 := Within.cell (S := []) (show w20.cell? ⟨wr.heap.size, 2, none⟩ = some (.string xd) from hB20.cell 2) (by simp)
                  have p3 := Within.cell (S := []) (show w20.cell? ⟨wr.heap.size, 3, none⟩ = some (.float .f64 xf) from hB20.cell 3) (by simp)
                  have p4 := Within.cell (S := []) (show w20.cell? ⟨wr.heap.size, 4, none⟩ = some (.string xs) from hB20.cell 4) (by simp)
                  have p5 := Within.cell (S := []) (show w20.cell? ⟨wr.heap.size, 5, none⟩ = some (.int .i64 xv) from hB20.cell 5) (by simp)
                  have p6 := Within.cell (S := []) (show w20.cell? ⟨wr.heap.size, 6, none⟩ = some (.int .i64 xp) from hB20.cell 6) (by simp)
                  have p7 := Within.cell (S := []) (show w20.cell? ⟨wr.heap.size, 7, none⟩ = some (.int .i64 xt) from hB20.cell 7) (by simp)
                  clear r0 r1 r2 r3 r4 r5 r6 r7 c0 c1 c2 c3 c4 c5 c6 c7
                  refine wp_region_stages (C := fun W => ∃ p : Within [] w20, W = p.W) [([0, 1, 2, 3, 4], [])] [5, 6] (by kernel_rfl) (by kernel_rfl) (by intro c d u a w h; cases d <;> exact h) ⟨⟨_, (Only.refl _ _).drew⟩, rfl⟩ ?_
                  refine stagesFirst ?_
                  show wpQuiet _ _ _ _ [_, _, _, _, _] _
                  repeat (go_big_quiet_step (fail))
                  refine wpQuiet_nil ?_
                  refine stagesEnd ?_
                  show wpList _ _ _ [_, _] _ _
                  go_wp2_with (go_at_call 31; refine (HSm.out _).mono ?_; rintro e w7 ⟨rfl, ho7⟩)
                  exact ⟨⟨k + 1, by omega, by simp, ((hOk.trans hO20).trans (Only.refl _ _).drew).trans ho7⟩, by simp [intOf]; omega⟩
                | some q =>
                  obtain ⟨v, n⟩ := q
                  rw [hu] at hre2
                  dsimp only at hre2
                  unfold unlinkRet at hun
                  rw [hu] at hun
                  have HU := Lib.hid hun
                  have HA1 := Lib.hid (fun (W : World) (hW : Only [] w14 W) => HAt.out W hW n v)
                  clear hl hun hu
                  cases hat : s.atB n v with
                  | none =>
                    rw [hat] at hre2 HA1
                    dsimp only at hre2
                    subst hre2
                    dsimp only at r0 r1 r2 r3 r4 r5 r6 r7 HSm
                    unfold atV at HA1
                    clear hat
                    go_wp2_with fail
                    have hB19 := Blk.new wr 26 #[.int .i64 xi, .string xty, .string xd, .float .f64 xf, .string xs, .int .i64 xv, .int .i64 xp, .int .i64 xt]
                    have hO19 := (Only.refl [] wr).alloc (.cells #[.int .i64 xi, .string xty, .string xd, .float .f64 xf, .string xs, .int .i64 xv, .int .i64 xp, .int .i64 xt] 26)
                    refine (HU.out _).mono ?_
                    rintro e w20 ⟨rfl, ho20⟩
                    have hB20 := ho20.blk hB19 (by simp)
                    have hO20 := hO19.trans ho20
                    have d1 := (hO20.cell (p := ⟨b, off + k * 8 + 1, none⟩) hbw (by simp)).trans c1
                    go_wp2_with fail
                    refine (HA1.out _ (hOk.trans hO20)).mono ?_
                    rintro e w21 ⟨rfl, ho21⟩
                    have f21 := fun o => (((Only.refl [] w21).alloc o).blk (ho21.blk hB20 (by simp)) (by simp)).free 1
                    have g21 := fun o => (((Only.refl [] w21).alloc o).blk (ho21.blk hB20 (by simp)) (by simp)).cell 1
                    go_wp2_with fail
                    have m21 := ((Only.refl [] w21).alloc (.cells #[.int .i64 0, .string ⟨#[]⟩, .string ⟨#[]⟩, .float .f64 0, .string ⟨#[]⟩, .int .i64 0, .int .i64 0, .int .i64 0] 26)).blk (ho21.blk hB20 (by simp)) (by simp)
                    have m22 := m21.set 1 (.string ⟨#[36, 117, 110, 114, 101, 115, 111, 108, 118, 101, 100]⟩)
                    have hO21 : Only [] wr ((w21.alloc (.cells #[.int .i64 0, .string ⟨#[]⟩, .string ⟨#[]⟩, .float .f64 0, .string ⟨#[]⟩, .int .i64 0, .int .i64 0, .int .i64 0] 26)).setCell ⟨wr.heap.size, 1, none⟩ (.string ⟨#[36, 117, 110, 114, 101, 115, 111, 108, 118, 101, 100]⟩)) := ((hO20.trans ho21).alloc _).setCell (.inr (Nat.le_refl _)) _
                    obtain ⟨W22, hW22⟩ : ∃ W22, ((w21.alloc (.cells #[.int .i64 0, .string ⟨#[]⟩, .string ⟨#[]⟩, .float .f64 0, .string ⟨#[]⟩, .int .i64 0, .int .i64 0, .int .i64 0] 26)).setCell ⟨wr.heap.size, 1, none⟩ (.string ⟨#[36, 117, 110, 114, 101, 115, 111, 108, 118, 101, 100]⟩)) = W22 := ⟨_, rfl⟩
                    rw [hW22] at m22 hO21 ⊢
                    clear f21 g21 hW22 m21 hB20
                    have q0 := Within.cell (S := []) ((hO21.cell hbrw (by simp)).trans r0) (by simp)
                    have q1 := Within.cell (S := []) ((hO21.cell hbrw (by simp)).trans r1) (by simp)
                    have q2 := Within.cell (S := []) ((hO21.cell hbrw (by simp)).trans r2) (by simp)
                    have q3 := Within.cell (S := []) ((hO21.cell hbrw (by simp)).trans r3) (by simp)
                    have q4 := Within.cell (S := []) ((hO21.cell hbrw (by simp)).trans r4) (by simp)
                    have q5 := Within.cell (S := []) ((hO21.cell hbrw (by simp)).trans r5) (by simp)
                    have q6 := Within.cell (S := []) ((hO21.cell hbrw (by simp)).trans r6) (by simp)
                    have q7 := Within.cell (S := []) ((hO21.cell hbrw (by simp)).trans r7) (by simp)
                    have p0 := Within.cell (S := []) (show W22.cell? ⟨wr.heap.size, 0, none⟩ = some (.int .i64 xi) from m22.cell 0) (by simp)
                    have p1 := Within.cell (S := []) (show W22.cell? ⟨wr.heap.size, 1, none⟩ = some (.string (⟨#[36, 117, 110, 114, 101, 115, 111, 108, 118, 101, 100]⟩)) from m22.cell 1) (by simp)
                    have p2 := Within.cell (S := []) (show W22.cell? ⟨wr.heap.size, 2, none⟩ = some (.string xd) from m22.cell 2) (by simp)
                    have p3 := Within.cell (S := []) (show W22.cell? ⟨wr.heap.size, 3, none⟩ = some (.float .f64 xf) from m22.cell 3) (by simp)
                    have p4 := Within.cell (S := []) (show W22.cell? ⟨wr.heap.size, 4, none⟩ = some (.string xs) from m22.cell 4) (by simp)
                    have p5 := Within.cell (S := []) (show W22.cell? ⟨wr.heap.size, 5, none⟩ = some (.int .i64 xv) from m22.cell 5) (by simp)
                    have p6 := Within.cell (S := []) (show W22.cell? ⟨wr.heap.size, 6, none⟩ = some (.int .i64 xp) from m22.cell 6) (by simp)
                    have p7 := Within.cell (S := []) (show W22.cell? ⟨wr.heap.size, 7, none⟩ = some (.int .i64 xt) from m22.cell 7) (by simp)
                    clear r0 r1 r2 r3 r4 r5 r6 r7 c0 c1 c2 c3 c4 c5 c6 c7
                    refine wp_region_stages (C := fun W => ∃ p : Within [] W22, W = p.W) [([0, 1, 2, 3, 4], [])] [5, 6] (by kernel_rfl) (by kernel_rfl) (by intro c d u a w h; cases d <;> exact h) ⟨⟨_, (Only.refl _ _).drew⟩, rfl⟩ ?_
                    refine stagesFirst ?_
                    show wpQuiet _ _ _ _ [_, _, _, _, _] _
                    repeat (go_big_quiet_step (fail))
                    refine wpQuiet_nil ?_
                    refine stagesEnd ?_
                    show wpList _ _ _ [_, _] _ _
                    go_wp2_with (go_at_call 31; refine (HSm.out _).mono ?_; rintro e w7 ⟨rfl, ho7⟩)
                    exact ⟨⟨k + 1, by omega, by simp, ((hOk.trans hO21).trans (Only.refl _ _).drew).trans ho7⟩, by simp [intOf]; omega⟩
                  | some z =>
                    rw [hat] at hre2 HA1
                    dsimp only at hre2
                    subst hre2
                    unfold atV at HA1
                    clear hat
                    go_wp2_with fail
                    have hB19 := Blk.new wr 26 #[.int .i64 xi, .string xty, .string xd, .float .f64 xf, .string xs, .int .i64 xv, .int .i64 xp, .int .i64 xt]
                    have hO19 := (Only.refl [] wr).alloc (.cells #[.int .i64 xi, .string xty, .string xd, .float .f64 xf, .string xs, .int .i64 xv, .int .i64 xp, .int .i64 xt] 26)
                    refine (HU.out _).mono ?_
                    rintro e w20 ⟨rfl, ho20⟩
                    have hB20 := ho20.blk hB19 (by simp)
                    have hO20 := hO19.trans ho20
                    have d1 := (hO20.cell (p := ⟨b, off + k * 8 + 1, none⟩) hbw (by simp)).trans c1
                    go_wp2_with fail
                    refine (HA1.out _ (hOk.trans hO20)).mono ?_
                    rintro e w21 ⟨rfl, ho21⟩
                    have f21 := fun o => (((Only.refl [] w21).alloc o).blk (ho21.blk hB20 (by simp)) (by simp)).free
                    have g21 := fun o => (((Only.refl [] w21).alloc o).blk (ho21.blk hB20 (by simp)) (by simp)).cell
                    go_wp2_with fail
                    have m21 := ((Only.refl [] w21).alloc (.cells #[.int .i64 z.ev.id, .string z.ev.type, .string z.ev.data, .float .f64 z.ev.value, .string z.stream, .int .i64 z.version, .int .i64 z.position, .int .i64 z.time] 26)).blk (ho21.blk hB20 (by simp)) (by simp)
                    have m22 := blk_put8L m21 (.int .i64 z.ev.id) (.string z.ev.type) (.string z.ev.data) (.float .f64 z.ev.value) (.string z.stream) (.int .i64 z.version) (.int .i64 z.position) (.int .i64 z.time)
                    have hO21 : Only [] wr (((((((((w21.alloc (.cells #[.int .i64 z.ev.id, .string z.ev.type, .string z.ev.data, .float .f64 z.ev.value, .string z.stream, .int .i64 z.version, .int .i64 z.position, .int .i64 z.time] 26)).setCell ⟨wr.heap.size, 0, none⟩ (.int .i64 z.ev.id)).setCell ⟨wr.heap.size, 1, none⟩ (.string z.ev.type)).setCell ⟨wr.heap.size, 2, none⟩ (.string z.ev.data)).setCell ⟨wr.heap.size, 3, none⟩ (.float .f64 z.ev.value)).setCell ⟨wr.heap.size, 4, none⟩ (.string z.stream)).setCell ⟨wr.heap.size, 5, none⟩ (.int .i64 z.version)).setCell ⟨wr.heap.size, 6, none⟩ (.int .i64 z.position)).setCell ⟨wr.heap.size, 7, none⟩ (.int .i64 z.time)) := by
                      iterate 8 (refine Only.setCell ?_ (.inr (Nat.le_refl _)) _)
                      exact (hO20.trans ho21).alloc _
                    obtain ⟨W22, hW22⟩ : ∃ W22, (((((((((w21.alloc (.cells #[.int .i64 z.ev.id, .string z.ev.type, .string z.ev.data, .float .f64 z.ev.value, .string z.stream, .int .i64 z.version, .int .i64 z.position, .int .i64 z.time] 26)).setCell ⟨wr.heap.size, 0, none⟩ (.int .i64 z.ev.id)).setCell ⟨wr.heap.size, 1, none⟩ (.string z.ev.type)).setCell ⟨wr.heap.size, 2, none⟩ (.string z.ev.data)).setCell ⟨wr.heap.size, 3, none⟩ (.float .f64 z.ev.value)).setCell ⟨wr.heap.size, 4, none⟩ (.string z.stream)).setCell ⟨wr.heap.size, 5, none⟩ (.int .i64 z.version)).setCell ⟨wr.heap.size, 6, none⟩ (.int .i64 z.position)).setCell ⟨wr.heap.size, 7, none⟩ (.int .i64 z.time)) = W22 := ⟨_, rfl⟩
                    rw [hW22] at m22 hO21 ⊢
                    clear f21 g21 hW22 m21 hB20
                    have q0 := Within.cell (S := []) ((hO21.cell hbrw (by simp)).trans r0) (by simp)
                    have q1 := Within.cell (S := []) ((hO21.cell hbrw (by simp)).trans r1) (by simp)
                    have q2 := Within.cell (S := []) ((hO21.cell hbrw (by simp)).trans r2) (by simp)
                    have q3 := Within.cell (S := []) ((hO21.cell hbrw (by simp)).trans r3) (by simp)
                    have q4 := Within.cell (S := []) ((hO21.cell hbrw (by simp)).trans r4) (by simp)
                    have q5 := Within.cell (S := []) ((hO21.cell hbrw (by simp)).trans r5) (by simp)
                    have q6 := Within.cell (S := []) ((hO21.cell hbrw (by simp)).trans r6) (by simp)
                    have q7 := Within.cell (S := []) ((hO21.cell hbrw (by simp)).trans r7) (by simp)
                    have p0 := Within.cell (S := []) (show W22.cell? ⟨wr.heap.size, 0, none⟩ = some (.int .i64 z.ev.id) from m22.cell 0) (by simp)
                    have p1 := Within.cell (S := []) (show W22.cell? ⟨wr.heap.size, 1, none⟩ = some (.string z.ev.type) from m22.cell 1) (by simp)
                    have p2 := Within.cell (S := []) (show W22.cell? ⟨wr.heap.size, 2, none⟩ = some (.string z.ev.data) from m22.cell 2) (by simp)
                    have p3 := Within.cell (S := []) (show W22.cell? ⟨wr.heap.size, 3, none⟩ = some (.float .f64 z.ev.value) from m22.cell 3) (by simp)
                    have p4 := Within.cell (S := []) (show W22.cell? ⟨wr.heap.size, 4, none⟩ = some (.string z.stream) from m22.cell 4) (by simp)
                    have p5 := Within.cell (S := []) (show W22.cell? ⟨wr.heap.size, 5, none⟩ = some (.int .i64 z.version) from m22.cell 5) (by simp)
                    have p6 := Within.cell (S := []) (show W22.cell? ⟨wr.heap.size, 6, none⟩ = some (.int .i64 z.position) from m22.cell 6) (by simp)
                    have p7 := Within.cell (S := []) (show W22.cell? ⟨wr.heap.size, 7, none⟩ = some (.int .i64 z.time) from m22.cell 7) (by simp)
                    clear r0 r1 r2 r3 r4 r5 r6 r7 c0 c1 c2 c3 c4 c5 c6 c7
                    refine wp_region_stages (C := fun W => ∃ p : Within [] W22, W = p.W) [([0, 1, 2, 3, 4], [])] [5, 6] (by kernel_rfl) (by kernel_rfl) (by intro c d u a w h; cases d <;> exact h) ⟨⟨_, (Only.refl _ _).drew⟩, rfl⟩ ?_
                    refine stagesFirst ?_
                    show wpQuiet _ _ _ _ [_, _, _, _, _] _
                    repeat (go_big_quiet_step (fail))
                    refine wpQuiet_nil ?_
                    refine stagesEnd ?_
                    show wpList _ _ _ [_, _] _ _
                    go_wp2_with (go_at_call 31; refine (HSm.out _).mono ?_; rintro e w7 ⟨rfl, ho7⟩)
                    exact ⟨⟨k + 1, by omega, by simp, ((hOk.trans hO21).trans (Only.refl _ _).drew).trans ho7⟩, by simp [intOf]; omega⟩
              · rw [if_neg hl] at hre2
                rw [decide_eq_false hl] at hz
                subst hre2
                dsimp only at r0 r1 r2 r3 r4 r5 r6 r7 HSm
                have HU := Lib.hid hun
                clear hl hun
                go_wp2_with fail
                have hB19 := Blk.new wr 26 #[.int .i64 xi, .string xty, .string xd, .float .f64 xf, .string xs, .int .i64 xv, .int .i64 xp, .int .i64 xt]
                have hO19 := (Only.refl [] wr).alloc (.cells #[.int .i64 xi, .string xty, .string xd, .float .f64 xf, .string xs, .int .i64 xv, .int .i64 xp, .int .i64 xt] 26)
                refine (HU.out _).mono ?_
                rintro e w20 ⟨rfl, ho20⟩
                have hB20 := ho20.blk hB19 (by simp)
                have hO20 := hO19.trans ho20
                have d1 := (hO20.cell (p := ⟨b, off + k * 8 + 1, none⟩) hbw (by simp)).trans c1
                go_wp2_with fail
                have q0 := Within.cell (S := []) ((hO20.cell hbrw (by simp)).trans r0) (by simp)
                have q1 := Within.cell (S := []) ((hO20.cell hbrw (by simp)).trans r1) (by simp)
                have q2 := Within.cell (S := []) ((hO20.cell hbrw (by simp)).trans r2) (by simp)
                have q3 := Within.cell (S := []) ((hO20.cell hbrw (by simp)).trans r3) (by simp)
                have q4 := Within.cell (S := []) ((hO20.cell hbrw (by simp)).trans r4) (by simp)
                have q5 := Within.cell (S := []) ((hO20.cell hbrw (by simp)).trans r5) (by simp)
                have q6 := Within.cell (S := []) ((hO20.cell hbrw (by simp)).trans r6) (by simp)
                have q7 := Within.cell (S := []) ((hO20.cell hbrw (by simp)).trans r7) (by simp)
                have p0 := Within.cell (S := []) (show w20.cell? ⟨wr.heap.size, 0, none⟩ = some (.int .i64 xi) from hB20.cell 0) (by simp)
                have p1 := Within.cell (S := []) (show w20.cell? ⟨wr.heap.size, 1, none⟩ = some (.string xty) from hB20.cell 1) (by simp)
                have p2 := Within.cell (S := []) (show w20.cell? ⟨wr.heap.size, 2, none⟩ = some (.string xd) from hB20.cell 2) (by simp)
                have p3 := Within.cell (S := []) (show w20.cell? ⟨wr.heap.size, 3, none⟩ = some (.float .f64 xf) from hB20.cell 3) (by simp)
                have p4 := Within.cell (S := []) (show w20.cell? ⟨wr.heap.size, 4, none⟩ = some (.string xs) from hB20.cell 4) (by simp)
                have p5 := Within.cell (S := []) (show w20.cell? ⟨wr.heap.size, 5, none⟩ = some (.int .i64 xv) from hB20.cell 5) (by simp)
                have p6 := Within.cell (S := []) (show w20.cell? ⟨wr.heap.size, 6, none⟩ = some (.int .i64 xp) from hB20.cell 6) (by simp)
                have p7 := Within.cell (S := []) (show w20.cell? ⟨wr.heap.size, 7, none⟩ = some (.int .i64 xt) from hB20.cell 7) (by simp)
                clear r0 r1 r2 r3 r4 r5 r6 r7 c0 c1 c2 c3 c4 c5 c6 c7
                refine wp_region_stages (C := fun W => ∃ p : Within [] w20, W = p.W) [([0, 1, 2, 3, 4], [])] [5, 6] (by kernel_rfl) (by kernel_rfl) (by intro c d u a w h; cases d <;> exact h) ⟨⟨_, (Only.refl _ _).drew⟩, rfl⟩ ?_
                refine stagesFirst ?_
                show wpQuiet _ _ _ _ [_, _, _, _, _] _
                repeat (go_big_quiet_step (fail))
                refine wpQuiet_nil ?_
                refine stagesEnd ?_
                show wpList _ _ _ [_, _] _ _
                go_wp2_with (go_at_call 31; refine (HSm.out _).mono ?_; rintro e w7 ⟨rfl, ho7⟩)
                exact ⟨⟨k + 1, by omega, by simp, ((hOk.trans hO20).trans (Only.refl _ _).drew).trans ho7⟩, by simp [intOf]; omega⟩
            · have hlt2 : decide ((k : Int) < (pg.length : Int)) = false := decide_eq_false (by omega)
              clear HUn HAt HRe hStR hel2
              go_wp2_with (go_at_call 10; refine (HA.out _ (hww.trans hOk)).mono ?_; rintro e w7 ⟨rfl, ho7⟩)
              go_ret
              exact ⟨rfl, (hww.trans hOk).trans ho7⟩
end Go.Proofs.YtpcemipfanimgaaGreatDoor
/- LinkTargets: what the row asks for. -/
set_option linter.unusedVariables false
namespace Go.Proofs.YtpcemipfanimgaaGreatDoor
open Go Go.RowKit Go.Sort
theorem targetsW (v1 : Value) (l : List CmdV) (v2 : Value) (pg : List StoredR) (W : World) (hT : Tab W)
    (x0 : Slc W 8 v1 l.length (l.flatMap CmdV.cells)) (y0 : ∀ o ∈ l, o.Ok W ∧ o.cells.length = 8) (z0 : ∀ g, v1.ownBlock = some g → g < W.heap.size ∨ l = [])
    (x1 : Slc W 8 v2 pg.length (pg.flatMap StoredR.cells)) (y1 : ∀ o ∈ pg, StFits o ∧ o.cells.length = 8) (z1 : ∀ g, v2.ownBlock = some g → g < W.heap.size ∨ pg = []) :
    Calls Tryz.prog 7 #[v1, v2] W fun e W' => e = .returned (.bool true) ∧ Only [] W W' :=
  targets_go W hT v1 v2 l pg (CmdsAt.of x0 y0 z0) x1 (fun x hx => (y1 x hx).1)
end Go.Proofs.YtpcemipfanimgaaGreatDoor
