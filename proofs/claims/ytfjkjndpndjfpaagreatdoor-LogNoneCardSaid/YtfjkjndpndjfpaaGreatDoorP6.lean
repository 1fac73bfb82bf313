/- Proved here: contracts of functions and plain laws, part 6 of one proof. Conditions: each theorem names its own. -/
import Derived.Test.YtfjkjndpndjfpaaGreatDoorP5
import Derived.Test.YtfjkjndpndjfpaaGreatDoorProg
import Derived.ProofKit
import Derived.OpenShut
import Derived.ChangeMaps5
import Derived.SliceStrings
import Derived.Deep.Slices
import Derived.ChangeArms
import Derived.DataReads
/- LogBacks: what is read backwards is what is read forwards, turned round. -/
set_option linter.unusedVariables false
set_option linter.unusedSimpArgs false
namespace Go.Proofs.YtfjkjndpndjfpaaGreatDoor
open Go Go.RowKit Go.Sort
theorem range_at {L : LogS} {ss : List ByteArray} (h : L.all = ss) (k n : Nat) : L.range k n = (ss.drop k).take n := by
  unfold LogS.range
  rw [if_neg (by omega), h]
  simp
theorem back_at {L : LogS} {ss : List ByteArray} (h : L.all = ss) (k n : Nat) (hk : k < ss.length) : L.back k n = ((ss.take (k + 1)).reverse).take n := by
  unfold LogS.back
  have hl : L.len = ss.length := by rw [len_all, h]
  rw [hl, show min (k : Int) ((ss.length : Int) - 1) = (k : Int) by omega, if_neg (by omega), h]
  simp
theorem take_more (ss : List ByteArray) (k n : Nat) : ss.take k ++ (ss.drop k).take n = ss.take (k + n) := by
  rw [List.take_add]
theorem drop_less (ss : List ByteArray) (k n : Nat) (hk : k < ss.length) : (((ss.take (k + 1)).reverse).take n).reverse ++ ss.drop (k + 1) = ss.drop (k + 1 - n) := by
  rw [List.take_reverse, List.reverse_reverse, List.length_take, show min (k + 1) ss.length = k + 1 by omega]
  have h1 : ss = ss.take (k + 1) ++ ss.drop (k + 1) := (List.take_append_drop _ _).symm
  have h2 : ss.drop (k + 1 - n) = (ss.take (k + 1)).drop (k + 1 - n) ++ ss.drop (k + 1) := by
    conv => lhs; rw [h1]
    rw [List.drop_append_of_le_length (by rw [List.length_take]; omega)]
  rw [h2]
section
variable {a w W w1 w' : World} {lb db mb M N : Nat} {d : DS} {L : LogS} {kv pv : Value} {xs : List (Value × PartL)} {R : List Nat}
/-- Texts are put behind texts of one's own. -/
theorem appSS {W : World} {base : Nat} {v u : Value} {l m : List ByteArray} (hown : W.ownsRow base 9 1 v l.length (strs l)) (hu : Slc W 1 u m.length (strs m)) (hb : base ≤ W.heap.size) (hl : l.length + m.length ≤ 1000000) :
    ∃ A cap w', (Builtin.append_ #[22, 22] 22 #[v, u]).run Tryz.prog W = .ok (.slice A (l.length + m.length) cap) w' ∧ w'.ownsRow base 9 1 (.slice A (l.length + m.length) cap) (l ++ m).length (strs (l ++ m)) ∧ Only v.ownBlock.toList W w' := by
  obtain ⟨A, cap, w', h1, h2, h3, _⟩ := run_app (P := Tryz.prog) (w := W) 22 22 base 9 (.string ⟨#[]⟩) 1 16 Tryz.underlying22 infoSJ rfl (by decide) hown hu (by intro u hu; simp [strs] at hu; obtain ⟨x, -, rfl⟩ := hu; rfl) (by omega) (by unfold maxLen; omega) hb
  refine ⟨A, cap, w', h1, ?_, h3⟩
  have e : strs (l ++ m) = strs l ++ strs m := by simp [strs]
  rw [List.length_append, e]
  exact h2
set_option maxRecDepth 100000 in
set_option maxHeartbeats 600000 in
theorem backs_go (w : World) (hT : Tab w) (v : Value) (ss : List ByteArray) (size n : Int) (hv : Slc w 1 v ss.length (strs ss)) (hz : ∀ s ∈ ss, s.size ≤ maxLen) (hvg : ∀ g, v.ownBlock = some g → g < w.heap.size ∨ ss = []) :
    Calls Tryz.prog 3 #[.int .i64 size, v, .int .i64 n] w fun e w' => e = .returned (.bool true) ∧ Only [] w w' := by
  have HAl := Lib.hid (fun (W : World) (k : Only [] w W) => alive11_any W (hT.only k))
  obtain ⟨VA, vc, rfl⟩ := slc_len hv
  have HSh := Lib.hid (bShort_any (few := 40) (room := 3000) hv hz (by omega) (by omega) (by omega) (by omega))
  by_cases h1 : size < 100
  · have q1 : decide (size < 100) = true := decide_eq_true h1
    go_enter Tryz.func3, Tryz.ntmps3
    go_wp2_with (go_at_call 9; refine (HAl.out _ (Only.refl _ _)).mono ?_; rintro e1 w1 ⟨rfl, k1⟩)
    go_ret
    exact ⟨rfl, k1⟩
  have q1 : decide (size < 100) = false := decide_eq_false h1
  by_cases h2 : size > 2000
  · have q2 : decide (size > 2000) = true := decide_eq_true h2
    go_enter Tryz.func3, Tryz.ntmps3
    go_wp2_with (go_at_call 9; refine (HAl.out _ (Only.refl _ _)).mono ?_; rintro e1 w1 ⟨rfl, k1⟩)
    go_ret
    exact ⟨rfl, k1⟩
  have q2 : decide (size > 2000) = false := decide_eq_false h2
  go_enter Tryz.func3, Tryz.ntmps3
  go_wp2_with fail
  refine HSh.out.mono ?_
  rintro e1 w1 ⟨⟨b, rfl, hb⟩, k1⟩
  cases b with
  | false =>
    go_wp2_with (go_at_call 9; refine (HAl.out _ k1).mono ?_; rintro e2 w2 ⟨rfl, k2⟩)
    go_ret
    exact ⟨rfl, k1.trans k2⟩
  | true =>
    by_cases h3 : n < 1
    · have q3 : decide (n < 1) = true := decide_eq_true h3
      go_wp2_with (go_at_call 9; refine (HAl.out _ k1).mono ?_; rintro e2 w2 ⟨rfl, k2⟩)
      go_ret
      exact ⟨rfl, k1.trans k2⟩
    have q3 : decide (n < 1) = false := decide_eq_false h3
    by_cases h4 : n > 20
    · have q4 : decide (n > 20) = true := decide_eq_true h4
      go_wp2_with (go_at_call 9; refine (HAl.out _ k1).mono ?_; rintro e2 w2 ⟨rfl, k2⟩)
      go_ret
      exact ⟨rfl, k1.trans k2⟩
    have q4 : decide (n > 20) = false := decide_eq_false h4
    obtain ⟨hlen, hsum⟩ := hb rfl
    have hO1 := Lib.hid fun (W : World) (k : Only [] w1 W) (db mb : Nat) (hd : DiskAt W db mb (DS.new 0) (.slice none 0 0)) (hu : w1.heap.size ≤ db ∧ w1.heap.size ≤ mb) => jopen_new (hT.only k1) k hd hu (fun g hg => by cases hg) ⟨#[112]⟩ size (by
      unfold LogS.openArg
      rw [show (⟨#[112]⟩ : ByteArray).size = 1 from rfl, decide_eq_true (by omega : 100 ≤ size), decide_eq_true (by omega : size ≤ 1000000)]
      rfl)
    have hN := Lib.hid (new_any w1 (room := 0) (by omega))
    go_wp2_with fail
    refine hN.out.mono ?_
    rintro e2 w2 ⟨rfl, hd2, k2⟩
    have HO2 := Lib.hid (hO1.out w2 k2 _ _ hd2 (by omega))
    clear hO1 hN hd2
    go_wp2_with fail
    refine HO2.out.mono ?_
    rintro e3 w3 ⟨lb, kv3, rfl, hA3, k3, hlb⟩
    have hW0 : Whole (LogS.new ⟨#[112]⟩ size) (DS.new 0) := whole_new (by decide) (by omega) fine_new rfl
    have HSm := smn_new ⟨#[112]⟩ size (by
      unfold LogS.openArg
      rw [show (⟨#[112]⟩ : ByteArray).size = 1 from rfl, decide_eq_true (by omega : 100 ≤ size), decide_eq_true (by omega : size ≤ 1000000)]
      rfl)
    have hwt := wtS_sum ss
    have hv3 : Slc w3 1 (.slice VA ss.length vc) ss.length (strs ss) := hv.only0 (k1.trans k3)
    have hge := hA3.ge
    have HAp := jappend_any hA3 HSm (DS.new_ok 0) hv3 (fun g hg => (hvg g hg).imp (fun q hm => by
      have := hge g hm
      have := k1.size
      omega) id) (by omega) (by omega) (by omega)
    have HO3 := Lib.hid hA3
    rcases hW0.good.append (l := ss) (by simp [LogS.new]; omega) with ⟨-, L', D', a1, a2, a3, -, a5, -⟩ | ⟨-, a1⟩
    · have hall : L'.all = ss := by rw [a3]; rfl
      have hpl : L'.ps.length ≤ 40 := by simp [LogS.new] at a5; omega
      have hll : L'.len ≤ 40 := by rw [len_all, hall]; omega
      rw [a1] at HAp
      have HAp := Lib.hid HAp
      have HAll := Lib.hid hall
      clear hW0 HSm hA3 hge a1 a2 a3 a5 hall hb hwt
      go_wp2_with fail
      refine HAp.out.mono ?_
      rintro e4 w4 ⟨rfl, k4⟩
      obtain ⟨kv4, pv4, xs4, h4⟩ := k4.on
      have h4a : LogAt w1 w4 lb (w1.heap.size + 1) w1.heap.size D' L' kv4 pv4 xs4 := h4.at_
      have HA := Lib.hid h4a
      have hk4 : Only [] w w4 := k1.trans h4.at_.base
      have hv4 := Lib.hid (hv.only0 hk4)
      have HRg := Lib.hid fun (W : World) (k : Only [] w4 W) (f m : Int) => jrange_any (HA.out.only0 k) (by rw [xs_len HA.out]; omega) (by omega) f m
      have HBk := Lib.hid fun (W : World) (k : Only [] w4 W) (f m : Int) (hf : -9223372036854775808 ≤ f) => jback_any (HA.out.only0 k) (by rw [xs_len HA.out]; omega) (by omega) f m hf
      clear k4 h4 HAp h4a
      obtain ⟨nn, rfl⟩ : ∃ nn : Nat, n = nn := ⟨n.toNat, by omega⟩
      go_wp2_with fail
      go_loopw [12, 14] (fun o i wr => ∃ (at_ : Nat) (A : Option Addr) (cap : Nat), i = .int .i64 at_ ∧ at_ ≤ ss.length + 20 ∧ o = .slice A (min at_ ss.length) cap ∧ wr.ownsRow w4.heap.size 9 1 (.slice A (min at_ ss.length) cap) (min at_ ss.length) (strs (ss.take at_)) ∧ Only [] w4 wr) (fun _ i _ => ss.length - (intOf i).toNat)
      case atStart => exact ⟨0, none, 0, rfl, Nat.zero_le _, by rw [Nat.zero_min], by rw [Nat.zero_min]; exact World.ownsRow_nil _ _ _ _, Only.refl _ _⟩
      case round =>
        obtain ⟨at_, A, cap, rfl, hat, rfl, hown, hO⟩ := hrel
        by_cases hlt : at_ < ss.length
        · have hmin : min at_ ss.length = at_ := by omega
          rw [hmin] at hown ⊢
          have hdec : decide ((at_ : Int) < (ss.length : Int)) = true := decide_eq_true (by omega)
          have HR := HRg.out wr hO at_ nn
          rw [range_at HAll.out] at HR
          have HR := Lib.hid HR
          have hrl : ((ss.drop at_).take nn).length = min nn (ss.length - at_) := by rw [List.length_take, List.length_drop]
          have e9 := IntWalk.i64_in ((at_ : Int) + (nn : Int)) ⟨by omega, by omega⟩
          obtain ⟨rs, hrs⟩ : ∃ rs, (ss.drop at_).take nn = rs := ⟨_, rfl⟩
          have htm := take_more ss at_ nn
          rw [hrs] at HR hrl htm
          have HTm := Lib.hid htm
          have HRl := Lib.hid hrl
          have htl : (ss.take at_).length = at_ := by rw [List.length_take]; omega
          have HTl := Lib.hid htl
          clear hrs htm hrl htl hmin
          go_wp2_with fail
          refine HR.out.mono ?_
          rintro e6 w6 ⟨A6, c6, rfl, hr6, k6⟩
          have hown6 : w6.ownsRow w4.heap.size 9 1 (.slice A at_ cap) (ss.take at_).length (strs (ss.take at_)) := by rw [HTl.out]; exact own_only hown k6 (by simp)
          obtain ⟨A7, c7, w7, hr7, hown7, hO7⟩ := appSS hown6 (Slc.of_own hr6).1 (hO.trans k6).size (by have := HRl.out; have := HTl.out; omega)
          rw [HTl.out] at hr7 hown7
          have hO8 : Only [] w4 w7 := (hO.trans k6).step hO7 (fun g hg => .inr (by have h9 := (hown6.lt g (by simpa using hg)).1; exact h9))
          have HR7 := Lib.hid hr7
          rw [HTm.out] at hown7
          have hl7 : (ss.take (at_ + nn)).length = min (at_ + nn) ss.length := List.length_take
          have hl8 : at_ + rs.length = min (at_ + nn) ss.length := by have := HRl.out; omega
          rw [hl7, hl8] at hown7
          rw [hl8] at HR7
          have HW7 := Lib.hid hown7
          clear hown hown6 hr6 hr7 hO7 hown7 hl7 hl8
          go_wp2_with (at_builtin; refine Lib.wpList_append_run _ rfl (.tmp 76) (.tmp 80) 22 22 rfl _ _ rfl rfl _ _ HR7.out ?_)
          exact ⟨⟨at_ + nn, A7, c7, by simp, by omega, rfl, HW7.out, hO8⟩, by simp [intOf]; omega⟩
        · have hmin : min at_ ss.length = ss.length := by omega
          have htk : ss.take at_ = ss := List.take_of_length_le (by omega)
          rw [hmin, htk] at hown
          rw [hmin]
          have hdec : decide ((at_ : Int) < (ss.length : Int)) = false := decide_eq_false (by omega)
          have HA6 := Lib.hid (Slc.of_own hown).1
          have e9 := IntWalk.i64_in ((ss.length : Int) - 1) ⟨by omega, by omega⟩
          obtain ⟨W6, rfl⟩ : ∃ W6, W6 = wr := ⟨wr, rfl⟩
          clear hown hmin htk
          go_wp2_with fail
          go_loopw [13, 15] (fun o i wr => ∃ (t : Nat) (z : Int) (B : Option Addr) (bc : Nat), i = .int .i64 z ∧ Hid (t = (z + 1).toNat ∧ -21 ≤ z ∧ z < ss.length) ∧ o = .slice B (ss.length - t) bc ∧ Slc wr 1 (.slice B (ss.length - t) bc) (ss.length - t) (strs (ss.drop t)) ∧ Only [] W6 wr) (fun _ i _ => (intOf i + 1).toNat)
          case atStart => exact ⟨ss.length, (ss.length : Int) - 1, none, 0, rfl, ⟨by omega, by omega, by omega⟩, by rw [Nat.sub_self], by rw [Nat.sub_self, List.drop_length]; exact Slc.nil _ 1, Only.refl _ _⟩
          case round =>
            obtain ⟨t, z, B, bc, rfl, hz2, rfl, hB, hO2⟩ := hrel
            by_cases hz0 : z ≥ 0
            · have hdec2 : decide (z ≥ 0) = true := decide_eq_true hz0
              obtain ⟨kz, hkz⟩ : ∃ kz : Nat, z = kz := ⟨z.toNat, by omega⟩
              have htz : t = kz + 1 := by have := hz2.out; omega
              have hkl : kz < ss.length := by have := hz2.out; omega
              have HB := HBk.out wr (hO.trans hO2) z nn (by omega)
              rw [hkz, back_at HAll.out _ _ hkl] at HB
              have hdl := drop_less ss kz nn hkl
              obtain ⟨ps, hps⟩ : ∃ ps, ((ss.take (kz + 1)).reverse).take nn = ps := ⟨_, rfl⟩
              have hpl : ps.length = min nn (kz + 1) := by rw [← hps, List.length_take, List.length_reverse, List.length_take]; omega
              rw [hps] at HB hdl
              rw [← htz] at hdl
              have HB := Lib.hid HB
              have HDl := Lib.hid hdl
              have HPl := Lib.hid hpl
              have HKz := Lib.hid hkz
              have HTz := Lib.hid htz
              have e10 := IntWalk.i64_in (z - (nn : Int)) ⟨by have := hz2.out; omega, by omega⟩
              rw [← hkz] at HB
              have hpb : ps.length ≤ 20 := by omega
              have hsl : ss.length - t ≤ 40 := by omega
              have hdrl : (ss.drop t).length = ss.length - t := List.length_drop
              have HDr := Lib.hid hdrl
              clear hdl hps hpl hkz htz hdrl
              go_wp2_with fail
              refine HB.out.mono ?_
              rintro e8 w8 ⟨P8, c8, rfl, hr8, k8⟩
              have hp8 := (Slc.of_own hr8).1
              obtain ⟨P8', c8', hv8, -, -, hc8⟩ := hp8.openS
              injection hv8 with y1 y2 y3
              subst y1 y3
              have hB8 := hB.only0 k8
              clear hr8 hp8 hB y2
              go_wp2_with fail
              go_loopw [13, 17] (fun o i wr => ∃ (j : Nat) (B : Option Addr) (bc : Nat), i = .int .i64 j ∧ j ≤ ps.length ∧ o = .slice B (j + (ss.length - t)) bc ∧ Slc wr 1 (.slice B (j + (ss.length - t)) bc) (j + (ss.length - t)) (strs ((ps.take j).reverse ++ ss.drop t)) ∧ Only [] w8 wr) (fun _ i _ => ps.length - (intOf i).toNat)
              case atStart => exact ⟨0, B, bc, rfl, Nat.zero_le _, by rw [Nat.zero_add], by rw [Nat.zero_add]; exact hB8, Only.refl _ _⟩
              case round =>
                obtain ⟨j, B, bc, rfl, hj, rfl, hB, hO3⟩ := hrel
                by_cases hjl : j < ps.length
                · have hdec3 : decide ((j : Int) < (ps.length : Int)) = true := decide_eq_true (by omega)
                  obtain ⟨pb, po, rfl, hpbl, hpc⟩ := hc8 j hjl
                  have hpc := (hO3.cell (p := ⟨pb, po + j, none⟩) hpbl (by simp)).trans hpc
                  have htk : ps.take (j + 1) = ps.take j ++ [ps[j]] := List.take_succ_eq_append_getElem hjl
                  obtain ⟨x, hx⟩ : ∃ x, ps[j] = x := ⟨_, rfl⟩
                  rw [hx] at hpc htk
                  have hrev : (ps.take (j + 1)).reverse ++ ss.drop t = [x] ++ ((ps.take j).reverse ++ ss.drop t) := by rw [htk]; simp
                  have hll : ((ps.take j).reverse ++ ss.drop t).length = j + (ss.length - t) := by rw [List.length_append, List.length_reverse, List.length_take, HDr.out]; omega
                  have hown : (wr.alloc (.cells #[.string x] 9)).ownsRow w8.heap.size 9 1 (.slice (some ⟨wr.heap.size, 0, none⟩) 1 1) ([x] : List ByteArray).length (strs [x]) := World.ownsRow_lit wr #[.string x] 1 hO3.size (by simp [maxLen]) rfl
                  have hBa : Slc (wr.alloc (.cells #[.string x] 9)) 1 (.slice B (j + (ss.length - t)) bc) ((ps.take j).reverse ++ ss.drop t).length (strs ((ps.take j).reverse ++ ss.drop t)) := by rw [hll]; exact hB.only0 ((Only.refl _ _).alloc _)
                  obtain ⟨A9, c9, w9, hr9, hown9, hO9⟩ := appSS hown hBa (by have := hO3.size; simp; omega) (by rw [hll]; show 1 + _ ≤ _; omega)
                  rw [hll, show ([x] : List ByteArray).length = 1 from rfl] at hr9 hown9
                  have hgx : ∀ g ∈ (Value.slice (some ⟨wr.heap.size, 0, none⟩) 1 1).ownBlock.toList, w8.heap.size ≤ g := fun g hg => by
                    have h8 : g = wr.heap.size := by simpa [Value.ownBlock] using hg
                    have := hO3.size
                    omega
                  have hO10 : Only [] w8 w9 := (hO3.alloc _).step hO9 (fun g hg => .inr (hgx g hg))
                  rw [← hrev] at hown9
                  have hn9 : 1 + (j + (ss.length - t)) = j + 1 + (ss.length - t) := by omega
                  have hl9 : ((ps.take (j + 1)).reverse ++ ss.drop t).length = j + 1 + (ss.length - t) := by rw [hrev, List.length_append, hll]; simp; omega
                  have hs9 := (Slc.of_own hown9).1
                  rw [hn9] at hr9
                  rw [hn9, hl9] at hs9
                  have HR9 := Lib.hid hr9
                  have HS9 := Lib.hid hs9
                  clear hx htk hrev hll hown hBa hr9 hown9 hO9 hn9 hl9 hs9 hB
                  go_wp2_with (at_builtin; refine Lib.wpList_append_run _ rfl (.tmp 104) (.tmp 105) 22 22 rfl _ _ rfl rfl _ _ HR9.out ?_)
                  exact ⟨⟨j + 1, A9, c9, by simp, hjl, rfl, HS9.out, hO10⟩, by simp [intOf]; omega⟩
                · have hje : j = ps.length := by omega
                  subst hje
                  have hdec3 : decide ((ps.length : Int) < (ps.length : Int)) = false := decide_eq_false (by omega)
                  rw [List.take_length, HDl.out] at hB
                  have hq1 := HPl.out
                  have hq2 := HTz.out
                  have hq3 := HKz.out
                  have hq4 : ps.length + (ss.length - t) = ss.length - (t - nn) := by omega
                  rw [hq4] at hB ⊢
                  have HB9 := Lib.hid hB
                  have hO11 : Only [] W6 wr := (hO2.trans k8).trans hO3
                  clear hq1 hq2 hq3 hq4 hB hc8
                  go_wp2
                  have hq2 := HTz.out
                  have hq3 := HKz.out
                  have hq5 := hz2.out
                  exact ⟨⟨t - nn, z - nn, B, bc, rfl, ⟨by omega, by omega, by omega⟩, rfl, HB9.out, hO11⟩, by simp [intOf]; omega⟩
            · have hdec2 : decide (z ≥ 0) = false := decide_eq_false hz0
              have ht0 : t = 0 := by have := hz2.out; omega
              subst ht0
              rw [List.drop_zero, Nat.sub_zero] at hB
              have hAf := Lib.hid (HA6.out.only0 hO2)
              have hBf := Lib.hid hB
              have hk9 : Only [] w wr := (hk4.trans hO).trans hO2
              have hvf := Lib.hid (hv.only0 hk9)
              clear hB HA6 hv4
              go_wp2_with (first
                | (go_at_call 9; refine (HAl.out _ hk9).mono ?_; rintro e5 w5 ⟨rfl, k5⟩; have HS1 := Lib.hid (sameT_refl (hAf.out.only0 k5) (hvf.out.only0 k5)))
                | (go_at_call 16; refine HS1.out.mono ?_; rintro e6 w6 ⟨rfl, k6⟩; have HS2 := Lib.hid (sameT_refl (hBf.out.only0 (k5.trans k6)) (hvf.out.only0 (k5.trans k6))); clear HS1)
                | (go_at_call 16; refine HS2.out.mono ?_; rintro e7 w7 ⟨rfl, k7⟩))
              go_ret
              exact ⟨rfl, ((hk9.trans k5).trans k6).trans k7⟩
    · rw [a1] at HAp
      have HAp := Lib.hid HAp
      clear hW0 HSm hA3 hge a1 hb hwt
      go_wp2_with fail
      refine HAp.out.mono ?_
      rintro e4 w4 ⟨rfl, k4⟩
      obtain ⟨kv4, pv4, xs4, h4⟩ := k4.on
      have HA := Lib.hid h4.at_
      have hk4 : Only [] w w4 := k1.trans h4.at_.base
      have HLn := Lib.hid fun (W : World) (k : Only [] w4 W) => jlen_any (HA.out.only0 k) (by rw [xs_len HA.out]; simp [LogS.new]) (by show (0 : Int) ≤ _; omega)
      have hl0 : (LogS.new ⟨#[112]⟩ size).len = 0 := rfl
      rw [hl0] at HLn
      clear k4 h4 HAp
      go_wp2_with (first
        | (go_at_call 9; refine (HAl.out _ hk4).mono ?_; rintro e5 w5 ⟨rfl, k5⟩)
        | (go_at_call 13; refine (HLn.out _ k5).mono ?_; rintro e6 w6 ⟨rfl, k6⟩))
      go_ret
      exact ⟨rfl, (hk4.trans k5).trans k6⟩
end
end Go.Proofs.YtfjkjndpndjfpaaGreatDoor
/- Opening a law's arguments: slices of strings, of integers and of structs as plain lists. -/
set_option linter.unusedVariables false
set_option linter.unusedSimpArgs false
namespace Go.Proofs.YtfjkjndpndjfpaaGreatDoor
open Go.ChangeShapes Go.WideShapes Go.ChangeAt Go.RowKit Go.WideElems Go.ChangeMaps Go.Deep
theorem own : ownKnob Tryz.prog.godebug = none := by kernel_rfl
theorem laidOut : laidOutB Tryz.prog = true := by kernel_rfl
theorem addr_add (b off j : Nat) : (⟨b, off, none⟩ : Addr).add j = ⟨b, off + j, none⟩ := by
  cases j <;> simp [Addr.add]
section
variable {H : Type} {enc : TypeId × Value → H} {P : Program} {W : World} {base : Nat} {t e : TypeId} {v : Value} {d : DataW H} {ps : List MemPlace}
theorem open_strs (ht : P.underlying t = some (.slice e)) (he : P.underlying e = some .string) (hc : P.cellsOf e = 1)
    (hval : Value.okWide P W .any base t v) (hd : DataW.Trod enc P W 0 (fun _ => true) true t v d ps) (hlt : ∀ x ∈ ps, x.block < W.heap.size) :
    ∃ ss : List ByteArray, Slc W 1 v ss.length (strs ss) ∧ (∀ s ∈ ss, s.size ≤ maxLen) ∧ ∀ g, v.ownBlock = some g → g < W.heap.size ∨ ss = [] := by
  obtain ⟨fuel, hf⟩ := hd
  obtain ⟨a0, len, cap, rfl⟩ := okWide_slice ht hval
  rcases open_strings ht he hc hf with ⟨hcs, hx⟩ | ⟨a, len', cap', ss, hcs, _, hl, hm, hz, hx, hcell, hwz⟩
  · simp [Value.cells] at hcs
    obtain ⟨rfl, rfl, rfl⟩ := hcs
    exact ⟨[], Slc.nil W 1, by simp, fun g hg => .inr rfl⟩
  · simp [Value.cells] at hcs
    obtain ⟨rfl, rfl, rfl⟩ := hcs
    simp only [if_true] at hz
    obtain ⟨b, off, spot⟩ := a
    have htl : (ss.take len).length = len := by simp; omega
    have hb : 0 < len → b < W.heap.size ∧ spot = none := by
      intro h0
      have := hcell 0 (by omega)
      exact ⟨block_lt_of_cell this, by simpa [Addr.add] using World.cell?_spot this⟩
    refine ⟨ss.take len, ?_, fun s hs => hwz s (List.mem_of_mem_take hs), fun g hg => ?_⟩
    · rw [htl]
      refine ⟨_, _, rfl, by simp [strs]; omega, hl, hm, fun h0 => ?_⟩
      obtain ⟨q1, rfl⟩ := hb h0
      refine ⟨b, off, rfl, q1, fun j hj => ?_⟩
      have hj' : j < len := by simp [strs] at hj; omega
      have := hcell j (by omega)
      rw [addr_add] at this
      rw [this]
      simp [strs, hj', List.getD]
      rw [List.getElem?_eq_getElem (by omega)]
      rfl
    · by_cases h0 : 0 < len
      · have e : g = b := by
          have : some b = some g := hg
          simpa using this.symm
        rw [e]; exact .inl (hb h0).1
      · right
        have : len = 0 := by omega
        rw [this]; simp
theorem open_intz (ht : P.underlying t = some (.slice e)) (he : P.underlying e = some (.int .i64)) (hc : P.cellsOf e = 1)
    (hval : Value.okWide P W .any base t v) (hd : DataW.Trod enc P W 0 (fun _ => true) true t v d ps) (hlt : ∀ x ∈ ps, x.block < W.heap.size) :
    ∃ zs : List Int, Slc W 1 v zs.length (ints zs) ∧ (∀ z ∈ zs, (Lit.int .i64 z).wf = true) ∧ ∀ g, v.ownBlock = some g → g < W.heap.size ∨ zs = [] := by
  obtain ⟨fuel, hf⟩ := hd
  obtain ⟨a0, len, cap, rfl⟩ := okWide_slice ht hval
  rcases open_ints ht he hc hf with ⟨hcs, hx⟩ | ⟨a, len', cap', ss, hcs, _, hl, hm, hz, hx, hcell, hwz⟩
  · simp [Value.cells] at hcs
    obtain ⟨rfl, rfl, rfl⟩ := hcs
    exact ⟨[], Slc.nil W 1, by simp, fun g hg => .inr rfl⟩
  · simp [Value.cells] at hcs
    obtain ⟨rfl, rfl, rfl⟩ := hcs
    simp only [if_true] at hz
    obtain ⟨b, off, spot⟩ := a
    have htl : (ss.take len).length = len := by simp; omega
    have hb : 0 < len → b < W.heap.size ∧ spot = none := by
      intro h0
      have := hcell 0 (by omega)
      exact ⟨block_lt_of_cell this, by simpa [Addr.add] using World.cell?_spot this⟩
    refine ⟨ss.take len, ?_, fun s hs => hwz s (List.mem_of_mem_take hs), fun g hg => ?_⟩
    · rw [htl]
      refine ⟨_, _, rfl, by simp [ints]; omega, hl, hm, fun h0 => ?_⟩
      obtain ⟨q1, rfl⟩ := hb h0
      refine ⟨b, off, rfl, q1, fun j hj => ?_⟩
      have hj' : j < len := by simp [ints] at hj; omega
      have := hcell j (by omega)
      rw [addr_add] at this
      rw [this]
      simp [ints, hj', List.getD]
      rw [List.getElem?_eq_getElem (by omega)]
      rfl
    · by_cases h0 : 0 < len
      · have e : g = b := by
          have : some b = some g := hg
          simpa using this.symm
        rw [e]; exact .inl (hb h0).1
      · right
        have : len = 0 := by omega
        rw [this]; simp
end
section
variable {H : Type} {enc : TypeId × Value → H} {P : Program} {W : World} {t e : TypeId}
theorem list_of {E : Type} (Q : Nat → E → Prop) : ∀ len, (∀ i, i < len → ∃ o, Q i o) → ∃ os : List E, os.length = len ∧ ∀ i (h : i < os.length), Q i os[i]
  | 0, _ => ⟨[], rfl, fun i h => absurd h (Nat.not_lt_zero _)⟩
  | len + 1, h => by
    obtain ⟨os, h1, h2⟩ := list_of Q len (fun i hi => h i (by omega))
    obtain ⟨o, ho⟩ := h len (by omega)
    refine ⟨os ++ [o], by simp [h1], fun i hi => ?_⟩
    by_cases hl : i < os.length
    · rw [List.getElem_append_left hl]; exact h2 i hl
    · have : i = len := by simp at hi; omega
      subst this
      rw [List.getElem_append_right (by omega)]
      simpa [h1] using ho
/-- The slice whose cells read so, as a list of its elements. -/
theorem open_rows_at {fuel k : Nat} {cs : List Value} {x : DataW H × List MemPlace} (ht : P.underlying t = some (.slice e)) (hc : P.cellsOf e = k) (hk : 0 < k) {E : Type} (cells : E → List Value) (okE : E → Prop)
    (hel : ∀ n cs x, DataW.trod enc P W 0 (fun _ => true) true n e cs = some x → (∀ y ∈ x.2, y.block < W.heap.size) → ∃ o, cs = cells o ∧ okE o)
    (hd : DataW.trod enc P W 0 (fun _ => true) true fuel t cs = some x) (hlt : ∀ y ∈ x.2, y.block < W.heap.size) :
    ∃ (v : Value) (os : List E), cs = [v] ∧ Slc W k v os.length (os.flatMap cells) ∧ (∀ o ∈ os, okE o ∧ (cells o).length = k) ∧ ∀ g, v.ownBlock = some g → g < W.heap.size ∨ os = [] := by
  rcases open_slice ht hd with ⟨hcs, hx⟩ | ⟨a, len, cap, m, n, D, Pl, hcs, _, hl, hm, hmm, hx, hel0⟩
  · exact ⟨_, [], hcs, Slc.nil W k, by simp, fun g hg => .inr rfl⟩
  · simp only [if_true] at hmm
    subst hmm
    have hpl : ∀ i, i < m → ∀ y ∈ Pl i, y.block < W.heap.size := fun i hi y hy => hlt y (by
      rw [hx]
      exact List.mem_append_right _ (List.mem_flatMap.2 ⟨i, List.mem_range.2 hi, hy⟩))
    obtain ⟨os, h1, h2⟩ := list_of (E := E) (fun i o => W.cells? 0 (a.add (i * P.cellsOf e)) (P.cellsOf e) = some (cells o) ∧ okE o) len (fun i hi => by
      obtain ⟨cs', hc', ht'⟩ := hel0 i (by omega)
      obtain ⟨o, rfl, ho⟩ := hel n cs' _ ht' (hpl i (by omega))
      exact ⟨o, hc', ho⟩)
    have hlen : ∀ o ∈ os, (cells o).length = k := by
      intro o ho
      obtain ⟨i, hi, rfl⟩ := List.getElem_of_mem ho
      have := (World.cells?_some (h2 i hi).1).2.1
      rw [this, hc]
    obtain ⟨b, off, spot⟩ := a
    have hcell : ∀ i (hi : i < os.length) r, r < k → W.cell? (((⟨b, off, spot⟩ : Addr).add (i * k)).add r) = (cells os[i])[r]? := by
      intro i hi r hr
      have := (World.cells?_some (h2 i hi).1).2.2 r (by rw [hc]; exact hr)
      rwa [hc] at this
    have hb : 0 < len → b < W.heap.size ∧ spot = none := by
      intro h0
      have h00 := hcell 0 (by omega) 0 hk
      have hs : (cells os[0])[0]? = some ((cells os[0])[0]'(by rw [hlen _ (List.getElem_mem _)]; exact hk)) := List.getElem?_eq_getElem _
      rw [hs] at h00
      generalize (cells os[0])[0]'(by rw [hlen _ (List.getElem_mem _)]; exact hk) = u at h00
      have h01 : W.cell? ⟨b, off, spot⟩ = some u := by simpa [Addr.add] using h00
      exact ⟨block_lt_of_cell h01, by simpa using World.cell?_spot h01⟩
    refine ⟨_, os, hcs, ?_, fun o ho => ⟨?_, hlen o ho⟩, fun g hg => ?_⟩
    · refine ⟨_, _, by rw [h1], by rw [flat_len cells k os hlen], by omega, hm, fun h0 => ?_⟩
      obtain ⟨q1, rfl⟩ := hb (by omega)
      refine ⟨b, off, rfl, q1, fun j hj => ?_⟩
      rw [flat_len cells k os hlen] at hj
      have hi : j / k < os.length := Nat.div_lt_of_lt_mul (by rw [Nat.mul_comm]; exact hj)
      have hr : j % k < k := Nat.mod_lt _ hk
      have hjk : j / k * k + j % k = j := by rw [Nat.mul_comm]; exact Nat.div_add_mod j k
      have := hcell (j / k) hi (j % k) hr
      rw [addr_add, addr_add] at this
      have e2 := flat_get cells k os hlen (j / k) (j % k) hi hr
      rw [hjk] at e2
      rw [e2, ← this]
      congr 2
      omega
    · obtain ⟨i, hi, rfl⟩ := List.getElem_of_mem ho
      exact (h2 i hi).2
    · by_cases h0 : 0 < len
      · have e : g = b := by
          have : some b = some g := hg
          simpa using this.symm
        rw [e]; exact .inl (hb h0).1
      · right
        exact List.eq_nil_of_length_eq_zero (by omega)
theorem open_rows {k : Nat} {base : Nat} {v : Value} {d : DataW H} {ps : List MemPlace} (ht : P.underlying t = some (.slice e)) (hc : P.cellsOf e = k) (hk : 0 < k) {E : Type} (cells : E → List Value) (okE : E → Prop)
    (hel : ∀ n cs x, DataW.trod enc P W 0 (fun _ => true) true n e cs = some x → (∀ y ∈ x.2, y.block < W.heap.size) → ∃ o, cs = cells o ∧ okE o)
    (hval : Value.okWide P W .any base t v) (hd : DataW.Trod enc P W 0 (fun _ => true) true t v d ps) (hlt : ∀ x ∈ ps, x.block < W.heap.size) :
    ∃ os : List E, Slc W k v os.length (os.flatMap cells) ∧ (∀ o ∈ os, okE o ∧ (cells o).length = k) ∧ ∀ g, v.ownBlock = some g → g < W.heap.size ∨ os = [] := by
  obtain ⟨fuel, hf⟩ := hd
  obtain ⟨a0, len, cap, rfl⟩ := okWide_slice ht hval
  obtain ⟨v', os, h1, h2, h3, h4⟩ := open_rows_at ht hc hk cells okE hel hf hlt
  have : v' = .slice a0 len cap := by
    simp [Value.cells] at h1
    exact h1.symm
  subst this
  exact ⟨os, h2, h3, h4⟩
end
end Go.Proofs.YtfjkjndpndjfpaaGreatDoor
/- LogBacks: the walk in the row's form. -/
set_option linter.unusedVariables false
namespace Go.Proofs.YtfjkjndpndjfpaaGreatDoor
open Go Go.RowKit Go.Sort
theorem backsW (size : Int) (hs : (Lit.int .i64 size).wf = true) (v : Value) (ss : List ByteArray) (n : Int) (hn : (Lit.int .i64 n).wf = true) (W : World) (hT : Tab W)
    (hv : Slc W 1 v ss.length (strs ss)) (hz : ∀ s ∈ ss, s.size ≤ maxLen) (hg : ∀ g, v.ownBlock = some g → g < W.heap.size ∨ ss = []) :
    Calls Tryz.prog 3 #[.int .i64 size, v, .int .i64 n] W fun e w' => e = .returned (.bool true) ∧ Only [] W w' :=
  backs_go W hT v ss size n hv hz hg
end Go.Proofs.YtfjkjndpndjfpaaGreatDoor
/- LogNone: of a nil and of a zero log. -/
set_option linter.unusedVariables false
set_option linter.unusedSimpArgs false
namespace Go.Proofs.YtfjkjndpndjfpaaGreatDoor
open Go Go.RowKit Go.Sort
section
variable {a w W w1 w' : World} {lb : Nat}
theorem jopen_nilD (p : ByteArray) (size : Int) : Calls Tryz.prog 11 #[.pointer none, .string p, .int .i64 size] w fun e w' => e = .returned (.tuple #[.pointer none, .int .i64 1]) ∧ w' = w := by
  go_enter Tryz.func11, Tryz.ntmps11
  go_wp2
  go_ret2
  exact ⟨rfl, rfl⟩
theorem jopen_short (db : Nat) (size : Int) : Calls Tryz.prog 11 #[.pointer (some ⟨db, 0, none⟩), .string ⟨#[]⟩, .int .i64 size] w fun e w' => e = .returned (.tuple #[.pointer none, .int .i64 1]) ∧ w' = w := by
  go_enter Tryz.func11, Tryz.ntmps11
  go_wp2
  go_ret2
  exact ⟨rfl, rfl⟩
theorem jappend_nil (v : Value) : Calls Tryz.prog 12 #[.pointer none, v] w fun e w' => e = .returned (.tuple #[.int .i64 0, .int .i64 1]) ∧ w' = w := by
  go_enter Tryz.func12, Tryz.ntmps12
  go_wp2_with (go_at_call 37; refine jmay_nil.mono ?_; rintro e1 w1 ⟨rfl, rfl⟩)
  go_ret2
  exact ⟨rfl, rfl⟩
theorem jmay_zero (h : w.cell? ⟨lb, 0, none⟩ = some (.pointer none)) : Calls Tryz.prog 37 #[.pointer (some ⟨lb, 0, none⟩)] w fun e w' => e = .returned (.int .i64 1) ∧ w' = w := by
  go_enter Tryz.func37, Tryz.ntmps37
  go_wp2
  go_ret
  exact ⟨rfl, rfl⟩
theorem jappend_zero (h : w.cell? ⟨lb, 0, none⟩ = some (.pointer none)) (v : Value) : Calls Tryz.prog 12 #[.pointer (some ⟨lb, 0, none⟩), v] w fun e w' => e = .returned (.tuple #[.int .i64 0, .int .i64 1]) ∧ w' = w := by
  have H := Lib.hid (jmay_zero h)
  go_enter Tryz.func12, Tryz.ntmps12
  go_wp2_with (go_at_call 37; refine H.out.mono ?_; rintro e1 w1 ⟨rfl, rfl⟩)
  go_ret2
  exact ⟨rfl, rfl⟩
theorem jrec_nil (n : Int) : Calls Tryz.prog 28 #[.pointer none, .int .i64 n] w fun e w' => e = .returned (.tuple #[.string ⟨#[]⟩, .int .i64 1]) ∧ w' = w := by
  go_enter Tryz.func28, Tryz.ntmps28
  go_wp2
  go_ret2
  exact ⟨rfl, rfl⟩
theorem jsync_nil : Calls Tryz.prog 17 #[.pointer none] w fun e w' => e = .returned (.int .i64 1) ∧ w' = w := by
  go_enter Tryz.func17, Tryz.ntmps17
  go_wp2_with (go_at_call 37; refine jmay_nil.mono ?_; rintro e1 w1 ⟨rfl, rfl⟩)
  go_ret
  exact ⟨rfl, rfl⟩
theorem jtruncate_nil (n : Int) : Calls Tryz.prog 22 #[.pointer none, .int .i64 n] w fun e w' => e = .returned (.int .i64 1) ∧ w' = w := by
  go_enter Tryz.func22, Tryz.ntmps22
  go_wp2_with (go_at_call 37; refine jmay_nil.mono ?_; rintro e1 w1 ⟨rfl, rfl⟩)
  go_ret
  exact ⟨rfl, rfl⟩
theorem jmark_nil (n : Int) : Calls Tryz.prog 18 #[.pointer none, .int .i64 n] w fun e w' => e = .returned (.int .i64 1) ∧ w' = w := by
  go_enter Tryz.func18, Tryz.ntmps18
  go_wp2_with (go_at_call 37; refine jmay_nil.mono ?_; rintro e1 w1 ⟨rfl, rfl⟩)
  go_ret
  exact ⟨rfl, rfl⟩
set_option maxRecDepth 100000 in
theorem jrewrite_nil (n : Int) (v : Value) : Calls Tryz.prog 25 #[.pointer none, .int .i64 n, v] w fun e w' => e = .returned (.int .i64 1) ∧ w' = w := by
  go_enter Tryz.func25, Tryz.ntmps25
  go_wp2_with (go_at_call 37; refine jmay_nil.mono ?_; rintro e1 w1 ⟨rfl, rfl⟩)
  go_ret
  exact ⟨rfl, rfl⟩
theorem jchunkL_nil : Calls Tryz.prog 23 #[.pointer none] w fun e w' => e = .returned (.slice none 0 0) ∧ w' = w := by
  go_enter Tryz.func23, Tryz.ntmps23
  go_wp2
  go_ret
  exact ⟨rfl, rfl⟩
theorem jlen_nil : Calls Tryz.prog 13 #[.pointer none] w fun e w' => e = .returned (.int .i64 0) ∧ w' = w := by
  go_enter Tryz.func13, Tryz.ntmps13
  go_wp2_with (go_at_call 23; refine jchunkL_nil.mono ?_; rintro e1 w1 ⟨rfl, rfl⟩)
  go_loop [3, 9] (fun n i => n = .int .i64 0 ∧ i = .int .i64 0) (fun _ _ => 0)
  case atStart => exact ⟨rfl, rfl⟩
  case round =>
    obtain ⟨rfl, rfl⟩ := hrel
    go_wp2
    go_ret
    exact ⟨rfl, rfl⟩
theorem jchunkL_zero (h : w.cell? ⟨lb, 3, none⟩ = some (.slice none 0 0)) : Calls Tryz.prog 23 #[.pointer (some ⟨lb, 0, none⟩)] w fun e w' => e = .returned (.slice none 0 0) ∧ w' = w := by
  go_enter Tryz.func23, Tryz.ntmps23
  go_wp2
  go_loop [3, 13] (fun o i => o = .slice none 0 0 ∧ i = .int .i64 0) (fun _ _ => 0)
  case atStart => exact ⟨rfl, rfl⟩
  case round =>
    obtain ⟨rfl, rfl⟩ := hrel
    go_wp2
    go_ret
    exact ⟨rfl, rfl⟩
theorem jlen_zero (h : w.cell? ⟨lb, 3, none⟩ = some (.slice none 0 0)) : Calls Tryz.prog 13 #[.pointer (some ⟨lb, 0, none⟩)] w fun e w' => e = .returned (.int .i64 0) ∧ w' = w := by
  have H := Lib.hid (jchunkL_zero h)
  go_enter Tryz.func13, Tryz.ntmps13
  go_wp2_with (go_at_call 23; refine H.out.mono ?_; rintro e1 w1 ⟨rfl, rfl⟩)
  go_loop [3, 9] (fun n i => n = .int .i64 0 ∧ i = .int .i64 0) (fun _ _ => 0)
  case atStart => exact ⟨rfl, rfl⟩
  case round =>
    obtain ⟨rfl, rfl⟩ := hrel
    go_wp2
    go_ret
    exact ⟨rfl, rfl⟩
theorem jmarked_nil : Calls Tryz.prog 19 #[.pointer none] w fun e w' => e = .returned (.int .i64 0) ∧ w' = w := by
  go_enter Tryz.func19, Tryz.ntmps19
  go_wp2
  go_ret
  exact ⟨rfl, rfl⟩
theorem jbroken_nil : Calls Tryz.prog 30 #[.pointer none] w fun e w' => e = .returned (.bool false) ∧ w' = w := by
  go_enter Tryz.func30, Tryz.ntmps30
  go_wp2
  go_ret
  exact ⟨rfl, rfl⟩
theorem jrange_nil (n : Int) : Calls Tryz.prog 14 #[.pointer none, .int .i64 0, .int .i64 n] w fun e w' => e = .returned (.slice none 0 0) ∧ w' = w := by
  have H := Lib.hid (fun W : World => jlen_nil (w := W))
  go_enter Tryz.func14, Tryz.ntmps14
  go_wp2
  go_loopw [7, 8] (fun o i wr => o = .slice none 0 0 ∧ i = .int .i64 0 ∧ wr = w) (fun _ _ _ => 0)
  case atStart => exact ⟨rfl, rfl, rfl⟩
  case round =>
    obtain ⟨rfl, rfl, rfl⟩ := hrel
    go_wp2_with (go_at_call 13; refine (H.out _).mono ?_; rintro e1 w1 ⟨rfl, rfl⟩)
    go_ret
    exact ⟨rfl, rfl⟩
theorem jback_nil (n m : Int) : Calls Tryz.prog 15 #[.pointer none, .int .i64 n, .int .i64 m] w fun e w' => e = .returned (.slice none 0 0) ∧ w' = w := by
  have H := Lib.hid (fun W : World => jlen_nil (w := W))
  obtain ⟨z, hz⟩ : ∃ z, min n (-1) = z := ⟨_, rfl⟩
  have hd : decide (z ≥ 0) = false := decide_eq_false (by omega)
  go_enter Tryz.func15, Tryz.ntmps15
  go_wp2_with (go_at_call 13; refine (H.out _).mono ?_; rintro e1 w1 ⟨rfl, rfl⟩)
  go_loopw [7, 8] (fun o i wr => o = .slice none 0 0 ∧ i = .int .i64 z ∧ wr = w1) (fun _ _ _ => 0)
  case atStart => exact ⟨rfl, rfl, rfl⟩
  case round =>
    obtain ⟨rfl, rfl, rfl⟩ := hrel
    go_wp2
    go_ret
    exact ⟨rfl, rfl⟩
end
end Go.Proofs.YtfjkjndpndjfpaaGreatDoor
/- LogNone: of a nil and of a zero log; the walk. -/
set_option linter.unusedVariables false
set_option linter.unusedSimpArgs false
namespace Go.Proofs.YtfjkjndpndjfpaaGreatDoor
open Go Go.RowKit Go.Sort
set_option maxRecDepth 100000 in
set_option maxHeartbeats 4000000 in
theorem none_go (w : World) (hT : Tab w) (n : Int) (s : ByteArray) :
    Calls Tryz.prog 7 #[.int .i64 n, .string s] w fun e w' => e = .returned (.bool true) ∧ Only [] w w' := by
  have HAl := Lib.hid (fun (W : World) (k : Only [] w W) => alive11_any W (hT.only k))
  by_cases h1 : (s.size : Int) > 300
  · have q1 : decide ((s.size : Int) > 300) = true := decide_eq_true h1
    go_enter Tryz.func7, Tryz.ntmps7
    go_wp2_with (go_at_call 9; refine (HAl.out _ (Only.refl _ _)).mono ?_; rintro e1 w1 ⟨rfl, k1⟩)
    go_ret
    exact ⟨rfl, k1⟩
  have q1 : decide ((s.size : Int) > 300) = false := decide_eq_false h1
  have HO1 := Lib.hid fun (W : World) => jopen_nilD (w := W) ⟨#[112]⟩ 200
  have HN := Lib.hid fun (W : World) => new_any W (room := 0) (by omega)
  have HO2 := Lib.hid fun (W : World) (db : Nat) => jopen_short (w := W) db 200
  have HA1 := Lib.hid fun (W : World) (v : Value) => jappend_nil (w := W) v
  have HG := Lib.hid fun (W : World) => jrec_nil (w := W) n
  have HSy := Lib.hid fun (W : World) => jsync_nil (w := W)
  have HTr := Lib.hid fun (W : World) => jtruncate_nil (w := W) n
  have HMk := Lib.hid fun (W : World) => jmark_nil (w := W) n
  have HRw := Lib.hid fun (W : World) (v : Value) => jrewrite_nil (w := W) n v
  have HL1 := Lib.hid fun (W : World) => jlen_nil (w := W)
  have HSd := Lib.hid fun (W : World) => jsynced_nil (w := W)
  have HMd := Lib.hid fun (W : World) => jmarked_nil (w := W)
  have HRg := Lib.hid fun (W : World) => jrange_nil (w := W) n
  have HBk := Lib.hid fun (W : World) => jback_nil (w := W) n n
  have HCh := Lib.hid fun (W : World) => jchunkL_nil (w := W)
  have HBr := Lib.hid fun (W : World) => jbroken_nil (w := W)
  have hzb := Blk.new w 50 #[.pointer none, .string ⟨#[]⟩, .int .i64 0, .slice none 0 0, .int .i64 0, .int .i64 0, .int .i64 0]
  have kz : Only [] w (w.alloc (.cells #[.pointer none, .string ⟨#[]⟩, .int .i64 0, .slice none 0 0, .int .i64 0, .int .i64 0, .int .i64 0] 50)) := (Only.refl _ _).alloc _
  have HZ := Lib.hid hzb
  have HKZ := Lib.hid kz
  clear hT h1 hzb kz
  go_enter Tryz.func7, Tryz.ntmps7
  go_wp2_with (first
    | (go_at_call 11; refine (HO1.out _).mono ?_; clear HO1; rintro e1 w1 ⟨rfl, rfl⟩)
    | (go_at_call 10; refine (HN.out _).mono ?_; rintro e2 w2 ⟨rfl, -, k2⟩; have hb2 := k2.blk HZ.out (by simp); have HB2 := Lib.hid hb2; have HK2 := Lib.hid (HKZ.out.trans k2); clear hb2)
    | (go_at_call 11; refine (HO2.out _ _).mono ?_; clear HO2; rintro e3 w3 ⟨rfl, rfl⟩)
    | (go_at_call 12; refine (HA1.out _ _).mono ?_; clear HA1; rintro e4 w4 ⟨rfl, rfl⟩; have hb4 := HB2.out)
    | (go_at_call 28; refine (HG.out _).mono ?_; rintro e5 w5 ⟨rfl, rfl⟩))
  have k4 : Only [] w3 ((w3.alloc (.cells #[.string s] 9)).alloc (.cells #[.string s] 9)) := ((Only.refl _ _).alloc _).alloc _
  have hb5 := k4.blk HB2.out (by simp)
  have HB5 := Lib.hid hb5
  have HK5 := Lib.hid (HK2.out.trans k4)
  refine (jappend_zero (hb5.cell 0) _).mono ?_
  rintro e6 w6 ⟨rfl, rfl⟩
  clear hb5 k4 hb4
  go_wp2_with (first
    | (go_at_call 28; refine (HG.out _).mono ?_; rintro e5 w5 ⟨rfl, rfl⟩)
    | (go_at_call 9; refine (HAl.out _ HK5.out).mono ?_; rintro e7 w7 ⟨rfl, k7⟩; have hb7 := k7.blk HB5.out (by simp); have HZ7 := Lib.hid (jlen_zero (hb7.cell 3)); clear hb7)
    | (go_at_call 17; refine (HSy.out _).mono ?_; rintro e8 w8 ⟨rfl, rfl⟩)
    | (go_at_call 22; refine (HTr.out _).mono ?_; rintro e9 w9 ⟨rfl, rfl⟩)
    | (go_at_call 18; refine (HMk.out _).mono ?_; rintro e10 w10 ⟨rfl, rfl⟩)
    | (go_at_call 25; refine (HRw.out _ _).mono ?_; rintro e11 w11 ⟨rfl, rfl⟩)
    | (go_at_call 13; refine (HL1.out _).mono ?_; clear HL1; rintro e12 w12 ⟨rfl, rfl⟩)
    | (go_at_call 29; refine (HSd.out _).mono ?_; rintro e13 w13 ⟨rfl, rfl⟩)
    | (go_at_call 19; refine (HMd.out _).mono ?_; rintro e14 w14 ⟨rfl, rfl⟩)
    | (go_at_call 13; refine HZ7.out.mono ?_; rintro e15 w15 ⟨rfl, rfl⟩)
    | (go_at_call 14; refine (HRg.out _).mono ?_; rintro e16 w16 ⟨rfl, rfl⟩)
    | (go_at_call 15; refine (HBk.out _).mono ?_; rintro e17 w17 ⟨rfl, rfl⟩)
    | (go_at_call 23; refine (HCh.out _).mono ?_; rintro e18 w18 ⟨rfl, rfl⟩)
    | (go_at_call 30; refine (HBr.out _).mono ?_; rintro e19 w19 ⟨rfl, rfl⟩))
  go_ret
  exact ⟨rfl, HK5.out.trans k7⟩
theorem noneW (n : Int) (hn : (Lit.int .i64 n).wf = true) (s : ByteArray) (hs : s.size ≤ maxLen) (W : World) (hT : Tab W) :
    Calls Tryz.prog 7 #[.int .i64 n, .string s] W fun e w' => e = .returned (.bool true) ∧ Only [] W w' := none_go W hT n s
end Go.Proofs.YtfjkjndpndjfpaaGreatDoor
