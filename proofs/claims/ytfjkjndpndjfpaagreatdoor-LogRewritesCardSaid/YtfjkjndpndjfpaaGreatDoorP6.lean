/- Proved here: contracts of functions and plain laws, part 6 of one proof. Conditions: each theorem names its own. -/
import Derived.Test.YtfjkjndpndjfpaaGreatDoorP5
import Derived.Test.YtfjkjndpndjfpaaGreatDoorProg
import Derived.ProofKit
import Derived.OpenShut
import Derived.ChangeMaps5
import Derived.SliceStrings
import Derived.Deep.Slices
import Derived.ChangeArms
import Derived.DataReads
/- LogBacks: what is read backwards is what is read forwards, turned round. -/
set_option linter.unusedVariables false
set_option linter.unusedSimpArgs false
namespace Go.Proofs.YtfjkjndpndjfpaaGreatDoor
open Go Go.RowKit Go.Sort
theorem range_at {L : LogS} {ss : List ByteArray} (h : L.all = ss) (k n : Nat) : L.range k n = (ss.drop k).take n := by
  unfold LogS.range
  rw [if_neg (by omega), h]
  simp
theorem back_at {L : LogS} {ss : List ByteArray} (h : L.all = ss) (k n : Nat) (hk : k < ss.length) : L.back k n = ((ss.take (k + 1)).reverse).take n := by
  unfold LogS.back
  have hl : L.len = ss.length := by rw [len_all, h]
  rw [hl, show min (k : Int) ((ss.length : Int) - 1) = (k : Int) by omega, if_neg (by omega), h]
  simp
theorem take_more (ss : List ByteArray) (k n : Nat) : ss.take k ++ (ss.drop k).take n = ss.take (k + n) := by
  rw [List.take_add]
theorem drop_less (ss : List ByteArray) (k n : Nat) (hk : k < ss.length) : (((ss.take (k + 1)).reverse).take n).reverse ++ ss.drop (k + 1) = ss.drop (k + 1 - n) := by
  rw [List.take_reverse, List.reverse_reverse, List.length_take, show min (k + 1) ss.length = k + 1 by omega]
  have h1 : ss = ss.take (k + 1) ++ ss.drop (k + 1) := (List.take_append_drop _ _).symm
  have h2 : ss.drop (k + 1 - n) = (ss.take (k + 1)).drop (k + 1 - n) ++ ss.drop (k + 1) := by
    conv => lhs; rw [h1]
    rw [List.drop_append_of_le_length (by rw [List.length_take]; omega)]
  rw [h2]
section
variable {a w W w1 w' : World} {lb db mb M N : Nat} {d : DS} {L : LogS} {kv pv : Value} {xs : List (Value × PartL)} {R : List Nat}
/-- Texts are put behind texts of one's own. -/
theorem appSS {W : World} {base : Nat} {v u : Value} {l m : List ByteArray} (hown : W.ownsRow base 9 1 v l.length (strs l)) (hu : Slc W 1 u m.length (strs m)) (hb : base ≤ W.heap.size) (hl : l.length + m.length ≤ 1000000) :
    ∃ A cap w', (Builtin.append_ #[22, 22] 22 #[v, u]).run Tryz.prog W = .ok (.slice A (l.length + m.length) cap) w' ∧ w'.ownsRow base 9 1 (.slice A (l.length + m.length) cap) (l ++ m).length (strs (l ++ m)) ∧ Only v.ownBlock.toList W w' := by
  obtain ⟨A, cap, w', h1, h2, h3, _⟩ := run_app (P := Tryz.prog) (w := W) 22 22 base 9 (.string ⟨#[]⟩) 1 16 Tryz.underlying22 infoSJ rfl (by decide) hown hu (by intro u hu; simp [strs] at hu; obtain ⟨x, -, rfl⟩ := hu; rfl) (by omega) (by unfold maxLen; omega) hb
  refine ⟨A, cap, w', h1, ?_, h3⟩
  have e : strs (l ++ m) = strs l ++ strs m := by simp [strs]
  rw [List.length_append, e]
  exact h2
set_option maxRecDepth 100000 in
set_option maxHeartbeats 600000 in
theorem backs_go (w : World) (hT : Tab w) (v : Value) (ss : List ByteArray) (size n : Int) (hv : Slc w 1 v ss.length (strs ss)) (hz : ∀ s ∈ ss, s.size ≤ maxLen) (hvg : ∀ g, v.ownBlock = some g → g < w.heap.size ∨ ss = []) :
    Calls Tryz.prog 3 #[.int .i64 size, v, .int .i64 n] w fun e w' => e = .returned (.bool true) ∧ Only [] w w' := by
  have HAl := Lib.hid (fun (W : World) (k : Only [] w W) => alive11_any W (hT.only k))
  obtain ⟨VA, vc, rfl⟩ := slc_len hv
  have HSh := Lib.hid (bShort_any (few := 40) (room := 3000) hv hz (by omega) (by omega) (by omega) (by omega))
  by_cases h1 : size < 100
  · have q1 : decide (size < 100) = true := decide_eq_true h1
    go_enter Tryz.func3, Tryz.ntmps3
    go_wp2_with (go_at_call 9; refine (HAl.out _ (Only.refl _ _)).mono ?_; rintro e1 w1 ⟨rfl, k1⟩)
    go_ret
    exact ⟨rfl, k1⟩
  have q1 : decide (size < 100) = false := decide_eq_false h1
  by_cases h2 : size > 2000
  · have q2 : decide (size > 2000) = true := decide_eq_true h2
    go_enter Tryz.func3, Tryz.ntmps3
    go_wp2_with (go_at_call 9; refine (HAl.out _ (Only.refl _ _)).mono ?_; rintro e1 w1 ⟨rfl, k1⟩)
    go_ret
    exact ⟨rfl, k1⟩
  have q2 : decide (size > 2000) = false := decide_eq_false h2
  go_enter Tryz.func3, Tryz.ntmps3
  go_wp2_with fail
  refine HSh.out.mono ?_
  rintro e1 w1 ⟨⟨b, rfl, hb⟩, k1⟩
  cases b with
  | false =>
    go_wp2_with (go_at_call 9; refine (HAl.out _ k1).mono ?_; rintro e2 w2 ⟨rfl, k2⟩)
    go_ret
    exact ⟨rfl, k1.trans k2⟩
  | true =>
    by_cases h3 : n < 1
    · have q3 : decide (n < 1) = true := decide_eq_true h3
      go_wp2_with (go_at_call 9; refine (HAl.out _ k1).mono ?_; rintro e2 w2 ⟨rfl, k2⟩)
      go_ret
      exact ⟨rfl, k1.trans k2⟩
    have q3 : decide (n < 1) = false := decide_eq_false h3
    by_cases h4 : n > 20
    · have q4 : decide (n > 20) = true := decide_eq_true h4
      go_wp2_with (go_at_call 9; refine (HAl.out _ k1).mono ?_; rintro e2 w2 ⟨rfl, k2⟩)
      go_ret
      exact ⟨rfl, k1.trans k2⟩
    have q4 : decide (n > 20) = false := decide_eq_false h4
    obtain ⟨hlen, hsum⟩ := hb rfl
    have hO1 := Lib.hid fun (W : World) (k : Only [] w1 W) (db mb : Nat) (hd : DiskAt W db mb (DS.new 0) (.slice none 0 0)) (hu : w1.heap.size ≤ db ∧ w1.heap.size ≤ mb) => jopen_new (hT.only k1) k hd hu (fun g hg => by cases hg) ⟨#[112]⟩ size (by
      unfold LogS.openArg
      rw [show (⟨#[112]⟩ : ByteArray).size = 1 from rfl, decide_eq_true (by omega : 100 ≤ size), decide_eq_true (by omega : size ≤ 1000000)]
      rfl)
    have hN := Lib.hid (new_any w1 (room := 0) (by omega))
    go_wp2_with fail
    refine hN.out.mono ?_
    rintro e2 w2 ⟨rfl, hd2, k2⟩
    have HO2 := Lib.hid (hO1.out w2 k2 _ _ hd2 (by omega))
    clear hO1 hN hd2
    go_wp2_with fail
    refine HO2.out.mono ?_
    rintro e3 w3 ⟨lb, kv3, rfl, hA3, k3, hlb⟩
    have hW0 : Whole (LogS.new ⟨#[112]⟩ size) (DS.new 0) := whole_new (by decide) (by omega) fine_new rfl
    have HSm := smn_new ⟨#[112]⟩ size (by
      unfold LogS.openArg
      rw [show (⟨#[112]⟩ : ByteArray).size = 1 from rfl, decide_eq_true (by omega : 100 ≤ size), decide_eq_true (by omega : size ≤ 1000000)]
      rfl)
    have hwt := wtS_sum ss
    have hv3 : Slc w3 1 (.slice VA ss.length vc) ss.length (strs ss) := hv.only0 (k1.trans k3)
    have hge := hA3.ge
    have HAp := jappend_any hA3 HSm (DS.new_ok 0) hv3 (fun g hg => (hvg g hg).imp (fun q hm => by
      have := hge g hm
      have := k1.size
      omega) id) (by omega) (by omega) (by omega)
    have HO3 := Lib.hid hA3
    rcases hW0.good.append (l := ss) (by simp [LogS.new]; omega) with ⟨-, L', D', a1, a2, a3, -, a5, -⟩ | ⟨-, a1⟩
    · have hall : L'.all = ss := by rw [a3]; rfl
      have hpl : L'.ps.length ≤ 40 := by simp [LogS.new] at a5; omega
      have hll : L'.len ≤ 40 := by rw [len_all, hall]; omega
      rw [a1] at HAp
      have HAp := Lib.hid HAp
      have HAll := Lib.hid hall
      clear hW0 HSm hA3 hge a1 a2 a3 a5 hall hb hwt
      go_wp2_with fail
      refine HAp.out.mono ?_
      rintro e4 w4 ⟨rfl, k4⟩
      obtain ⟨kv4, pv4, xs4, h4⟩ := k4.on
      have h4a : LogAt w1 w4 lb (w1.heap.size + 1) w1.heap.size D' L' kv4 pv4 xs4 := h4.at_
      have HA := Lib.hid h4a
      have hk4 : Only [] w w4 := k1.trans h4.at_.base
      have hv4 := Lib.hid (hv.only0 hk4)
      have HRg := Lib.hid fun (W : World) (k : Only [] w4 W) (f m : Int) => jrange_any (HA.out.only0 k) (by rw [xs_len HA.out]; omega) (by omega) f m
      have HBk := Lib.hid fun (W : World) (k : Only [] w4 W) (f m : Int) (hf : -9223372036854775808 ≤ f) => jback_any (HA.out.only0 k) (by rw [xs_len HA.out]; omega) (by omega) f m hf
      clear k4 h4 HAp h4a
      obtain ⟨nn, rfl⟩ : ∃ nn : Nat, n = nn := ⟨n.toNat, by omega⟩
      go_wp2_with fail
      go_loopw [12, 14] (fun o i wr => ∃ (at_ : Nat) (A : Option Addr) (cap : Nat), i = .int .i64 at_ ∧ at_ ≤ ss.length + 20 ∧ o = .slice A (min at_ ss.length) cap ∧ wr.ownsRow w4.heap.size 9 1 (.slice A (min at_ ss.length) cap) (min at_ ss.length) (strs (ss.take at_)) ∧ Only [] w4 wr) (fun _ i _ => ss.length - (intOf i).toNat)
      case atStart => exact ⟨0, none, 0, rfl, Nat.zero_le _, by rw [Nat.zero_min], by rw [Nat.zero_min]; exact World.ownsRow_nil _ _ _ _, Only.refl _ _⟩
      case round =>
        obtain ⟨at_, A, cap, rfl, hat, rfl, hown, hO⟩ := hrel
        by_cases hlt : at_ < ss.length
        · have hmin : min at_ ss.length = at_ := by omega
          rw [hmin] at hown ⊢
          have hdec : decide ((at_ : Int) < (ss.length : Int)) = true := decide_eq_true (by omega)
          have HR := HRg.out wr hO at_ nn
          rw [range_at HAll.out] at HR
          have HR := Lib.hid HR
          have hrl : ((ss.drop at_).take nn).length = min nn (ss.length - at_) := by rw [List.length_take, List.length_drop]
          have e9 := IntWalk.i64_in ((at_ : Int) + (nn : Int)) ⟨by omega, by omega⟩
          obtain ⟨rs, hrs⟩ : ∃ rs, (ss.drop at_).take nn = rs := ⟨_, rfl⟩
          have htm := take_more ss at_ nn
          rw [hrs] at HR hrl htm
          have HTm := Lib.hid htm
          have HRl := Lib.hid hrl
          have htl : (ss.take at_).length = at_ := by rw [List.length_take]; omega
          have HTl := Lib.hid htl
          clear hrs htm hrl htl hmin
          go_wp2_with fail
          refine HR.out.mono ?_
          rintro e6 w6 ⟨A6, c6, rfl, hr6, k6⟩
          have hown6 : w6.ownsRow w4.heap.size 9 1 (.slice A at_ cap) (ss.take at_).length (strs (ss.take at_)) := by rw [HTl.out]; exact own_only hown k6 (by simp)
          obtain ⟨A7, c7, w7, hr7, hown7, hO7⟩ := appSS hown6 (Slc.of_own hr6).1 (hO.trans k6).size (by have := HRl.out; have := HTl.out; omega)
          rw [HTl.out] at hr7 hown7
          have hO8 : Only [] w4 w7 := (hO.trans k6).step hO7 (fun g hg => .inr (by have h9 := (hown6.lt g (by simpa using hg)).1; exact h9))
          have HR7 := Lib.hid hr7
          rw [HTm.out] at hown7
          have hl7 : (ss.take (at_ + nn)).length = min (at_ + nn) ss.length := List.length_take
          have hl8 : at_ + rs.length = min (at_ + nn) ss.length := by have := HRl.out; omega
          rw [hl7, hl8] at hown7
          rw [hl8] at HR7
          have HW7 := Lib.hid hown7
          clear hown hown6 hr6 hr7 hO7 hown7 hl7 hl8
          go_wp2_with (at_builtin; refine Lib.wpList_append_run _ rfl (.tmp 76) (.tmp 80) 22 22 rfl _ _ rfl rfl _ _ HR7.out ?_)
          exact ⟨⟨at_ + nn, A7, c7, by simp, by omega, rfl, HW7.out, hO8⟩, by simp [intOf]; omega⟩
        · have hmin : min at_ ss.length = ss.length := by omega
          have htk : ss.take at_ = ss := List.take_of_length_le (by omega)
          rw [hmin, htk] at hown
          rw [hmin]
          have hdec : decide ((at_ : Int) < (ss.length : Int)) = false := decide_eq_false (by omega)
          have HA6 := Lib.hid (Slc.of_own hown).1
          have e9 := IntWalk.i64_in ((ss.length : Int) - 1) ⟨by omega, by omega⟩
          obtain ⟨W6, rfl⟩ : ∃ W6, W6 = wr := ⟨wr, rfl⟩
          clear hown hmin htk
          go_wp2_with fail
          go_loopw [13, 15] (fun o i wr => ∃ (t : Nat) (z : Int) (B : Option Addr) (bc : Nat), i = .int .i64 z ∧ Hid (t = (z + 1).toNat ∧ -21 ≤ z ∧ z < ss.length) ∧ o = .slice B (ss.length - t) bc ∧ Slc wr 1 (.slice B (ss.length - t) bc) (ss.length - t) (strs (ss.drop t)) ∧ Only [] W6 wr) (fun _ i _ => (intOf i + 1).toNat)
          case atStart => exact ⟨ss.length, (ss.length : Int) - 1, none, 0, rfl, ⟨by omega, by omega, by omega⟩, by rw [Nat.sub_self], by rw [Nat.sub_self, List.drop_length]; exact Slc.nil _ 1, Only.refl _ _⟩
          case round =>
            obtain ⟨t, z, B, bc, rfl, hz2, rfl, hB, hO2⟩ := hrel
            by_cases hz0 : z ≥ 0
            · have hdec2 : decide (z ≥ 0) = true := decide_eq_true hz0
              obtain ⟨kz, hkz⟩ : ∃ kz : Nat, z = kz := ⟨z.toNat, by omega⟩
              have htz : t = kz + 1 := by have := hz2.out; omega
              have hkl : kz < ss.length := by have := hz2.out; omega
              have HB := HBk.out wr (hO.trans hO2) z nn (by omega)
              rw [hkz, back_at HAll.out _ _ hkl] at HB
              have hdl := drop_less ss kz nn hkl
              obtain ⟨ps, hps⟩ : ∃ ps, ((ss.take (kz + 1)).reverse).take nn = ps := ⟨_, rfl⟩
              have hpl : ps.length = min nn (kz + 1) := by rw [← hps, List.length_take, List.length_reverse, List.length_take]; omega
              rw [hps] at HB hdl
              rw [← htz] at hdl
              have HB := Lib.hid HB
              have HDl := Lib.hid hdl
              have HPl := Lib.hid hpl
              have HKz := Lib.hid hkz
              have HTz := Lib.hid htz
              have e10 := IntWalk.i64_in (z - (nn : Int)) ⟨by have := hz2.out; omega, by omega⟩
              rw [← hkz] at HB
              have hpb : ps.length ≤ 20 := by omega
              have hsl : ss.length - t ≤ 40 := by omega
              have hdrl : (ss.drop t).length = ss.length - t := List.length_drop
              have HDr := Lib.hid hdrl
              clear hdl hps hpl hkz htz hdrl
              go_wp2_with fail
              refine HB.out.mono ?_
              rintro e8 w8 ⟨P8, c8, rfl, hr8, k8⟩
              have hp8 := (Slc.of_own hr8).1
              obtain ⟨P8', c8', hv8, -, -, hc8⟩ := hp8.openS
              injection hv8 with y1 y2 y3
              subst y1 y3
              have hB8 := hB.only0 k8
              clear hr8 hp8 hB y2
              go_wp2_with fail
              go_loopw [13, 17] (fun o i wr => ∃ (j : Nat) (B : Option Addr) (bc : Nat), i = .int .i64 j ∧ j ≤ ps.length ∧ o = .slice B (j + (ss.length - t)) bc ∧ Slc wr 1 (.slice B (j + (ss.length - t)) bc) (j + (ss.length - t)) (strs ((ps.take j).reverse ++ ss.drop t)) ∧ Only [] w8 wr) (fun _ i _ => ps.length - (intOf i).toNat)
              case atStart => exact ⟨0, B, bc, rfl, Nat.zero_le _, by rw [Nat.zero_add], by rw [Nat.zero_add]; exact hB8, Only.refl _ _⟩
              case round =>
                obtain ⟨j, B, bc, rfl, hj, rfl, hB, hO3⟩ := hrel
                by_cases hjl : j < ps.length
                · have hdec3 : decide ((j : Int) < (ps.length : Int)) = true := decide_eq_true (by omega)
                  obtain ⟨pb, po, rfl, hpbl, hpc⟩ := hc8 j hjl
                  have hpc := (hO3.cell (p := ⟨pb, po + j, none⟩) hpbl (by simp)).trans hpc
                  have htk : ps.take (j + 1) = ps.take j ++ [ps[j]] := List.take_succ_eq_append_getElem hjl
                  obtain ⟨x, hx⟩ : ∃ x, ps[j] = x := ⟨_, rfl⟩
                  rw [hx] at hpc htk
                  have hrev : (ps.take (j + 1)).reverse ++ ss.drop t = [x] ++ ((ps.take j).reverse ++ ss.drop t) := by rw [htk]; simp
                  have hll : ((ps.take j).reverse ++ ss.drop t).length = j + (ss.length - t) := by rw [List.length_append, List.length_reverse, List.length_take, HDr.out]; omega
                  have hown : (wr.alloc (.cells #[.string x] 9)).ownsRow w8.heap.size 9 1 (.slice (some ⟨wr.heap.size, 0, none⟩) 1 1) ([x] : List ByteArray).length (strs [x]) := World.ownsRow_lit wr #[.string x] 1 hO3.size (by simp [maxLen]) rfl
                  have hBa : Slc (wr.alloc (.cells #[.string x] 9)) 1 (.slice B (j + (ss.length - t)) bc) ((ps.take j).reverse ++ ss.drop t).length (strs ((ps.take j).reverse ++ ss.drop t)) := by rw [hll]; exact hB.only0 ((Only.refl _ _).alloc _)
                  obtain ⟨A9, c9, w9, hr9, hown9, hO9⟩ := appSS hown hBa (by have := hO3.size; simp; omega) (by rw [hll]; show 1 + _ ≤ _; omega)
                  rw [hll, show ([x] : List ByteArray).length = 1 from rfl] at hr9 hown9
                  have hgx : ∀ g ∈ (Value.slice (some ⟨wr.heap.size, 0, none⟩) 1 1).ownBlock.toList, w8.heap.size ≤ g := fun g hg => by
                    have h8 : g = wr.heap.size := by simpa [Value.ownBlock] using hg
                    have := hO3.size
                    omega
                  have hO10 : Only [] w8 w9 := (hO3.alloc _).step hO9 (fun g hg => .inr (hgx g hg))
                  rw [← hrev] at hown9
                  have hn9 : 1 + (j + (ss.length - t)) = j + 1 + (ss.length - t) := by omega
                  have hl9 : ((ps.take (j + 1)).reverse ++ ss.drop t).length = j + 1 + (ss.length - t) := by rw [hrev, List.length_append, hll]; simp; omega
                  have hs9 := (Slc.of_own hown9).1
                  rw [hn9] at hr9
                  rw [hn9, hl9] at hs9
                  have HR9 := Lib.hid hr9
                  have HS9 := Lib.hid hs9
                  clear hx htk hrev hll hown hBa hr9 hown9 hO9 hn9 hl9 hs9 hB
                  go_wp2_with (at_builtin; refine Lib.wpList_append_run _ rfl (.tmp 104) (.tmp 105) 22 22 rfl _ _ rfl rfl _ _ HR9.out ?_)
                  exact ⟨⟨j + 1, A9, c9, by simp, hjl, rfl, HS9.out, hO10⟩, by simp [intOf]; omega⟩
                · have hje : j = ps.length := by omega
                  subst hje
                  have hdec3 : decide ((ps.length : Int) < (ps.length : Int)) = false := decide_eq_false (by omega)
                  rw [List.take_length, HDl.out] at hB
                  have hq1 := HPl.out
                  have hq2 := HTz.out
                  have hq3 := HKz.out
                  have hq4 : ps.length + (ss.length - t) = ss.length - (t - nn) := by omega
                  rw [hq4] at hB ⊢
                  have HB9 := Lib.hid hB
                  have hO11 : Only [] W6 wr := (hO2.trans k8).trans hO3
                  clear hq1 hq2 hq3 hq4 hB hc8
                  go_wp2
                  have hq2 := HTz.out
                  have hq3 := HKz.out
                  have hq5 := hz2.out
                  exact ⟨⟨t - nn, z - nn, B, bc, rfl, ⟨by omega, by omega, by omega⟩, rfl, HB9.out, hO11⟩, by simp [intOf]; omega⟩
            · have hdec2 : decide (z ≥ 0) = false := decide_eq_false hz0
              have ht0 : t = 0 := by have := hz2.out; omega
              subst ht0
              rw [List.drop_zero, Nat.sub_zero] at hB
              have hAf := Lib.hid (HA6.out.only0 hO2)
              have hBf := Lib.hid hB
              have hk9 : Only [] w wr := (hk4.trans hO).trans hO2
              have hvf := Lib.hid (hv.only0 hk9)
              clear hB HA6 hv4
              go_wp2_with (first
                | (go_at_call 9; refine (HAl.out _ hk9).mono ?_; rintro e5 w5 ⟨rfl, k5⟩; have HS1 := Lib.hid (sameT_refl (hAf.out.only0 k5) (hvf.out.only0 k5)))
                | (go_at_call 16; refine HS1.out.mono ?_; rintro e6 w6 ⟨rfl, k6⟩; have HS2 := Lib.hid (sameT_refl (hBf.out.only0 (k5.trans k6)) (hvf.out.only0 (k5.trans k6))); clear HS1)
                | (go_at_call 16; refine HS2.out.mono ?_; rintro e7 w7 ⟨rfl, k7⟩))
              go_ret
              exact ⟨rfl, ((hk9.trans k5).trans k6).trans k7⟩
    · rw [a1] at HAp
      have HAp := Lib.hid HAp
      clear hW0 HSm hA3 hge a1 hb hwt
      go_wp2_with fail
      refine HAp.out.mono ?_
      rintro e4 w4 ⟨rfl, k4⟩
      obtain ⟨kv4, pv4, xs4, h4⟩ := k4.on
      have HA := Lib.hid h4.at_
      have hk4 : Only [] w w4 := k1.trans h4.at_.base
      have HLn := Lib.hid fun (W : World) (k : Only [] w4 W) => jlen_any (HA.out.only0 k) (by rw [xs_len HA.out]; simp [LogS.new]) (by show (0 : Int) ≤ _; omega)
      have hl0 : (LogS.new ⟨#[112]⟩ size).len = 0 := rfl
      rw [hl0] at HLn
      clear k4 h4 HAp
      go_wp2_with (first
        | (go_at_call 9; refine (HAl.out _ hk4).mono ?_; rintro e5 w5 ⟨rfl, k5⟩)
        | (go_at_call 13; refine (HLn.out _ k5).mono ?_; rintro e6 w6 ⟨rfl, k6⟩))
      go_ret
      exact ⟨rfl, (hk4.trans k5).trans k6⟩
end
end Go.Proofs.YtfjkjndpndjfpaaGreatDoor
/- Opening a law's arguments: slices of strings, of integers and of structs as plain lists. -/
set_option linter.unusedVariables false
set_option linter.unusedSimpArgs false
namespace Go.Proofs.YtfjkjndpndjfpaaGreatDoor
open Go.ChangeShapes Go.WideShapes Go.ChangeAt Go.RowKit Go.WideElems Go.ChangeMaps Go.Deep
theorem own : ownKnob Tryz.prog.godebug = none := by kernel_rfl
theorem laidOut : laidOutB Tryz.prog = true := by kernel_rfl
theorem addr_add (b off j : Nat) : (⟨b, off, none⟩ : Addr).add j = ⟨b, off + j, none⟩ := by
  cases j <;> simp [Addr.add]
section
variable {H : Type} {enc : TypeId × Value → H} {P : Program} {W : World} {base : Nat} {t e : TypeId} {v : Value} {d : DataW H} {ps : List MemPlace}
theorem open_strs (ht : P.underlying t = some (.slice e)) (he : P.underlying e = some .string) (hc : P.cellsOf e = 1)
    (hval : Value.okWide P W .any base t v) (hd : DataW.Trod enc P W 0 (fun _ => true) true t v d ps) (hlt : ∀ x ∈ ps, x.block < W.heap.size) :
    ∃ ss : List ByteArray, Slc W 1 v ss.length (strs ss) ∧ (∀ s ∈ ss, s.size ≤ maxLen) ∧ ∀ g, v.ownBlock = some g → g < W.heap.size ∨ ss = [] := by
  obtain ⟨fuel, hf⟩ := hd
  obtain ⟨a0, len, cap, rfl⟩ := okWide_slice ht hval
  rcases open_strings ht he hc hf with ⟨hcs, hx⟩ | ⟨a, len', cap', ss, hcs, _, hl, hm, hz, hx, hcell, hwz⟩
  · simp [Value.cells] at hcs
    obtain ⟨rfl, rfl, rfl⟩ := hcs
    exact ⟨[], Slc.nil W 1, by simp, fun g hg => .inr rfl⟩
  · simp [Value.cells] at hcs
    obtain ⟨rfl, rfl, rfl⟩ := hcs
    simp only [if_true] at hz
    obtain ⟨b, off, spot⟩ := a
    have htl : (ss.take len).length = len := by simp; omega
    have hb : 0 < len → b < W.heap.size ∧ spot = none := by
      intro h0
      have := hcell 0 (by omega)
      exact ⟨block_lt_of_cell this, by simpa [Addr.add] using World.cell?_spot this⟩
    refine ⟨ss.take len, ?_, fun s hs => hwz s (List.mem_of_mem_take hs), fun g hg => ?_⟩
    · rw [htl]
      refine ⟨_, _, rfl, by simp [strs]; omega, hl, hm, fun h0 => ?_⟩
      obtain ⟨q1, rfl⟩ := hb h0
      refine ⟨b, off, rfl, q1, fun j hj => ?_⟩
      have hj' : j < len := by simp [strs] at hj; omega
      have := hcell j (by omega)
      rw [addr_add] at this
      rw [this]
      simp [strs, hj', List.getD]
      rw [List.getElem?_eq_getElem (by omega)]
      rfl
    · by_cases h0 : 0 < len
      · have e : g = b := by
          have : some b = some g := hg
          simpa using this.symm
        rw [e]; exact .inl (hb h0).1
      · right
        have : len = 0 := by omega
        rw [this]; simp
theorem open_intz (ht : P.underlying t = some (.slice e)) (he : P.underlying e = some (.int .i64)) (hc : P.cellsOf e = 1)
    (hval : Value.okWide P W .any base t v) (hd : DataW.Trod enc P W 0 (fun _ => true) true t v d ps) (hlt : ∀ x ∈ ps, x.block < W.heap.size) :
    ∃ zs : List Int, Slc W 1 v zs.length (ints zs) ∧ (∀ z ∈ zs, (Lit.int .i64 z).wf = true) ∧ ∀ g, v.ownBlock = some g → g < W.heap.size ∨ zs = [] := by
  obtain ⟨fuel, hf⟩ := hd
  obtain ⟨a0, len, cap, rfl⟩ := okWide_slice ht hval
  rcases open_ints ht he hc hf with ⟨hcs, hx⟩ | ⟨a, len', cap', ss, hcs, _, hl, hm, hz, hx, hcell, hwz⟩
  · simp [Value.cells] at hcs
    obtain ⟨rfl, rfl, rfl⟩ := hcs
    exact ⟨[], Slc.nil W 1, by simp, fun g hg => .inr rfl⟩
  · simp [Value.cells] at hcs
    obtain ⟨rfl, rfl, rfl⟩ := hcs
    simp only [if_true] at hz
    obtain ⟨b, off, spot⟩ := a
    have htl : (ss.take len).length = len := by simp; omega
    have hb : 0 < len → b < W.heap.size ∧ spot = none := by
      intro h0
      have := hcell 0 (by omega)
      exact ⟨block_lt_of_cell this, by simpa [Addr.add] using World.cell?_spot this⟩
    refine ⟨ss.take len, ?_, fun s hs => hwz s (List.mem_of_mem_take hs), fun g hg => ?_⟩
    · rw [htl]
      refine ⟨_, _, rfl, by simp [ints]; omega, hl, hm, fun h0 => ?_⟩
      obtain ⟨q1, rfl⟩ := hb h0
      refine ⟨b, off, rfl, q1, fun j hj => ?_⟩
      have hj' : j < len := by simp [ints] at hj; omega
      have := hcell j (by omega)
      rw [addr_add] at this
      rw [this]
      simp [ints, hj', List.getD]
      rw [List.getElem?_eq_getElem (by omega)]
      rfl
    · by_cases h0 : 0 < len
      · have e : g = b := by
          have : some b = some g := hg
          simpa using this.symm
        rw [e]; exact .inl (hb h0).1
      · right
        have : len = 0 := by omega
        rw [this]; simp
end
section
variable {H : Type} {enc : TypeId × Value → H} {P : Program} {W : World} {t e : TypeId}
theorem list_of {E : Type} (Q : Nat → E → Prop) : ∀ len, (∀ i, i < len → ∃ o, Q i o) → ∃ os : List E, os.length = len ∧ ∀ i (h : i < os.length), Q i os[i]
  | 0, _ => ⟨[], rfl, fun i h => absurd h (Nat.not_lt_zero _)⟩
  | len + 1, h => by
    obtain ⟨os, h1, h2⟩ := list_of Q len (fun i hi => h i (by omega))
    obtain ⟨o, ho⟩ := h len (by omega)
    refine ⟨os ++ [o], by simp [h1], fun i hi => ?_⟩
    by_cases hl : i < os.length
    · rw [List.getElem_append_left hl]; exact h2 i hl
    · have : i = len := by simp at hi; omega
      subst this
      rw [List.getElem_append_right (by omega)]
      simpa [h1] using ho
/-- The slice whose cells read so, as a list of its elements. -/
theorem open_rows_at {fuel k : Nat} {cs : List Value} {x : DataW H × List MemPlace} (ht : P.underlying t = some (.slice e)) (hc : P.cellsOf e = k) (hk : 0 < k) {E : Type} (cells : E → List Value) (okE : E → Prop)
    (hel : ∀ n cs x, DataW.trod enc P W 0 (fun _ => true) true n e cs = some x → (∀ y ∈ x.2, y.block < W.heap.size) → ∃ o, cs = cells o ∧ okE o)
    (hd : DataW.trod enc P W 0 (fun _ => true) true fuel t cs = some x) (hlt : ∀ y ∈ x.2, y.block < W.heap.size) :
    ∃ (v : Value) (os : List E), cs = [v] ∧ Slc W k v os.length (os.flatMap cells) ∧ (∀ o ∈ os, okE o ∧ (cells o).length = k) ∧ ∀ g, v.ownBlock = some g → g < W.heap.size ∨ os = [] := by
  rcases open_slice ht hd with ⟨hcs, hx⟩ | ⟨a, len, cap, m, n, D, Pl, hcs, _, hl, hm, hmm, hx, hel0⟩
  · exact ⟨_, [], hcs, Slc.nil W k, by simp, fun g hg => .inr rfl⟩
  · simp only [if_true] at hmm
    subst hmm
    have hpl : ∀ i, i < m → ∀ y ∈ Pl i, y.block < W.heap.size := fun i hi y hy => hlt y (by
      rw [hx]
      exact List.mem_append_right _ (List.mem_flatMap.2 ⟨i, List.mem_range.2 hi, hy⟩))
    obtain ⟨os, h1, h2⟩ := list_of (E := E) (fun i o => W.cells? 0 (a.add (i * P.cellsOf e)) (P.cellsOf e) = some (cells o) ∧ okE o) len (fun i hi => by
      obtain ⟨cs', hc', ht'⟩ := hel0 i (by omega)
      obtain ⟨o, rfl, ho⟩ := hel n cs' _ ht' (hpl i (by omega))
      exact ⟨o, hc', ho⟩)
    have hlen : ∀ o ∈ os, (cells o).length = k := by
      intro o ho
      obtain ⟨i, hi, rfl⟩ := List.getElem_of_mem ho
      have := (World.cells?_some (h2 i hi).1).2.1
      rw [this, hc]
    obtain ⟨b, off, spot⟩ := a
    have hcell : ∀ i (hi : i < os.length) r, r < k → W.cell? (((⟨b, off, spot⟩ : Addr).add (i * k)).add r) = (cells os[i])[r]? := by
      intro i hi r hr
      have := (World.cells?_some (h2 i hi).1).2.2 r (by rw [hc]; exact hr)
      rwa [hc] at this
    have hb : 0 < len → b < W.heap.size ∧ spot = none := by
      intro h0
      have h00 := hcell 0 (by omega) 0 hk
      have hs : (cells os[0])[0]? = some ((cells os[0])[0]'(by rw [hlen _ (List.getElem_mem _)]; exact hk)) := List.getElem?_eq_getElem _
      rw [hs] at h00
      generalize (cells os[0])[0]'(by rw [hlen _ (List.getElem_mem _)]; exact hk) = u at h00
      have h01 : W.cell? ⟨b, off, spot⟩ = some u := by simpa [Addr.add] using h00
      exact ⟨block_lt_of_cell h01, by simpa using World.cell?_spot h01⟩
    refine ⟨_, os, hcs, ?_, fun o ho => ⟨?_, hlen o ho⟩, fun g hg => ?_⟩
    · refine ⟨_, _, by rw [h1], by rw [flat_len cells k os hlen], by omega, hm, fun h0 => ?_⟩
      obtain ⟨q1, rfl⟩ := hb (by omega)
      refine ⟨b, off, rfl, q1, fun j hj => ?_⟩
      rw [flat_len cells k os hlen] at hj
      have hi : j / k < os.length := Nat.div_lt_of_lt_mul (by rw [Nat.mul_comm]; exact hj)
      have hr : j % k < k := Nat.mod_lt _ hk
      have hjk : j / k * k + j % k = j := by rw [Nat.mul_comm]; exact Nat.div_add_mod j k
      have := hcell (j / k) hi (j % k) hr
      rw [addr_add, addr_add] at this
      have e2 := flat_get cells k os hlen (j / k) (j % k) hi hr
      rw [hjk] at e2
      rw [e2, ← this]
      congr 2
      omega
    · obtain ⟨i, hi, rfl⟩ := List.getElem_of_mem ho
      exact (h2 i hi).2
    · by_cases h0 : 0 < len
      · have e : g = b := by
          have : some b = some g := hg
          simpa using this.symm
        rw [e]; exact .inl (hb h0).1
      · right
        exact List.eq_nil_of_length_eq_zero (by omega)
theorem open_rows {k : Nat} {base : Nat} {v : Value} {d : DataW H} {ps : List MemPlace} (ht : P.underlying t = some (.slice e)) (hc : P.cellsOf e = k) (hk : 0 < k) {E : Type} (cells : E → List Value) (okE : E → Prop)
    (hel : ∀ n cs x, DataW.trod enc P W 0 (fun _ => true) true n e cs = some x → (∀ y ∈ x.2, y.block < W.heap.size) → ∃ o, cs = cells o ∧ okE o)
    (hval : Value.okWide P W .any base t v) (hd : DataW.Trod enc P W 0 (fun _ => true) true t v d ps) (hlt : ∀ x ∈ ps, x.block < W.heap.size) :
    ∃ os : List E, Slc W k v os.length (os.flatMap cells) ∧ (∀ o ∈ os, okE o ∧ (cells o).length = k) ∧ ∀ g, v.ownBlock = some g → g < W.heap.size ∨ os = [] := by
  obtain ⟨fuel, hf⟩ := hd
  obtain ⟨a0, len, cap, rfl⟩ := okWide_slice ht hval
  obtain ⟨v', os, h1, h2, h3, h4⟩ := open_rows_at ht hc hk cells okE hel hf hlt
  have : v' = .slice a0 len cap := by
    simp [Value.cells] at h1
    exact h1.symm
  subst this
  exact ⟨os, h2, h3, h4⟩
end
end Go.Proofs.YtfjkjndpndjfpaaGreatDoor
/- LogBacks: the walk in the row's form. -/
set_option linter.unusedVariables false
namespace Go.Proofs.YtfjkjndpndjfpaaGreatDoor
open Go Go.RowKit Go.Sort
theorem backsW (size : Int) (hs : (Lit.int .i64 size).wf = true) (v : Value) (ss : List ByteArray) (n : Int) (hn : (Lit.int .i64 n).wf = true) (W : World) (hT : Tab W)
    (hv : Slc W 1 v ss.length (strs ss)) (hz : ∀ s ∈ ss, s.size ≤ maxLen) (hg : ∀ g, v.ownBlock = some g → g < W.heap.size ∨ ss = []) :
    Calls Tryz.prog 3 #[.int .i64 size, v, .int .i64 n] W fun e w' => e = .returned (.bool true) ∧ Only [] W w' :=
  backs_go W hT v ss size n hv hz hg
end Go.Proofs.YtfjkjndpndjfpaaGreatDoor
/- LogNone: of a nil and of a zero log. -/
set_option linter.unusedVariables false
set_option linter.unusedSimpArgs false
namespace Go.Proofs.YtfjkjndpndjfpaaGreatDoor
open Go Go.RowKit Go.Sort
section
variable {a w W w1 w' : World} {lb : Nat}
theorem jopen_nilD (p : ByteArray) (size : Int) : Calls Tryz.prog 11 #[.pointer none, .string p, .int .i64 size] w fun e w' => e = .returned (.tuple #[.pointer none, .int .i64 1]) ∧ w' = w := by
  go_enter Tryz.func11, Tryz.ntmps11
  go_wp2
  go_ret2
  exact ⟨rfl, rfl⟩
theorem jopen_short (db : Nat) (size : Int) : Calls Tryz.prog 11 #[.pointer (some ⟨db, 0, none⟩), .string ⟨#[]⟩, .int .i64 size] w fun e w' => e = .returned (.tuple #[.pointer none, .int .i64 1]) ∧ w' = w := by
  go_enter Tryz.func11, Tryz.ntmps11
  go_wp2
  go_ret2
  exact ⟨rfl, rfl⟩
theorem jappend_nil (v : Value) : Calls Tryz.prog 12 #[.pointer none, v] w fun e w' => e = .returned (.tuple #[.int .i64 0, .int .i64 1]) ∧ w' = w := by
  go_enter Tryz.func12, Tryz.ntmps12
  go_wp2_with (go_at_call 37; refine jmay_nil.mono ?_; rintro e1 w1 ⟨rfl, rfl⟩)
  go_ret2
  exact ⟨rfl, rfl⟩
theorem jmay_zero (h : w.cell? ⟨lb, 0, none⟩ = some (.pointer none)) : Calls Tryz.prog 37 #[.pointer (some ⟨lb, 0, none⟩)] w fun e w' => e = .returned (.int .i64 1) ∧ w' = w := by
  go_enter Tryz.func37, Tryz.ntmps37
  go_wp2
  go_ret
  exact ⟨rfl, rfl⟩
theorem jappend_zero (h : w.cell? ⟨lb, 0, none⟩ = some (.pointer none)) (v : Value) : Calls Tryz.prog 12 #[.pointer (some ⟨lb, 0, none⟩), v] w fun e w' => e = .returned (.tuple #[.int .i64 0, .int .i64 1]) ∧ w' = w := by
  have H := Lib.hid (jmay_zero h)
  go_enter Tryz.func12, Tryz.ntmps12
  go_wp2_with (go_at_call 37; refine H.out.mono ?_; rintro e1 w1 ⟨rfl, rfl⟩)
  go_ret2
  exact ⟨rfl, rfl⟩
theorem jrec_nil (n : Int) : Calls Tryz.prog 28 #[.pointer none, .int .i64 n] w fun e w' => e = .returned (.tuple #[.string ⟨#[]⟩, .int .i64 1]) ∧ w' = w := by
  go_enter Tryz.func28, Tryz.ntmps28
  go_wp2
  go_ret2
  exact ⟨rfl, rfl⟩
theorem jsync_nil : Calls Tryz.prog 17 #[.pointer none] w fun e w' => e = .returned (.int .i64 1) ∧ w' = w := by
  go_enter Tryz.func17, Tryz.ntmps17
  go_wp2_with (go_at_call 37; refine jmay_nil.mono ?_; rintro e1 w1 ⟨rfl, rfl⟩)
  go_ret
  exact ⟨rfl, rfl⟩
theorem jtruncate_nil (n : Int) : Calls Tryz.prog 22 #[.pointer none, .int .i64 n] w fun e w' => e = .returned (.int .i64 1) ∧ w' = w := by
  go_enter Tryz.func22, Tryz.ntmps22
  go_wp2_with (go_at_call 37; refine jmay_nil.mono ?_; rintro e1 w1 ⟨rfl, rfl⟩)
  go_ret
  exact ⟨rfl, rfl⟩
theorem jmark_nil (n : Int) : Calls Tryz.prog 18 #[.pointer none, .int .i64 n] w fun e w' => e = .returned (.int .i64 1) ∧ w' = w := by
  go_enter Tryz.func18, Tryz.ntmps18
  go_wp2_with (go_at_call 37; refine jmay_nil.mono ?_; rintro e1 w1 ⟨rfl, rfl⟩)
  go_ret
  exact ⟨rfl, rfl⟩
set_option maxRecDepth 100000 in
theorem jrewrite_nil (n : Int) (v : Value) : Calls Tryz.prog 25 #[.pointer none, .int .i64 n, v] w fun e w' => e = .returned (.int .i64 1) ∧ w' = w := by
  go_enter Tryz.func25, Tryz.ntmps25
  go_wp2_with (go_at_call 37; refine jmay_nil.mono ?_; rintro e1 w1 ⟨rfl, rfl⟩)
  go_ret
  exact ⟨rfl, rfl⟩
theorem jchunkL_nil : Calls Tryz.prog 23 #[.pointer none] w fun e w' => e = .returned (.slice none 0 0) ∧ w' = w := by
  go_enter Tryz.func23, Tryz.ntmps23
  go_wp2
  go_ret
  exact ⟨rfl, rfl⟩
theorem jlen_nil : Calls Tryz.prog 13 #[.pointer none] w fun e w' => e = .returned (.int .i64 0) ∧ w' = w := by
  go_enter Tryz.func13, Tryz.ntmps13
  go_wp2_with (go_at_call 23; refine jchunkL_nil.mono ?_; rintro e1 w1 ⟨rfl, rfl⟩)
  go_loop [3, 9] (fun n i => n = .int .i64 0 ∧ i = .int .i64 0) (fun _ _ => 0)
  case atStart => exact ⟨rfl, rfl⟩
  case round =>
    obtain ⟨rfl, rfl⟩ := hrel
    go_wp2
    go_ret
    exact ⟨rfl, rfl⟩
theorem jchunkL_zero (h : w.cell? ⟨lb, 3, none⟩ = some (.slice none 0 0)) : Calls Tryz.prog 23 #[.pointer (some ⟨lb, 0, none⟩)] w fun e w' => e = .returned (.slice none 0 0) ∧ w' = w := by
  go_enter Tryz.func23, Tryz.ntmps23
  go_wp2
  go_loop [3, 13] (fun o i => o = .slice none 0 0 ∧ i = .int .i64 0) (fun _ _ => 0)
  case atStart => exact ⟨rfl, rfl⟩
  case round =>
    obtain ⟨rfl, rfl⟩ := hrel
    go_wp2
    go_ret
    exact ⟨rfl, rfl⟩
theorem jlen_zero (h : w.cell? ⟨lb, 3, none⟩ = some (.slice none 0 0)) : Calls Tryz.prog 13 #[.pointer (some ⟨lb, 0, none⟩)] w fun e w' => e = .returned (.int .i64 0) ∧ w' = w := by
  have H := Lib.hid (jchunkL_zero h)
  go_enter Tryz.func13, Tryz.ntmps13
  go_wp2_with (go_at_call 23; refine H.out.mono ?_; rintro e1 w1 ⟨rfl, rfl⟩)
  go_loop [3, 9] (fun n i => n = .int .i64 0 ∧ i = .int .i64 0) (fun _ _ => 0)
  case atStart => exact ⟨rfl, rfl⟩
  case round =>
    obtain ⟨rfl, rfl⟩ := hrel
    go_wp2
    go_ret
    exact ⟨rfl, rfl⟩
theorem jmarked_nil : Calls Tryz.prog 19 #[.pointer none] w fun e w' => e = .returned (.int .i64 0) ∧ w' = w := by
  go_enter Tryz.func19, Tryz.ntmps19
  go_wp2
  go_ret
  exact ⟨rfl, rfl⟩
theorem jbroken_nil : Calls Tryz.prog 30 #[.pointer none] w fun e w' => e = .returned (.bool false) ∧ w' = w := by
  go_enter Tryz.func30, Tryz.ntmps30
  go_wp2
  go_ret
  exact ⟨rfl, rfl⟩
theorem jrange_nil (n : Int) : Calls Tryz.prog 14 #[.pointer none, .int .i64 0, .int .i64 n] w fun e w' => e = .returned (.slice none 0 0) ∧ w' = w := by
  have H := Lib.hid (fun W : World => jlen_nil (w := W))
  go_enter Tryz.func14, Tryz.ntmps14
  go_wp2
  go_loopw [7, 8] (fun o i wr => o = .slice none 0 0 ∧ i = .int .i64 0 ∧ wr = w) (fun _ _ _ => 0)
  case atStart => exact ⟨rfl, rfl, rfl⟩
  case round =>
    obtain ⟨rfl, rfl, rfl⟩ := hrel
    go_wp2_with (go_at_call 13; refine (H.out _).mono ?_; rintro e1 w1 ⟨rfl, rfl⟩)
    go_ret
    exact ⟨rfl, rfl⟩
theorem jback_nil (n m : Int) : Calls Tryz.prog 15 #[.pointer none, .int .i64 n, .int .i64 m] w fun e w' => e = .returned (.slice none 0 0) ∧ w' = w := by
  have H := Lib.hid (fun W : World => jlen_nil (w := W))
  obtain ⟨z, hz⟩ : ∃ z, min n (-1) = z := ⟨_, rfl⟩
  have hd : decide (z ≥ 0) = false := decide_eq_false (by omega)
  go_enter Tryz.func15, Tryz.ntmps15
  go_wp2_with (go_at_call 13; refine (H.out _).mono ?_; rintro e1 w1 ⟨rfl, rfl⟩)
  go_loopw [7, 8] (fun o i wr => o = .slice none 0 0 ∧ i = .int .i64 z ∧ wr = w1) (fun _ _ _ => 0)
  case atStart => exact ⟨rfl, rfl, rfl⟩
  case round =>
    obtain ⟨rfl, rfl, rfl⟩ := hrel
    go_wp2
    go_ret
    exact ⟨rfl, rfl⟩
end
end Go.Proofs.YtfjkjndpndjfpaaGreatDoor
/- LogNone: of a nil and of a zero log; the walk. -/
set_option linter.unusedVariables false
set_option linter.unusedSimpArgs false
namespace Go.Proofs.YtfjkjndpndjfpaaGreatDoor
open Go Go.RowKit Go.Sort
set_option maxRecDepth 100000 in
set_option maxHeartbeats 4000000 in
theorem none_go (w : World) (hT : Tab w) (n : Int) (s : ByteArray) :
    Calls Tryz.prog 7 #[.int .i64 n, .string s] w fun e w' => e = .returned (.bool true) ∧ Only [] w w' := by
  have HAl := Lib.hid (fun (W : World) (k : Only [] w W) => alive11_any W (hT.only k))
  by_cases h1 : (s.size : Int) > 300
  · have q1 : decide ((s.size : Int) > 300) = true := decide_eq_true h1
    go_enter Tryz.func7, Tryz.ntmps7
    go_wp2_with (go_at_call 9; refine (HAl.out _ (Only.refl _ _)).mono ?_; rintro e1 w1 ⟨rfl, k1⟩)
    go_ret
    exact ⟨rfl, k1⟩
  have q1 : decide ((s.size : Int) > 300) = false := decide_eq_false h1
  have HO1 := Lib.hid fun (W : World) => jopen_nilD (w := W) ⟨#[112]⟩ 200
  have HN := Lib.hid fun (W : World) => new_any W (room := 0) (by omega)
  have HO2 := Lib.hid fun (W : World) (db : Nat) => jopen_short (w := W) db 200
  have HA1 := Lib.hid fun (W : World) (v : Value) => jappend_nil (w := W) v
  have HG := Lib.hid fun (W : World) => jrec_nil (w := W) n
  have HSy := Lib.hid fun (W : World) => jsync_nil (w := W)
  have HTr := Lib.hid fun (W : World) => jtruncate_nil (w := W) n
  have HMk := Lib.hid fun (W : World) => jmark_nil (w := W) n
  have HRw := Lib.hid fun (W : World) (v : Value) => jrewrite_nil (w := W) n v
  have HL1 := Lib.hid fun (W : World) => jlen_nil (w := W)
  have HSd := Lib.hid fun (W : World) => jsynced_nil (w := W)
  have HMd := Lib.hid fun (W : World) => jmarked_nil (w := W)
  have HRg := Lib.hid fun (W : World) => jrange_nil (w := W) n
  have HBk := Lib.hid fun (W : World) => jback_nil (w := W) n n
  have HCh := Lib.hid fun (W : World) => jchunkL_nil (w := W)
  have HBr := Lib.hid fun (W : World) => jbroken_nil (w := W)
  have hzb := Blk.new w 50 #[.pointer none, .string ⟨#[]⟩, .int .i64 0, .slice none 0 0, .int .i64 0, .int .i64 0, .int .i64 0]
  have kz : Only [] w (w.alloc (.cells #[.pointer none, .string ⟨#[]⟩, .int .i64 0, .slice none 0 0, .int .i64 0, .int .i64 0, .int .i64 0] 50)) := (Only.refl _ _).alloc _
  have HZ := Lib.hid hzb
  have HKZ := Lib.hid kz
  clear hT h1 hzb kz
  go_enter Tryz.func7, Tryz.ntmps7
  go_wp2_with (first
    | (go_at_call 11; refine (HO1.out _).mono ?_; clear HO1; rintro e1 w1 ⟨rfl, rfl⟩)
    | (go_at_call 10; refine (HN.out _).mono ?_; rintro e2 w2 ⟨rfl, -, k2⟩; have hb2 := k2.blk HZ.out (by simp); have HB2 := Lib.hid hb2; have HK2 := Lib.hid (HKZ.out.trans k2); clear hb2)
    | (go_at_call 11; refine (HO2.out _ _).mono ?_; clear HO2; rintro e3 w3 ⟨rfl, rfl⟩)
    | (go_at_call 12; refine (HA1.out _ _).mono ?_; clear HA1; rintro e4 w4 ⟨rfl, rfl⟩; have hb4 := HB2.out)
    | (go_at_call 28; refine (HG.out _).mono ?_; rintro e5 w5 ⟨rfl, rfl⟩))
  have k4 : Only [] w3 ((w3.alloc (.cells #[.string s] 9)).alloc (.cells #[.string s] 9)) := ((Only.refl _ _).alloc _).alloc _
  have hb5 := k4.blk HB2.out (by simp)
  have HB5 := Lib.hid hb5
  have HK5 := Lib.hid (HK2.out.trans k4)
  refine (jappend_zero (hb5.cell 0) _).mono ?_
  rintro e6 w6 ⟨rfl, rfl⟩
  clear hb5 k4 hb4
  go_wp2_with (first
    | (go_at_call 28; refine (HG.out _).mono ?_; rintro e5 w5 ⟨rfl, rfl⟩)
    | (go_at_call 9; refine (HAl.out _ HK5.out).mono ?_; rintro e7 w7 ⟨rfl, k7⟩; have hb7 := k7.blk HB5.out (by simp); have HZ7 := Lib.hid (jlen_zero (hb7.cell 3)); clear hb7)
    | (go_at_call 17; refine (HSy.out _).mono ?_; rintro e8 w8 ⟨rfl, rfl⟩)
    | (go_at_call 22; refine (HTr.out _).mono ?_; rintro e9 w9 ⟨rfl, rfl⟩)
    | (go_at_call 18; refine (HMk.out _).mono ?_; rintro e10 w10 ⟨rfl, rfl⟩)
    | (go_at_call 25; refine (HRw.out _ _).mono ?_; rintro e11 w11 ⟨rfl, rfl⟩)
    | (go_at_call 13; refine (HL1.out _).mono ?_; clear HL1; rintro e12 w12 ⟨rfl, rfl⟩)
    | (go_at_call 29; refine (HSd.out _).mono ?_; rintro e13 w13 ⟨rfl, rfl⟩)
    | (go_at_call 19; refine (HMd.out _).mono ?_; rintro e14 w14 ⟨rfl, rfl⟩)
    | (go_at_call 13; refine HZ7.out.mono ?_; rintro e15 w15 ⟨rfl, rfl⟩)
    | (go_at_call 14; refine (HRg.out _).mono ?_; rintro e16 w16 ⟨rfl, rfl⟩)
    | (go_at_call 15; refine (HBk.out _).mono ?_; rintro e17 w17 ⟨rfl, rfl⟩)
    | (go_at_call 23; refine (HCh.out _).mono ?_; rintro e18 w18 ⟨rfl, rfl⟩)
    | (go_at_call 30; refine (HBr.out _).mono ?_; rintro e19 w19 ⟨rfl, rfl⟩))
  go_ret
  exact ⟨rfl, HK5.out.trans k7⟩
theorem noneW (n : Int) (hn : (Lit.int .i64 n).wf = true) (s : ByteArray) (hs : s.size ≤ maxLen) (W : World) (hT : Tab W) :
    Calls Tryz.prog 7 #[.int .i64 n, .string s] W fun e w' => e = .returned (.bool true) ∧ Only [] W w' := none_go W hT n s
end Go.Proofs.YtfjkjndpndjfpaaGreatDoor
/- Contracts: the chaser (Mark, Marked), Sync. -/
set_option linter.unusedVariables false
set_option linter.unusedSimpArgs false
namespace Go.Proofs.YtfjkjndpndjfpaaGreatDoor
open Go Go.RowKit Go.Sort
section
variable {a w w1 w' : World} {lb db mb M N : Nat} {d : DS} {L : LogS} {kv pv : Value} {xs : List (Value × PartL)}
theorem jsync1_at (h : LogAt a w lb db mb d L kv pv xs) (hb : L.bad = 0) (hp : L.pre.size ≤ 1000) (hk : d.Ok M) (hM : M ≤ 1125899906842624) (hn : xs.length ≤ 1000000) (hl : L.len ≤ 1000000000) :
    Calls Tryz.prog 17 #[.pointer (some ⟨lb, 0, none⟩)] w fun e w' => e = .returned (.int .i64 (L.sync1 d).1) ∧ LogTo a lb db mb w kv pv xs w' (L.sync1 d).2 := by
  have he : L.sync1 d = L.sync d := by unfold LogS.sync1; rw [if_neg (by simp [hb])]
  rw [he]
  have HMy := Lib.hid (jmay_any h.blk)
  rw [hb] at HMy
  have HS := Lib.hid (jsync_at h hp hk hM hn hl)
  clear h he
  go_enter Tryz.func17, Tryz.ntmps17
  go_wp2_with (first | (go_at_call 37; refine HMy.out.mono ?_; rintro e1 w1 ⟨rfl, rfl⟩) | (go_at_call 40; refine HS.out.mono ?_; rintro e2 w2 ⟨rfl, k2⟩))
  go_ret
  exact ⟨rfl, k2⟩
theorem jmarked_any (h : LogAt a w lb db mb d L kv pv xs) (hn : xs.length ≤ 1000000) (hl : L.len ≤ 1000000000) :
    Calls Tryz.prog 19 #[.pointer (some ⟨lb, 0, none⟩)] w fun e w' => e = .returned (.int .i64 L.marked) ∧ Only [] w w' := by
  have HL := Lib.hid fun (W : World) (k : Only [] w W) => jlen_any (h.only0 k) hn hl
  have c5 := h.cell5
  have d5 := Within.cell (S := []) c5 (by simp)
  unfold LogS.marked
  clear h hn hl
  go_enter Tryz.func19, Tryz.ntmps19
  go_wp2_with fail
  refine wp_region_in [] [0, 1, 2, 3, 4] [5, 6, 7] [8] (by kernel_rfl) (by kernel_rfl) (by intro c d u a w h; cases d <;> exact h) ?_
  show wpQuiet _ _ _ _ [_, _, _, _, _] _
  repeat (go_big_quiet_step (fail))
  refine wpQuiet_nil ?_
  show wpList _ _ _ [_] _ _
  go_wp2_with (go_at_call 13; refine (HL.out _ (Only.refl [] w).drew).mono ?_; rintro e1 w1 ⟨rfl, k1⟩)
  have k1 := (Only.refl [] w).drew.trans k1
  refine check_of (S := []) k1 ?_
  show wpList _ _ _ [_] _ _
  go_wp2_with fail
  refine check_of (S := []) k1 ?_
  show wpList _ _ _ [_] _ _
  go_wp2_with fail
  refine check_of (S := []) k1 ?_
  show wpList _ _ _ [_] _ _
  go_wp2
  go_ret
  exact ⟨rfl, k1⟩
theorem jmark_bad (h : LogAt a w lb db mb d L kv pv xs) (hb : L.bad = 0) (hn : xs.length ≤ 1000000) (hl : L.len ≤ 1000000000) (n : Int) (hnn : n < 0 ∨ L.len < n) :
    Calls Tryz.prog 18 #[.pointer (some ⟨lb, 0, none⟩), .int .i64 n] w fun e w' => e = .returned (.int .i64 15) ∧ Only [] w w' := by
  have HMy := Lib.hid (jmay_any h.blk)
  rw [hb] at HMy
  have HL := Lib.hid (jlen_any h hn hl)
  clear h
  by_cases h0 : n < 0
  · have q0 : decide (n < 0) = true := decide_eq_true h0
    go_enter Tryz.func18, Tryz.ntmps18
    go_wp2_with (go_at_call 37; refine HMy.out.mono ?_; rintro e1 w1 ⟨rfl, rfl⟩)
    go_ret
    exact ⟨rfl, Only.refl _ _⟩
  · have q0 : decide (n < 0) = false := decide_eq_false h0
    have q1 : decide (n > L.len) = true := decide_eq_true (by omega)
    go_enter Tryz.func18, Tryz.ntmps18
    go_wp2_with (first | (go_at_call 37; refine HMy.out.mono ?_; rintro e1 w1 ⟨rfl, rfl⟩) | (go_at_call 13; refine HL.out.mono ?_; rintro e2 w2 ⟨rfl, k2⟩))
    go_ret
    exact ⟨rfl, k2⟩
set_option maxRecDepth 100000 in
set_option maxHeartbeats 4000000 in
theorem jmark_ok (h : LogAt a w lb db mb d L kv pv xs) (hb : L.bad = 0) (hp : L.pre.size ≤ 1000) (hk : d.Ok M) (hM : M + 20 ≤ 1125899906842624) (hn : xs.length ≤ 1000000) (hl : L.len ≤ 1000000000) (n : Int) (h0 : 0 ≤ n) (h1 : n ≤ L.len) :
    Calls Tryz.prog 18 #[.pointer (some ⟨lb, 0, none⟩), .int .i64 n] w fun e w' => e = .returned (.int .i64 (L.setMark d n).1) ∧ LogTo a lb db mb w kv pv xs w' (L.setMark d n).2 := by
  have HMy := Lib.hid (jmay_any h.blk)
  rw [hb] at HMy
  have HL := Lib.hid (jlen_any h hn hl)
  have q0 : decide (n < 0) = false := decide_eq_false (by omega)
  have q1 : decide (n > L.len) = false := decide_eq_false (by omega)
  have hfl : (frameB (i64B n)).length = 20 := by rw [frameB_len, i64B_len]
  have hSet : L.setMark d n = (if (d.append (markN L.pre) (baL (frameB (i64B n)))).1 ≠ 0 then ((d.append (markN L.pre) (baL (frameB (i64B n)))).1, L.told (d.append (markN L.pre) (baL (frameB (i64B n)))).1, (d.append (markN L.pre) (baL (frameB (i64B n)))).2) else
      if ((d.append (markN L.pre) (baL (frameB (i64B n)))).2.sync (markN L.pre)).1 ≠ 0 then (((d.append (markN L.pre) (baL (frameB (i64B n)))).2.sync (markN L.pre)).1, L.told ((d.append (markN L.pre) (baL (frameB (i64B n)))).2.sync (markN L.pre)).1, ((d.append (markN L.pre) (baL (frameB (i64B n)))).2.sync (markN L.pre)).2)
      else (0, { L with mark := n }, ((d.append (markN L.pre) (baL (frameB (i64B n)))).2.sync (markN L.pre)).2)) := by
    unfold LogS.setMark
    rw [if_neg (by simp [hb]), if_neg (by omega)]
  have hmn : markN L.pre = L.pre ++ ⟨#[109, 97, 114, 107]⟩ := rfl
  have hps : (L.pre.size : Int) ≤ 1000 := by omega
  have HO := Lib.hid fun (W : World) => oi64_any (a := W) (w := W.alloc (.cells #[.slice none 0 0, .int .i64 0] 66)) (ob := W.heap.size) (l := []) ⟨(Only.refl _ _).alloc _, Nat.le_refl _, none, 0, Blk.new _ _ _, World.ownsRow_nil _ _ _ _⟩ (by simp) n
  have HPt := Lib.hid fun (W : World) => fput_any (w := W) (baL (i64B n)) (by rw [baL_size, i64B_len]; omega)
  rw [show (baL (i64B n)).data.toList = i64B n from by simp [baL]] at HPt
  have hbs : (baL (frameB (i64B n))).size = 20 := by rw [baL_size, hfl]
  obtain ⟨fb, hfb⟩ : ∃ fb, baL (frameB (i64B n)) = fb := ⟨_, rfl⟩
  rw [hfb] at hSet HPt hbs
  have hok := (DS.append_ok hk (markN L.pre) fb).1
  rw [hbs] at hok
  rw [hmn] at hSet hok
  have HAp := Lib.hid fun (W : World) (k : Only [] w W) => append_any (h.only0 k).disk hk (L.pre ++ ⟨#[109, 97, 114, 107]⟩) fb (by omega)
  obtain ⟨⟨e1, d1⟩, hd1⟩ : ∃ q, d.append (L.pre ++ ⟨#[109, 97, 114, 107]⟩) fb = q := ⟨_, rfl⟩
  rw [hd1] at hSet HAp hok
  dsimp only at hSet HAp hok
  obtain ⟨⟨e2, d2⟩, hd2⟩ : ∃ q, d1.sync (L.pre ++ ⟨#[109, 97, 114, 107]⟩) = q := ⟨_, rfl⟩
  rw [hd2] at hSet
  dsimp only at hSet
  have HS := Lib.hid hSet
  have HOK := Lib.hid hok
  have HB := Lib.hid h
  have HD2 := Lib.hid hd2
  have HM1 := Lib.hid hM
  obtain ⟨bs, hbs8⟩ : ∃ bs, i64B n = bs := ⟨_, rfl⟩
  rw [hbs8] at HO HPt
  have hbl : bs.length ≤ 1000000 := by rw [← hbs8, i64B_len]; omega
  obtain ⟨F, hF⟩ : ∃ F : List (Addr × Value), F = [(⟨lb, 0, none⟩, .pointer (some ⟨db, 0, none⟩)), (⟨lb, 1, none⟩, .string L.pre)] := ⟨_, rfl⟩
  have hFW : ∀ (W : World) dd L2 kv2, LogAt a W lb db mb dd L2 kv2 pv xs → L2.pre = L.pre → ∀ x ∈ F, W.cell? x.1 = some x.2 := fun W dd L2 kv2 h hp => by rw [hF]; exact hold2 h.cell0 (hp ▸ h.cell1)
  have e0 : ∀ p : Hold F, p.W.cell? ⟨lb, 0, none⟩ = some (.pointer (some ⟨db, 0, none⟩)) := fun p => p.h (_, _) (by rw [hF]; simp)
  have e1' : ∀ p : Hold F, p.W.cell? ⟨lb, 1, none⟩ = some (.string L.pre) := fun p => p.h (_, _) (by rw [hF]; simp)
  have HF := Lib.hid hFW
  clear hSet hok h hfb hbs hfl hd1 hd2 hk hM hF hFW hbs8 hmn hb
  go_enter Tryz.func18, Tryz.ntmps18
  go_wp2_with (first
    | (go_at_call 37; refine HMy.out.mono ?_; rintro e3 w3 ⟨rfl, rfl⟩)
    | (go_at_call 13; refine HL.out.mono ?_; rintro e4 w4 ⟨rfl, k4⟩)
    | (go_at_call 41; refine (HO.out _).mono ?_; rintro e5 w5 ⟨rfl, hOA⟩; have HD := Lib.hid (odone_any hOA (by simpa using hbl)); have k5 := Lib.hid hOA.only; clear hOA)
    | (go_at_call 42; refine HD.out.mono ?_; rintro e6 w6 ⟨rfl, rfl⟩)
    | (go_at_call 43; refine (HPt.out _).mono ?_; rintro e7 w7 ⟨rfl, k7⟩))
  have kk7 := ((k4.trans k5.out).trans k7).drew
  have HB70 := Lib.hid (HB.out.only0 ((k4.trans k5.out).trans k7))
  have hB7 := HB.out.only0 kk7
  have HB7 := Lib.hid hB7
  have KK7 := Lib.hid kk7
  clear k5 HO HPt HMy HL hB7 kk7
  refine wp_region_hold F [0, 1, 2, 3, 4, 5, 6, 7, 8, 9, 10] [11, 12] [13] (HF.out _ _ _ _ HB70.out rfl) (by kernel_rfl) (by kernel_rfl) (by intro c d u a w h; cases d <;> exact h) ?_
  intro hne
  show wpQuiet _ _ _ _ [_, _, _, _, _, _, _, _, _, _, _] _
  repeat (go_big_quiet_step (fail))
  refine wpQuiet_nil ?_
  show wpList _ _ _ [_] _ _
  go_wp2_with (go_at_call 45; refine (HAp.out _ KK7.out).mono ?_; rintro e8 w8 ⟨rfl, k8⟩)
  have HT8 := Lib.hid (told_leads HB7.out k8 e1)
  obtain ⟨kv8, k8a, k8b, k8c⟩ := HB7.out.leads k8
  refine check_hold (HF.out _ _ _ _ k8a rfl) ?_
  show wpList _ _ _ [_] _ _
  go_wp2_with (go_at_call 44; refine HT8.out.mono ?_; rintro e9 w9 ⟨rfl, k9⟩)
  have K9 := Lib.hid (k9.step KK7.out.of_nil (fun g hg => .inl hg))
  obtain ⟨kv9, h9, hf9, ho9⟩ := id k9
  refine check_hold (HF.out _ _ _ _ h9 (LogS.told_ps L e1).2.1) ?_
  have HB9 := Lib.hid h9
  have HF9 := Lib.hid hf9
  have HO9 := Lib.hid ho9
  clear k8 k9 k8a k8b k8c h9 hf9 ho9 HT8 HAp
  show wpList _ _ _ [_] _ _
  by_cases he1 : e1 = 0
  · subst he1
    have ht0 : L.told 0 = L := by unfold LogS.told; rw [if_neg (by omega)]
    rw [ht0] at HB9 K9
    have hSy := fun (W : World) (k : Only [] w9 W) => sync_any (HB9.out.only0 k).disk HOK.out HM1.out (L.pre ++ ⟨#[109, 97, 114, 107]⟩)
    rw [HD2.out] at hSy
    dsimp only at hSy
    have HSy := Lib.hid hSy
    have HS2 := Lib.hid (HS.out.trans (if_neg (by simp)))
    clear hSy ht0
    go_wp2_with fail
    refine wp_region_hold F [0, 1, 2, 3, 4, 5, 6, 7, 8, 9] [10, 11] [12] (HF.out _ _ _ _ HB9.out rfl) (by kernel_rfl) (by kernel_rfl) (by intro c d u a w h; cases d <;> exact h) ?_
    intro hne
    show wpQuiet _ _ _ _ [_, _, _, _, _, _, _, _, _, _] _
    repeat (go_big_quiet_step (fail))
    refine wpQuiet_nil ?_
    have kd : Only [] w9 w9.drew := (Only.refl _ _).drew
    have HBd := Lib.hid (HB9.out.only0 kd)
    show wpList _ _ _ [_] _ _
    go_wp2_with (go_at_call 46; refine (HSy.out _ kd).mono ?_; rintro e10 w10 ⟨rfl, k10⟩)
    have HT10 := Lib.hid (told_leads HBd.out k10 e2)
    obtain ⟨kv10, k10a, k10b, k10c⟩ := HBd.out.leads k10
    refine check_hold (HF.out _ _ _ _ k10a rfl) ?_
    show wpList _ _ _ [_] _ _
    go_wp2_with (go_at_call 44; refine HT10.out.mono ?_; rintro e11 w11 ⟨rfl, k11⟩)
    obtain ⟨kv11, h11, hf11, ho11⟩ := id k11
    have K11 := Lib.hid ((k11.step HO9.out.drew HF9.out).step KK7.out.of_nil (fun g hg => .inl hg))
    refine check_hold (HF.out _ _ _ _ h11 (LogS.told_ps L e2).2.1) ?_
    have HB11 := Lib.hid h11
    clear k11 h11 hf11 ho11 k10 k10a k10b k10c HT10 HSy
    show wpList _ _ _ [_] _ _
    by_cases he2 : e2 = 0
    · subst he2
      have ht0 : L.told 0 = L := by unfold LogS.told; rw [if_neg (by omega)]
      rw [ht0] at HB11 K11
      have HS3 := Lib.hid (HS2.out.trans (if_neg (by simp)))
      have f5 := HB11.out.blk.free 5
      have c5 := HB11.out.cell5
      clear ht0
      go_wp2
      go_ret
      rw [HS3.out]
      exact ⟨rfl, K11.out.setMark n⟩
    · have HS3 := Lib.hid (HS2.out.trans (if_pos he2))
      go_wp2
      go_ret
      rw [HS3.out]
      exact ⟨rfl, K11.out⟩
  · have HS2 := Lib.hid (HS.out.trans (if_pos he1))
    go_wp2
    go_ret
    rw [HS2.out]
    exact ⟨rfl, K9.out⟩
end
end Go.Proofs.YtfjkjndpndjfpaaGreatDoor
/- Contracts: a chunk is read as a log is opened (chunklog open). -/
set_option linter.unusedVariables false
set_option linter.unusedSimpArgs false
namespace Go.Proofs.YtfjkjndpndjfpaaGreatDoor
open Go Go.RowKit Go.Sort
section
variable {a w w1 w' : World} {lb db mb M N : Nat} {d : DS} {L : LogS} {kv pv : Value} {xs : List (Value × PartL)}
theorem usedOf_take (l : List ByteArray) {j : Nat} (hj : j < l.length) : usedOf (l.take (j + 1)) = usedOf (l.take j) + ((l[j].size : Int) + 13) := by
  rw [List.take_succ_eq_append_getElem hj, usedOf_app, usedOf_one]
theorem usedOf_le (l : List ByteArray) : usedOf l = (sumS l : Int) + 13 * l.length := by
  induction l with
  | nil => rfl
  | cons s l ih =>
    have e : usedOf (s :: l) = usedOf [s] + usedOf l := usedOf_app [s] l
    rw [e, ih, usedOf_one]
    unfold sumS
    rw [List.map_cons, List.sum_cons, List.length_cons]
    omega
theorem sumS_take_le (l : List ByteArray) (j : Nat) : sumS (l.take j) ≤ sumS l := by
  have h : sumS l = sumS (l.take j) + sumS (l.drop j) := by
    unfold sumS
    rw [← List.sum_append, ← List.map_append, List.take_append_drop]
  omega
set_option maxRecDepth 100000 in
set_option maxHeartbeats 4000000 in
theorem jopen1_at (h : LogAt a w lb db mb d L kv pv xs) (hp : L.pre.size ≤ 1000) (hk : d.Ok M) (hM : M ≤ 1000000) (hn : xs.length ≤ 1000000) (k : Nat) (hkk : k ≤ 999999) (last : Bool) {b : ByteArray} {x : ScanR}
    (hb : LogS.bytes d (nameK L.pre k) = (b, 0)) (hbs : b.size ≤ 1000000) (hr : readC b.data.toList = some x) (hnum : x.number = k) (hdone : x.done = true ∨ last = true) (hxb : sumS x.bodies ≤ 1000000 ∧ x.bodies.length ≤ 1000000)
    {d2 : DS} (hcut : last = true → LogS.cut d (nameK L.pre k) x.good = (0, d2)) (hcut2 : last = false → d2 = d) (hkt : (d.truncate (nameK L.pre k) x.good).2.Ok M) :
    Calls Tryz.prog 35 #[.pointer (some ⟨lb, 0, none⟩), .int .i64 k, .bool last] w fun e w' => e = .returned (.int .i64 0) ∧ LTo a lb db mb (lblk lb db mb kv pv xs) w w' ({ L with ps := L.ps ++ [⟨x.bodies, usedOf x.bodies, x.done⟩] }, d2) := by
  have HO := Lib.hid (LogOn.refl h)
  have HNm := Lib.hid fun (W : World) (k1 : Only [] w W) => jname_any (h.only0 k1).blk hp (h.only0 k1).tabw (k : Int) (by omega) (by omega)
  have HGt := Lib.hid fun (W : World) (k1 : Only [] w W) => jget_any (h.only0 k1).blk (h.only0 k1).disk (nameK L.pre k) (by have := hk.get_le (nameK L.pre k); omega)
  rw [hb] at HGt
  dsimp only at HGt
  have HRd := Lib.hid fun (W : World) => cread_any (w := W) b hbs hr
  have HCt := Lib.hid fun (W : World) (k1 : Only [] w W) => jcut_any (h.only0 k1).blk (h.only0 k1).disk hk (by omega) (nameK L.pre k) x.good hkt
  obtain ⟨nm, hnm⟩ : ∃ nm, nameK L.pre (k : Int) = nm := ⟨_, rfl⟩
  rw [hnm] at HNm HGt HCt hcut
  obtain ⟨R, hR⟩ : ∃ R, lblk lb db mb kv pv xs = R := ⟨_, rfl⟩
  rw [hR] at HO ⊢
  have HDn := Lib.hid hdone
  have hDn := hdone
  have HCu := Lib.hid hcut
  have HCu2 := Lib.hid hcut2
  have HN := Lib.hid hnum
  have hdn : (!x.done && !last) = false := by rcases hdone with q | q <;> simp [q]
  clear h hb hr hnm hR hkt hk hdone hcut hcut2
  cases last with
  | true =>
    cases hxd : x.done with
    | true =>
      rw [hxd] at hdn HDn
      go_enter Tryz.func35, Tryz.ntmps35
      go_wp2_with (first
        | (go_at_call 50; refine (HNm.out _ (Only.refl _ _)).mono ?_; rintro e1 w1 ⟨rfl, k1⟩)
        | (go_at_call 62; refine (HGt.out _ k1).mono ?_; rintro e2 w2 ⟨rfl, k2⟩)
        | (go_at_call 63; refine (HRd.out _).mono ?_; rintro e3 w3 ⟨v, rfl, hv3, k3⟩; have hsv := (Slc.of_own hv3).1; obtain ⟨VA, vc, rfl⟩ := slc_len hsv; unfold scanV; rw [hnum, hxd]; have HV3 := Lib.hid hv3; clear hv3 hsv))
      have kk3 := (k1.trans k2).trans k3
      obtain ⟨W4, hW4⟩ : ∃ W4, W4 = w3.alloc (.cells #[.int .i64 k, .int .i64 x.size, .slice VA x.bodies.length vc, .int .i64 x.good, .bool true] 92) := ⟨_, rfl⟩
      have hsb : Blk W4 w3.heap.size 92 #[.int .i64 k, .int .i64 x.size, .slice VA x.bodies.length vc, .int .i64 x.good, .bool true] := by rw [hW4]; exact Blk.new _ _ _
      have kk4 : Only [] w W4 := by rw [hW4]; exact kk3.alloc _
      have hsz34 : w3.heap.size ≤ W4.heap.size := by rw [hW4]; simp
      have hbl34 : ∀ k, k < w3.heap.size → k ∉ ([] : List Nat) → W4.heap[k]? = w3.heap[k]? := by rw [hW4]; exact ((Only.refl [] w3).alloc _).block
      have hz3 := kk3.size
      have hlt := HO.out.at_.lt
      have hne : w3.heap.size ∉ [db, mb] := by simp; omega
      have HSB := Lib.hid hsb
      have G3 := Within.cell (S := [db, mb]) (hsb.cell 3) hne
      rw [← hW4]
      clear hW4 hsb
      refine wp_region_in [db, mb] [0, 1, 2, 4, 5] [3, 6] [7] (by kernel_rfl) (by kernel_rfl) (by intro c d u a w h; cases d <;> exact h) ?_
      show wpQuiet _ _ _ _ [_, _, _, _, _] _
      repeat (go_big_quiet_step (fail))
      refine wpQuiet_nil ?_
      show wpList _ _ _ [_] _ _
      go_wp2_with (go_at_call 50; refine (HNm.out _ kk4.drew).mono ?_; rintro e5 w5 ⟨rfl, k5⟩)
      have k5 := (Only.refl [] W4).drew.trans k5
      refine check_of (S := [db, mb]) k5.of_nil ?_
      show wpList _ _ _ [_] _ _
      have HC5 := HCt.out _ (kk4.trans k5)
      rw [HCu.out trivial] at HC5
      dsimp only at HC5
      have HC5 := Lib.hid HC5
      have HO5 := Lib.hid (HO.out.only0 (kk4.trans k5))
      go_wp2_with (go_at_call 64; refine HC5.out.mono ?_; rintro e6 w6 ⟨rfl, k6⟩)
      obtain ⟨kv6, h6, hf6, k6c⟩ := HO5.out.at_.leads k6
      refine check_of (S := [db, mb]) (k5.of_nil.trans k6c) ?_
      show wpList _ _ _ [_] _ _
      have kk6 : Only [db, mb] w w6 := (kk4.trans k5).of_nil.trans k6c
      have z4 := (kk4.trans k5).size
      have z6 := k6c.size
      have hn2 : w3.heap.size ∉ [db, mb] := hne
      have HO6 := Lib.hid (HO.out.turn h6 kk6 (fun g hg => by
        simp only [List.mem_cons, List.not_mem_nil, or_false] at hg
        rcases hg with e | e
        · exact mem_lblk.2 (.inr (.inl e))
        · exact mem_lblk.2 (.inr (.inr (.inl e)))) (fun g hg => by
        rcases mem_lblk.1 hg with e | e | e | ⟨u, hu, hq⟩
        · exact .inl (mem_lblk.2 (.inl e))
        · exact .inl (mem_lblk.2 (.inr (.inl e)))
        · exact .inl (mem_lblk.2 (.inr (.inr (.inl e))))
        · rcases List.mem_cons.1 hu with e | hu
          · subst e
            rcases hf6 g hq with q | q
            · exact .inl (mem_lblk.2 (.inr (.inr (.inr ⟨kv, by simp, q⟩))))
            · exact .inr (by omega)
          · exact .inl (mem_lblk.2 (.inr (.inr (.inr ⟨u, List.mem_cons_of_mem _ hu, hq⟩))))))
      have hvlt := HV3.out.lt
      have hvn : ∀ g, (Value.slice VA x.bodies.length vc).ownBlock = some g → g ∉ [db, mb] := fun g hg => by
        have := (hvlt g hg).1
        have := (k1.trans k2).size
        simp
        omega
      have o36 : Only [db, mb] w3 w6 := by
        have o34 : Only [] w3 W4 := ⟨kk4.os.trans kk3.os.symm, kk4.tape.trans kk3.tape.symm, kk4.output.trans kk3.output.symm, hsz34, hbl34⟩
        exact (o34.trans k5).of_nil.trans k6c
      have HV6 := Lib.hid (own_only HV3.out o36 hvn)
      have HS6 := Lib.hid (Slc.of_own HV6.out).1
      have HSB6 := Lib.hid ((k5.of_nil.trans k6c).blk HSB.out hn2)
      obtain ⟨W6, rfl⟩ : ∃ W6, W6 = w6 := ⟨w6, rfl⟩
      clear k6 h6 HC5 HO5 HCt HNm HGt HRd G3
      have s2 := HSB6.out.cell 2
      have s4 := HSB6.out.cell 4
      have s2a := fun o : Obj => (((Only.refl [] W6).alloc o).blk HSB6.out (by simp)).cell 2
      go_wp2_with fail
      obtain ⟨pb, hpb⟩ : ∃ pb, W6.heap.size = pb := ⟨_, rfl⟩
      obtain ⟨W7, hW7⟩ : ∃ W7, W7 = W6.alloc (.cells #[.slice VA x.bodies.length vc, .int .i64 0, .bool true] 81) := ⟨_, rfl⟩
      have hb7 : Blk W7 pb 81 #[.slice VA x.bodies.length vc, .int .i64 0, .bool true] := by rw [hW7, ← hpb]; exact Blk.new _ _ _
      have k67 : Only [] W6 W7 := by rw [hW7]; exact (Only.refl _ _).alloc _
      rw [hpb, ← hW7]
      have HB7 := Lib.hid hb7
      obtain ⟨VA', vc', hvv, -, -, hvc⟩ := HS6.out.openS
      injection hvv with y1 y2 y3
      subst y1 y3
      clear hb7 hW7 y2
      go_loopw [81] (fun i wr => ∃ j : Nat, i = .int .i64 j ∧ j ≤ x.bodies.length ∧ Blk wr pb 81 #[.slice VA x.bodies.length vc, .int .i64 (usedOf (x.bodies.take j)), .bool true] ∧ Only [] W6 wr) (fun i _ => x.bodies.length - (intOf i).toNat)
      case atStart => exact ⟨0, rfl, Nat.zero_le _, HB7.out, k67⟩
      case round =>
        obtain ⟨j, rfl, hj, hbj, hO6⟩ := hrel
        by_cases hjl : j < x.bodies.length
        · have hdec : decide ((j : Int) < (x.bodies.length : Int)) = true := decide_eq_true (by omega)
          obtain ⟨vb, vo, rfl, hvbl, hvbc⟩ := hvc j hjl
          have hvbc := (hO6.cell (p := ⟨vb, vo + j, none⟩) hvbl (by simp)).trans hvbc
          have hut := usedOf_take x.bodies hjl
          have hule := usedOf_le (x.bodies.take (j + 1))
          have hsle := sumS_take_le x.bodies (j + 1)
          have hule0 := usedOf_le (x.bodies.take j)
          rw [List.length_take] at hule hule0
          obtain ⟨s, hs⟩ : ∃ s, x.bodies[j] = s := ⟨_, rfl⟩
          rw [hs] at hvbc hut
          have HBy := Lib.hid (fun (W : World) => jbytes_any (w := W) s (by omega))
          obtain ⟨u, hu⟩ : ∃ u, usedOf (x.bodies.take j) = u := ⟨_, rfl⟩
          rw [hu] at hbj hut hule0
          have e9 := IntWalk.i64_in (u + ((s.size : Int) + 13)) ⟨by omega, by omega⟩
          have G1 := Within.cell (S := []) (hbj.cell 1) (by simp)
          have HU := Lib.hid hut
          have HBJ := Lib.hid hbj
          have fj := hbj.free 1
          have cj := hbj.cell 1
          clear hs hu hut hule hule0 hsle hbj
          go_wp2_with fail
          refine wp_region_in [] [0, 1, 2] [3, 4] [5, 6] (by kernel_rfl) (by kernel_rfl) (by intro c d u a w h; cases d <;> exact h) ?_
          show wpQuiet _ _ _ _ [_, _, _] _
          repeat (go_big_quiet_step (fail))
          refine wpQuiet_nil ?_
          show wpList _ _ _ [_] _ _
          go_wp2_with (go_at_call 53; refine (HBy.out _).mono ?_; rintro e9 w9 ⟨rfl, rfl⟩)
          refine check_of (S := []) (Only.refl _ _).drew ?_
          show wpList _ _ _ [_] _ _
          go_wp2_with fail
          refine check_of (S := []) (Only.refl _ _).drew ?_
          show wpList _ _ _ [_, _] _ _
          have fj2 : wr.drew.frozen? ⟨pb, 1, none⟩ = false := fj
          go_wp2
          exact ⟨⟨j + 1, by simp, hjl, by rw [HU.out]; exact HBJ.out.set 1 _, (hO6.setCell (.inr (Nat.le_of_eq hpb)) _).drew⟩, by simp [intOf]; omega⟩
        · have hje : j = x.bodies.length := by omega
          subst hje
          have hdec : decide ((x.bodies.length : Int) < (x.bodies.length : Int)) = false := decide_eq_false (by omega)
          rw [List.take_length] at hbj
          have h8 := HO6.out.only0 hO6
          obtain ⟨B, bc, hpv, -, -⟩ := own_form h8.at_.row
          subst hpv
          have hpl : pb ∉ (Value.slice B xs.length bc).ownBlock.toList := fun hq => by
            have := (h8.at_.row.lt pb (by simpa using hq)).2
            have h99 := HO6.out.at_.away (Value.slice B xs.length bc) (by simp) pb (by simpa using hq)
            omega
          have hll : lb ∉ (Value.slice B xs.length bc).ownBlock.toList := fun hq => (h8.at_.away (Value.slice B xs.length bc) (by simp) lb (by simpa using hq)).1 rfl
          obtain ⟨S, hS⟩ : ∃ S, (Value.slice B xs.length bc).ownBlock.toList = S := ⟨_, rfl⟩
          have HSe := Lib.hid hS
          rw [hS] at hpl hll
          have G3 := Within.cell (S := S) h8.at_.cell3 hll
          have P0 := Within.cell (S := S) (hbj.cell 0) hpl
          have P1 := Within.cell (S := S) (hbj.cell 1) hpl
          have P2 := Within.cell (S := S) (hbj.cell 2) hpl
          have HO8 := Lib.hid h8
          have k8d : Only [] wr wr.drew := (Only.refl _ _).drew
          obtain ⟨A4, cap4, w4, hr4, hown4, hO4, hf4⟩ := appPt (h8.at_.only0 k8d).row (by omega) [.slice VA x.bodies.length vc, .int .i64 (usedOf x.bodies), .bool true] rfl (by intro u hu; simp at hu; rcases hu with rfl | rfl | rfl <;> rfl)
          rw [hS] at hO4
          have f3 := (hO4.blk ((h8.only0 k8d).at_.blk) hll).free 3
          have q3 := (hO4.blk ((h8.only0 k8d).at_.blk) hll).cell 3
          have HR4 := Lib.hid hr4
          have HW4 := Lib.hid hown4
          have HO4 := Lib.hid hO4
          have HF4 := Lib.hid hf4
          clear hS hr4 hown4 hO4 hf4 h8 hbj
          go_wp2_with fail
          refine wp_region_in S [0, 1, 2, 3, 4, 5] [6, 7] [8, 9, 10] (by kernel_rfl) (by kernel_rfl) (by intro c d u a w h; cases d <;> exact h) ?_
          show wpQuiet _ _ _ _ [_, _, _, _, _, _] _
          repeat (go_big_quiet_step (fail))
          refine wpQuiet_nil ?_
          show wpList _ _ _ [_] _ _
          go_wp2_with fail
          refine check_of (S := S) ((Only.refl _ _).drew.alloc _) ?_
          show wpList _ _ _ [_] _ _
          go_wp2_with (at_builtin; refine Lib.wpList_append_run _ rfl (.tmp 96) (.tmp 98) 48 48 rfl _ _ rfl rfl _ _ HR4.out ?_)
          refine check_of (S := S) (k8d.of_nil.trans HO4.out) ?_
          show wpList _ _ _ [_, _, _] _ _
          go_wp2
          go_ret
          have hvlt := HV3.out.lt
          have y1 := (k1.trans k2).size
          have y2 := k3.size
          have y3 := k5.size
          have y4 := hO6.size
          have y5 := k6c.size
          have y6 : wr.heap.size ≤ w4.heap.size := HO4.out.size
          have hbase := HO.out.at_.base.size
          have hlts := HO.out.at_.lt
          have hvS : ∀ g, (Value.slice VA x.bodies.length vc).ownBlock = some g → g ∉ S := fun g hg hm => by
            rw [← HSe.out] at hm
            have h1 := (hvlt g hg).1
            have h2 := (HO.out.at_.away (Value.slice B xs.length bc) (by simp) g (by simpa using hm)).2.2.2.1
            omega
          have kS : Only S wr w4 := k8d.of_nil.trans HO4.out
          have hV4 := own_only (own_only HV6.out hO6 (by simp)) kS hvS
          have hy : ∀ g, (Value.slice VA x.bodies.length vc).ownBlock = some g → (∀ u ∈ kv6 :: Value.slice B xs.length bc :: xs.map (·.1), u.ownBlock ≠ some g) ∧ (Value.slice A4 (xs.length + 1) cap4).ownBlock ≠ some g ∧ g ≠ lb ∧ g ≠ db ∧ g ≠ mb ∧ g < w4.heap.size ∧ a.heap.size ≤ g := fun g hg => by
            have h1 := hvlt g hg
            refine ⟨fun u hu hq => ?_, fun hq => ?_, by omega, by omega, by omega, by omega, by omega⟩
            · rcases List.mem_cons.1 hu with e | hu
              · subst e
                rcases hf6 g hq with q | q
                · have := (HO.out.at_.away kv (by simp) g q).2.2.2.1
                  omega
                · omega
              · have := (HO.out.at_.away u (List.mem_cons_of_mem _ hu) g hq).2.2.2.1
                omega
            · rcases HF4.out g hq with q | q
              · have := (HO.out.at_.away (Value.slice B xs.length bc) (by simp) g q).2.2.2.1
                omega
              · have : wr.heap.size ≤ g := q
                omega
          have hadd := HO8.out.add (y := (.slice VA x.bodies.length vc, ⟨x.bodies, usedOf x.bodies, true⟩)) (by rw [HSe.out]; exact kS) HW4.out HF4.out (Slc.of_own hV4).1 (.inr (.inl (own_base hV4 (Nat.zero_le _)))) hy (fun g hg => by have := (hvlt g hg).1; omega)
          first | exact ⟨rfl, hadd.lto⟩ | (rw [hxd]; exact ⟨rfl, hadd.lto⟩)
    | false =>
      rw [hxd] at hdn HDn
      go_enter Tryz.func35, Tryz.ntmps35
      go_wp2_with (first
        | (go_at_call 50; refine (HNm.out _ (Only.refl _ _)).mono ?_; rintro e1 w1 ⟨rfl, k1⟩)
        | (go_at_call 62; refine (HGt.out _ k1).mono ?_; rintro e2 w2 ⟨rfl, k2⟩)
        | (go_at_call 63; refine (HRd.out _).mono ?_; rintro e3 w3 ⟨v, rfl, hv3, k3⟩; have hsv := (Slc.of_own hv3).1; obtain ⟨VA, vc, rfl⟩ := slc_len hsv; unfold scanV; rw [hnum, hxd]; have HV3 := Lib.hid hv3; clear hv3 hsv))
      have kk3 := (k1.trans k2).trans k3
      obtain ⟨W4, hW4⟩ : ∃ W4, W4 = w3.alloc (.cells #[.int .i64 k, .int .i64 x.size, .slice VA x.bodies.length vc, .int .i64 x.good, .bool false] 92) := ⟨_, rfl⟩
      have hsb : Blk W4 w3.heap.size 92 #[.int .i64 k, .int .i64 x.size, .slice VA x.bodies.length vc, .int .i64 x.good, .bool false] := by rw [hW4]; exact Blk.new _ _ _
      have kk4 : Only [] w W4 := by rw [hW4]; exact kk3.alloc _
      have hsz34 : w3.heap.size ≤ W4.heap.size := by rw [hW4]; simp
      have hbl34 : ∀ k, k < w3.heap.size → k ∉ ([] : List Nat) → W4.heap[k]? = w3.heap[k]? := by rw [hW4]; exact ((Only.refl [] w3).alloc _).block
      have hz3 := kk3.size
      have hlt := HO.out.at_.lt
      have hne : w3.heap.size ∉ [db, mb] := by simp; omega
      have HSB := Lib.hid hsb
      have G3 := Within.cell (S := [db, mb]) (hsb.cell 3) hne
      rw [← hW4]
      clear hW4 hsb
      refine wp_region_in [db, mb] [0, 1, 2, 4, 5] [3, 6] [7] (by kernel_rfl) (by kernel_rfl) (by intro c d u a w h; cases d <;> exact h) ?_
      show wpQuiet _ _ _ _ [_, _, _, _, _] _
      repeat (go_big_quiet_step (fail))
      refine wpQuiet_nil ?_
      show wpList _ _ _ [_] _ _
      go_wp2_with (go_at_call 50; refine (HNm.out _ kk4.drew).mono ?_; rintro e5 w5 ⟨rfl, k5⟩)
      have k5 := (Only.refl [] W4).drew.trans k5
      refine check_of (S := [db, mb]) k5.of_nil ?_
      show wpList _ _ _ [_] _ _
      have HC5 := HCt.out _ (kk4.trans k5)
      rw [HCu.out trivial] at HC5
      dsimp only at HC5
      have HC5 := Lib.hid HC5
      have HO5 := Lib.hid (HO.out.only0 (kk4.trans k5))
      go_wp2_with (go_at_call 64; refine HC5.out.mono ?_; rintro e6 w6 ⟨rfl, k6⟩)
      obtain ⟨kv6, h6, hf6, k6c⟩ := HO5.out.at_.leads k6
      refine check_of (S := [db, mb]) (k5.of_nil.trans k6c) ?_
      show wpList _ _ _ [_] _ _
      have kk6 : Only [db, mb] w w6 := (kk4.trans k5).of_nil.trans k6c
      have z4 := (kk4.trans k5).size
      have z6 := k6c.size
      have hn2 : w3.heap.size ∉ [db, mb] := hne
      have HO6 := Lib.hid (HO.out.turn h6 kk6 (fun g hg => by
        simp only [List.mem_cons, List.not_mem_nil, or_false] at hg
        rcases hg with e | e
        · exact mem_lblk.2 (.inr (.inl e))
        · exact mem_lblk.2 (.inr (.inr (.inl e)))) (fun g hg => by
        rcases mem_lblk.1 hg with e | e | e | ⟨u, hu, hq⟩
        · exact .inl (mem_lblk.2 (.inl e))
        · exact .inl (mem_lblk.2 (.inr (.inl e)))
        · exact .inl (mem_lblk.2 (.inr (.inr (.inl e))))
        · rcases List.mem_cons.1 hu with e | hu
          · subst e
            rcases hf6 g hq with q | q
            · exact .inl (mem_lblk.2 (.inr (.inr (.inr ⟨kv, by simp, q⟩))))
            · exact .inr (by omega)
          · exact .inl (mem_lblk.2 (.inr (.inr (.inr ⟨u, List.mem_cons_of_mem _ hu, hq⟩))))))
      have hvlt := HV3.out.lt
      have hvn : ∀ g, (Value.slice VA x.bodies.length vc).ownBlock = some g → g ∉ [db, mb] := fun g hg => by
        have := (hvlt g hg).1
        have := (k1.trans k2).size
        simp
        omega
      have o36 : Only [db, mb] w3 w6 := by
        have o34 : Only [] w3 W4 := ⟨kk4.os.trans kk3.os.symm, kk4.tape.trans kk3.tape.symm, kk4.output.trans kk3.output.symm, hsz34, hbl34⟩
        exact (o34.trans k5).of_nil.trans k6c
      have HV6 := Lib.hid (own_only HV3.out o36 hvn)
      have HS6 := Lib.hid (Slc.of_own HV6.out).1
      have HSB6 := Lib.hid ((k5.of_nil.trans k6c).blk HSB.out hn2)
      obtain ⟨W6, rfl⟩ : ∃ W6, W6 = w6 := ⟨w6, rfl⟩
      clear k6 h6 HC5 HO5 HCt HNm HGt HRd G3
      have s2 := HSB6.out.cell 2
      have s4 := HSB6.out.cell 4
      have s2a := fun o : Obj => (((Only.refl [] W6).alloc o).blk HSB6.out (by simp)).cell 2
      go_wp2_with fail
      obtain ⟨pb, hpb⟩ : ∃ pb, W6.heap.size = pb := ⟨_, rfl⟩
      obtain ⟨W7, hW7⟩ : ∃ W7, W7 = W6.alloc (.cells #[.slice VA x.bodies.length vc, .int .i64 0, .bool false] 81) := ⟨_, rfl⟩
      have hb7 : Blk W7 pb 81 #[.slice VA x.bodies.length vc, .int .i64 0, .bool false] := by rw [hW7, ← hpb]; exact Blk.new _ _ _
      have k67 : Only [] W6 W7 := by rw [hW7]; exact (Only.refl _ _).alloc _
      rw [hpb, ← hW7]
      have HB7 := Lib.hid hb7
      obtain ⟨VA', vc', hvv, -, -, hvc⟩ := HS6.out.openS
      injection hvv with y1 y2 y3
      subst y1 y3
      clear hb7 hW7 y2
      go_loopw [81] (fun i wr => ∃ j : Nat, i = .int .i64 j ∧ j ≤ x.bodies.length ∧ Blk wr pb 81 #[.slice VA x.bodies.length vc, .int .i64 (usedOf (x.bodies.take j)), .bool false] ∧ Only [] W6 wr) (fun i _ => x.bodies.length - (intOf i).toNat)
      case atStart => exact ⟨0, rfl, Nat.zero_le _, HB7.out, k67⟩
      case round =>
        obtain ⟨j, rfl, hj, hbj, hO6⟩ := hrel
        by_cases hjl : j < x.bodies.length
        · have hdec : decide ((j : Int) < (x.bodies.length : Int)) = true := decide_eq_true (by omega)
          obtain ⟨vb, vo, rfl, hvbl, hvbc⟩ := hvc j hjl
          have hvbc := (hO6.cell (p := ⟨vb, vo + j, none⟩) hvbl (by simp)).trans hvbc
          have hut := usedOf_take x.bodies hjl
          have hule := usedOf_le (x.bodies.take (j + 1))
          have hsle := sumS_take_le x.bodies (j + 1)
          have hule0 := usedOf_le (x.bodies.take j)
          rw [List.length_take] at hule hule0
          obtain ⟨s, hs⟩ : ∃ s, x.bodies[j] = s := ⟨_, rfl⟩
          rw [hs] at hvbc hut
          have HBy := Lib.hid (fun (W : World) => jbytes_any (w := W) s (by omega))
          obtain ⟨u, hu⟩ : ∃ u, usedOf (x.bodies.take j) = u := ⟨_, rfl⟩
          rw [hu] at hbj hut hule0
          have e9 := IntWalk.i64_in (u + ((s.size : Int) + 13)) ⟨by omega, by omega⟩
          have G1 := Within.cell (S := []) (hbj.cell 1) (by simp)
          have HU := Lib.hid hut
          have HBJ := Lib.hid hbj
          have fj := hbj.free 1
          have cj := hbj.cell 1
          clear hs hu hut hule hule0 hsle hbj
          go_wp2_with fail
          refine wp_region_in [] [0, 1, 2] [3, 4] [5, 6] (by kernel_rfl) (by kernel_rfl) (by intro c d u a w h; cases d <;> exact h) ?_
          show wpQuiet _ _ _ _ [_, _, _] _
          repeat (go_big_quiet_step (fail))
          refine wpQuiet_nil ?_
          show wpList _ _ _ [_] _ _
          go_wp2_with (go_at_call 53; refine (HBy.out _).mono ?_; rintro e9 w9 ⟨rfl, rfl⟩)
          refine check_of (S := []) (Only.refl _ _).drew ?_
          show wpList _ _ _ [_] _ _
          go_wp2_with fail
          refine check_of (S := []) (Only.refl _ _).drew ?_
          show wpList _ _ _ [_, _] _ _
          have fj2 : wr.drew.frozen? ⟨pb, 1, none⟩ = false := fj
          go_wp2
          exact ⟨⟨j + 1, by simp, hjl, by rw [HU.out]; exact HBJ.out.set 1 _, (hO6.setCell (.inr (Nat.le_of_eq hpb)) _).drew⟩, by simp [intOf]; omega⟩
        · have hje : j = x.bodies.length := by omega
          subst hje
          have hdec : decide ((x.bodies.length : Int) < (x.bodies.length : Int)) = false := decide_eq_false (by omega)
          rw [List.take_length] at hbj
          have h8 := HO6.out.only0 hO6
          obtain ⟨B, bc, hpv, -, -⟩ := own_form h8.at_.row
          subst hpv
          have hpl : pb ∉ (Value.slice B xs.length bc).ownBlock.toList := fun hq => by
            have := (h8.at_.row.lt pb (by simpa using hq)).2
            have h99 := HO6.out.at_.away (Value.slice B xs.length bc) (by simp) pb (by simpa using hq)
            omega
          have hll : lb ∉ (Value.slice B xs.length bc).ownBlock.toList := fun hq => (h8.at_.away (Value.slice B xs.length bc) (by simp) lb (by simpa using hq)).1 rfl
          obtain ⟨S, hS⟩ : ∃ S, (Value.slice B xs.length bc).ownBlock.toList = S := ⟨_, rfl⟩
          have HSe := Lib.hid hS
          rw [hS] at hpl hll
          have G3 := Within.cell (S := S) h8.at_.cell3 hll
          have P0 := Within.cell (S := S) (hbj.cell 0) hpl
          have P1 := Within.cell (S := S) (hbj.cell 1) hpl
          have P2 := Within.cell (S := S) (hbj.cell 2) hpl
          have HO8 := Lib.hid h8
          have k8d : Only [] wr wr.drew := (Only.refl _ _).drew
          obtain ⟨A4, cap4, w4, hr4, hown4, hO4, hf4⟩ := appPt (h8.at_.only0 k8d).row (by omega) [.slice VA x.bodies.length vc, .int .i64 (usedOf x.bodies), .bool false] rfl (by intro u hu; simp at hu; rcases hu with rfl | rfl | rfl <;> rfl)
          rw [hS] at hO4
          have f3 := (hO4.blk ((h8.only0 k8d).at_.blk) hll).free 3
          have q3 := (hO4.blk ((h8.only0 k8d).at_.blk) hll).cell 3
          have HR4 := Lib.hid hr4
          have HW4 := Lib.hid hown4
          have HO4 := Lib.hid hO4
          have HF4 := Lib.hid hf4
          clear hS hr4 hown4 hO4 hf4 h8 hbj
          go_wp2_with fail
          refine wp_region_in S [0, 1, 2, 3, 4, 5] [6, 7] [8, 9, 10] (by kernel_rfl) (by kernel_rfl) (by intro c d u a w h; cases d <;> exact h) ?_
          show wpQuiet _ _ _ _ [_, _, _, _, _, _] _
          repeat (go_big_quiet_step (fail))
          refine wpQuiet_nil ?_
          show wpList _ _ _ [_] _ _
          go_wp2_with fail
          refine check_of (S := S) ((Only.refl _ _).drew.alloc _) ?_
          show wpList _ _ _ [_] _ _
          go_wp2_with (at_builtin; refine Lib.wpList_append_run _ rfl (.tmp 96) (.tmp 98) 48 48 rfl _ _ rfl rfl _ _ HR4.out ?_)
          refine check_of (S := S) (k8d.of_nil.trans HO4.out) ?_
          show wpList _ _ _ [_, _, _] _ _
          go_wp2
          go_ret
          have hvlt := HV3.out.lt
          have y1 := (k1.trans k2).size
          have y2 := k3.size
          have y3 := k5.size
          have y4 := hO6.size
          have y5 := k6c.size
          have y6 : wr.heap.size ≤ w4.heap.size := HO4.out.size
          have hbase := HO.out.at_.base.size
          have hlts := HO.out.at_.lt
          have hvS : ∀ g, (Value.slice VA x.bodies.length vc).ownBlock = some g → g ∉ S := fun g hg hm => by
            rw [← HSe.out] at hm
            have h1 := (hvlt g hg).1
            have h2 := (HO.out.at_.away (Value.slice B xs.length bc) (by simp) g (by simpa using hm)).2.2.2.1
            omega
          have kS : Only S wr w4 := k8d.of_nil.trans HO4.out
          have hV4 := own_only (own_only HV6.out hO6 (by simp)) kS hvS
          have hy : ∀ g, (Value.slice VA x.bodies.length vc).ownBlock = some g → (∀ u ∈ kv6 :: Value.slice B xs.length bc :: xs.map (·.1), u.ownBlock ≠ some g) ∧ (Value.slice A4 (xs.length + 1) cap4).ownBlock ≠ some g ∧ g ≠ lb ∧ g ≠ db ∧ g ≠ mb ∧ g < w4.heap.size ∧ a.heap.size ≤ g := fun g hg => by
            have h1 := hvlt g hg
            refine ⟨fun u hu hq => ?_, fun hq => ?_, by omega, by omega, by omega, by omega, by omega⟩
            · rcases List.mem_cons.1 hu with e | hu
              · subst e
                rcases hf6 g hq with q | q
                · have := (HO.out.at_.away kv (by simp) g q).2.2.2.1
                  omega
                · omega
              · have := (HO.out.at_.away u (List.mem_cons_of_mem _ hu) g hq).2.2.2.1
                omega
            · rcases HF4.out g hq with q | q
              · have := (HO.out.at_.away (Value.slice B xs.length bc) (by simp) g q).2.2.2.1
                omega
              · have : wr.heap.size ≤ g := q
                omega
          have hadd := HO8.out.add (y := (.slice VA x.bodies.length vc, ⟨x.bodies, usedOf x.bodies, false⟩)) (by rw [HSe.out]; exact kS) HW4.out HF4.out (Slc.of_own hV4).1 (.inr (.inl (own_base hV4 (Nat.zero_le _)))) hy (fun g hg => by have := (hvlt g hg).1; omega)
          first | exact ⟨rfl, hadd.lto⟩ | (rw [hxd]; exact ⟨rfl, hadd.lto⟩)
  | false =>
    have hxd : x.done = true := by rcases hDn with q | q; exact q; cases q
    have hd2 : d2 = d := HCu2.out rfl
    subst hd2
    rw [hxd] at hdn
    go_enter Tryz.func35, Tryz.ntmps35
    go_wp2_with (first
      | (go_at_call 50; refine (HNm.out _ (Only.refl _ _)).mono ?_; rintro e1 w1 ⟨rfl, k1⟩)
      | (go_at_call 62; refine (HGt.out _ k1).mono ?_; rintro e2 w2 ⟨rfl, k2⟩)
      | (go_at_call 63; refine (HRd.out _).mono ?_; rintro e3 w3 ⟨v, rfl, hv3, k3⟩; have hsv := (Slc.of_own hv3).1; obtain ⟨VA, vc, rfl⟩ := slc_len hsv; unfold scanV; rw [hnum, hxd]; have HV3 := Lib.hid hv3; clear hv3 hsv; have s2z := (Blk.new w3 92 #[.int .i64 k, .int .i64 x.size, .slice VA x.bodies.length vc, .int .i64 x.good, .bool true]).cell 2))
    have kk3 := (k1.trans k2).trans k3
    obtain ⟨W6, hW6⟩ : ∃ W6, w3.alloc (.cells #[.int .i64 k, .int .i64 x.size, .slice VA x.bodies.length vc, .int .i64 x.good, .bool true] 92) = W6 := ⟨_, rfl⟩
    have hsz : W6.heap.size = w3.heap.size + 1 := by rw [← hW6]; simp
    have hsb : Blk W6 w3.heap.size 92 #[.int .i64 k, .int .i64 x.size, .slice VA x.bodies.length vc, .int .i64 x.good, .bool true] := by rw [← hW6]; exact Blk.new _ _ _
    have kk6 : Only [] w W6 := by rw [← hW6]; exact kk3.alloc _
    have k36 : Only [] w3 W6 := by rw [← hW6]; exact (Only.refl _ _).alloc _
    rw [hW6, ← hsz]
    have hsz34 : w3.heap.size ≤ W6.heap.size := by omega
    have k5 : Only [] W6 W6 := Only.refl _ _
    have k6c : Only [db, mb] W6 W6 := Only.refl _ _
    have hf6 : ∀ g, kv.ownBlock = some g → kv.ownBlock = some g ∨ W6.heap.size ≤ g := fun g hg => .inl hg
    obtain ⟨kv6, hkv6⟩ : ∃ kv6, kv6 = kv := ⟨_, rfl⟩
    have HO6 := Lib.hid (HO.out.only0 kk6)
    have HV6 := Lib.hid (own_only HV3.out k36 (by simp))
    have HS6 := Lib.hid (Slc.of_own HV6.out).1
    have HSB6 := Lib.hid hsb
    rw [← hkv6] at HO6
    have hf6 : ∀ g, kv6.ownBlock = some g → kv.ownBlock = some g ∨ W6.heap.size ≤ g := by rw [hkv6]; exact hf6
    clear hW6 hsz hsb HCt HNm HGt HRd s2z hkv6
    have s2 := HSB6.out.cell 2
    have s4 := HSB6.out.cell 4
    have s2a := fun o : Obj => (((Only.refl [] W6).alloc o).blk HSB6.out (by simp)).cell 2
    skip
    obtain ⟨pb, hpb⟩ : ∃ pb, W6.heap.size = pb := ⟨_, rfl⟩
    obtain ⟨W7, hW7⟩ : ∃ W7, W7 = W6.alloc (.cells #[.slice VA x.bodies.length vc, .int .i64 0, .bool true] 81) := ⟨_, rfl⟩
    have hb7 : Blk W7 pb 81 #[.slice VA x.bodies.length vc, .int .i64 0, .bool true] := by rw [hW7, ← hpb]; exact Blk.new _ _ _
    have k67 : Only [] W6 W7 := by rw [hW7]; exact (Only.refl _ _).alloc _
    rw [hpb, ← hW7]
    have HB7 := Lib.hid hb7
    obtain ⟨VA', vc', hvv, -, -, hvc⟩ := HS6.out.openS
    injection hvv with y1 y2 y3
    subst y1 y3
    clear hb7 hW7 y2
    go_loopw [81] (fun i wr => ∃ j : Nat, i = .int .i64 j ∧ j ≤ x.bodies.length ∧ Blk wr pb 81 #[.slice VA x.bodies.length vc, .int .i64 (usedOf (x.bodies.take j)), .bool true] ∧ Only [] W6 wr) (fun i _ => x.bodies.length - (intOf i).toNat)
    case atStart => exact ⟨0, rfl, Nat.zero_le _, HB7.out, k67⟩
    case round =>
      obtain ⟨j, rfl, hj, hbj, hO6⟩ := hrel
      by_cases hjl : j < x.bodies.length
      · have hdec : decide ((j : Int) < (x.bodies.length : Int)) = true := decide_eq_true (by omega)
        obtain ⟨vb, vo, rfl, hvbl, hvbc⟩ := hvc j hjl
        have hvbc := (hO6.cell (p := ⟨vb, vo + j, none⟩) hvbl (by simp)).trans hvbc
        have hut := usedOf_take x.bodies hjl
        have hule := usedOf_le (x.bodies.take (j + 1))
        have hsle := sumS_take_le x.bodies (j + 1)
        have hule0 := usedOf_le (x.bodies.take j)
        rw [List.length_take] at hule hule0
        obtain ⟨s, hs⟩ : ∃ s, x.bodies[j] = s := ⟨_, rfl⟩
        rw [hs] at hvbc hut
        have HBy := Lib.hid (fun (W : World) => jbytes_any (w := W) s (by omega))
        obtain ⟨u, hu⟩ : ∃ u, usedOf (x.bodies.take j) = u := ⟨_, rfl⟩
        rw [hu] at hbj hut hule0
        have e9 := IntWalk.i64_in (u + ((s.size : Int) + 13)) ⟨by omega, by omega⟩
        have G1 := Within.cell (S := []) (hbj.cell 1) (by simp)
        have HU := Lib.hid hut
        have HBJ := Lib.hid hbj
        have fj := hbj.free 1
        have cj := hbj.cell 1
        clear hs hu hut hule hule0 hsle hbj
        go_wp2_with fail
        refine wp_region_in [] [0, 1, 2] [3, 4] [5, 6] (by kernel_rfl) (by kernel_rfl) (by intro c d u a w h; cases d <;> exact h) ?_
        show wpQuiet _ _ _ _ [_, _, _] _
        repeat (go_big_quiet_step (fail))
        refine wpQuiet_nil ?_
        show wpList _ _ _ [_] _ _
        go_wp2_with (go_at_call 53; refine (HBy.out _).mono ?_; rintro e9 w9 ⟨rfl, rfl⟩)
        refine check_of (S := []) (Only.refl _ _).drew ?_
        show wpList _ _ _ [_] _ _
        go_wp2_with fail
        refine check_of (S := []) (Only.refl _ _).drew ?_
        show wpList _ _ _ [_, _] _ _
        have fj2 : wr.drew.frozen? ⟨pb, 1, none⟩ = false := fj
        go_wp2
        exact ⟨⟨j + 1, by simp, hjl, by rw [HU.out]; exact HBJ.out.set 1 _, (hO6.setCell (.inr (Nat.le_of_eq hpb)) _).drew⟩, by simp [intOf]; omega⟩
      · have hje : j = x.bodies.length := by omega
        subst hje
        have hdec : decide ((x.bodies.length : Int) < (x.bodies.length : Int)) = false := decide_eq_false (by omega)
        rw [List.take_length] at hbj
        have h8 := HO6.out.only0 hO6
        obtain ⟨B, bc, hpv, -, -⟩ := own_form h8.at_.row
        subst hpv
        have hpl : pb ∉ (Value.slice B xs.length bc).ownBlock.toList := fun hq => by
          have := (h8.at_.row.lt pb (by simpa using hq)).2
          have h99 := HO6.out.at_.away (Value.slice B xs.length bc) (by simp) pb (by simpa using hq)
          omega
        have hll : lb ∉ (Value.slice B xs.length bc).ownBlock.toList := fun hq => (h8.at_.away (Value.slice B xs.length bc) (by simp) lb (by simpa using hq)).1 rfl
        obtain ⟨S, hS⟩ : ∃ S, (Value.slice B xs.length bc).ownBlock.toList = S := ⟨_, rfl⟩
        have HSe := Lib.hid hS
        rw [hS] at hpl hll
        have G3 := Within.cell (S := S) h8.at_.cell3 hll
        have P0 := Within.cell (S := S) (hbj.cell 0) hpl
        have P1 := Within.cell (S := S) (hbj.cell 1) hpl
        have P2 := Within.cell (S := S) (hbj.cell 2) hpl
        have HO8 := Lib.hid h8
        have k8d : Only [] wr wr.drew := (Only.refl _ _).drew
        obtain ⟨A4, cap4, w4, hr4, hown4, hO4, hf4⟩ := appPt (h8.at_.only0 k8d).row (by omega) [.slice VA x.bodies.length vc, .int .i64 (usedOf x.bodies), .bool true] rfl (by intro u hu; simp at hu; rcases hu with rfl | rfl | rfl <;> rfl)
        rw [hS] at hO4
        have f3 := (hO4.blk ((h8.only0 k8d).at_.blk) hll).free 3
        have q3 := (hO4.blk ((h8.only0 k8d).at_.blk) hll).cell 3
        have HR4 := Lib.hid hr4
        have HW4 := Lib.hid hown4
        have HO4 := Lib.hid hO4
        have HF4 := Lib.hid hf4
        clear hS hr4 hown4 hO4 hf4 h8 hbj
        go_wp2_with fail
        refine wp_region_in S [0, 1, 2, 3, 4, 5] [6, 7] [8, 9, 10] (by kernel_rfl) (by kernel_rfl) (by intro c d u a w h; cases d <;> exact h) ?_
        show wpQuiet _ _ _ _ [_, _, _, _, _, _] _
        repeat (go_big_quiet_step (fail))
        refine wpQuiet_nil ?_
        show wpList _ _ _ [_] _ _
        go_wp2_with fail
        refine check_of (S := S) ((Only.refl _ _).drew.alloc _) ?_
        show wpList _ _ _ [_] _ _
        go_wp2_with (at_builtin; refine Lib.wpList_append_run _ rfl (.tmp 96) (.tmp 98) 48 48 rfl _ _ rfl rfl _ _ HR4.out ?_)
        refine check_of (S := S) (k8d.of_nil.trans HO4.out) ?_
        show wpList _ _ _ [_, _, _] _ _
        go_wp2
        go_ret
        have hvlt := HV3.out.lt
        have y1 := (k1.trans k2).size
        have y2 := k3.size
        have y3 := k5.size
        have y4 := hO6.size
        have y5 := k6c.size
        have y6 : wr.heap.size ≤ w4.heap.size := HO4.out.size
        have hbase := HO.out.at_.base.size
        have hlts := HO.out.at_.lt
        have hvS : ∀ g, (Value.slice VA x.bodies.length vc).ownBlock = some g → g ∉ S := fun g hg hm => by
          rw [← HSe.out] at hm
          have h1 := (hvlt g hg).1
          have h2 := (HO.out.at_.away (Value.slice B xs.length bc) (by simp) g (by simpa using hm)).2.2.2.1
          omega
        have kS : Only S wr w4 := k8d.of_nil.trans HO4.out
        have hV4 := own_only (own_only HV6.out hO6 (by simp)) kS hvS
        have hy : ∀ g, (Value.slice VA x.bodies.length vc).ownBlock = some g → (∀ u ∈ kv6 :: Value.slice B xs.length bc :: xs.map (·.1), u.ownBlock ≠ some g) ∧ (Value.slice A4 (xs.length + 1) cap4).ownBlock ≠ some g ∧ g ≠ lb ∧ g ≠ db ∧ g ≠ mb ∧ g < w4.heap.size ∧ a.heap.size ≤ g := fun g hg => by
          have h1 := hvlt g hg
          refine ⟨fun u hu hq => ?_, fun hq => ?_, by omega, by omega, by omega, by omega, by omega⟩
          · rcases List.mem_cons.1 hu with e | hu
            · subst e
              rcases hf6 g hq with q | q
              · have := (HO.out.at_.away kv (by simp) g q).2.2.2.1
                omega
              · omega
            · have := (HO.out.at_.away u (List.mem_cons_of_mem _ hu) g hq).2.2.2.1
              omega
          · rcases HF4.out g hq with q | q
            · have := (HO.out.at_.away (Value.slice B xs.length bc) (by simp) g q).2.2.2.1
              omega
            · have : wr.heap.size ≤ g := q
              omega
        have hadd := HO8.out.add (y := (.slice VA x.bodies.length vc, ⟨x.bodies, usedOf x.bodies, true⟩)) (by rw [HSe.out]; exact kS) HW4.out HF4.out (Slc.of_own hV4).1 (.inr (.inl (own_base hV4 (Nat.zero_le _)))) hy (fun g hg => by have := (hvlt g hg).1; omega)
        first | exact ⟨rfl, hadd.lto⟩ | (rw [hxd]; exact ⟨rfl, hadd.lto⟩)
end
end Go.Proofs.YtfjkjndpndjfpaaGreatDoor
/- Contracts: the chaser's file is read as a log is opened (chunklog marked). -/
set_option linter.unusedVariables false
set_option linter.unusedSimpArgs false
namespace Go.Proofs.YtfjkjndpndjfpaaGreatDoor
open Go Go.RowKit Go.Sort
section
variable {a w w1 w' : World} {lb db mb M N : Nat} {d : DS} {L : LogS} {kv pv : Value} {xs : List (Value × PartL)}
set_option maxRecDepth 100000 in
set_option maxHeartbeats 2000000 in
theorem jmarked1_some (h : LogAt a w lb db mb d L kv pv xs) (hp : L.pre.size ≤ 1000) (hk : d.Ok M) (hM : M ≤ 1000000) {b : ByteArray} {fs : List (List UInt8)} {f : List UInt8} {n : Nat} {d2 : DS}
    (hb : LogS.bytes d (markN L.pre) = (b, 0)) (hbs : b.size ≤ 1000000) (hfr : LogS.frames b.data.toList = (fs ++ [f], n)) (hf8 : 8 ≤ f.length ∧ f.length ≤ 10000) (hfl : fs.length ≤ 1000000) (hcut : LogS.cut d (markN L.pre) n = (0, d2)) (hkt : (d.truncate (markN L.pre) n).2.Ok M) :
    Calls Tryz.prog 36 #[.pointer (some ⟨lb, 0, none⟩)] w fun e w' => e = .returned (.int .i64 0) ∧ LogTo a lb db mb w kv pv xs w' ({ L with mark := LogS.headI f }, d2) := by
  have c1 := h.cell1
  have HG := Lib.hid (jget_any h.blk h.disk (markN L.pre) (by have := hk.get_le (markN L.pre); omega))
  rw [hb] at HG
  dsimp only at HG
  have HF := Lib.hid fun (W : World) => fall_any (w := W) b hbs
  rw [hfr] at HF
  dsimp only at HF
  have HCt := fun (W : World) (kv1 : Value) (L1 : LogS) (h1 : LogAt a W lb db mb d L1 kv1 pv xs) => jcut_any h1.blk h1.disk hk (by omega) (markN L.pre) n hkt
  rw [hcut] at HCt
  dsimp only at HCt
  have HCt := Lib.hid HCt
  have hn : markN L.pre = L.pre ++ ⟨#[109, 97, 114, 107]⟩ := rfl
  rw [hn] at HG HCt
  have hlen : (fs ++ [f]).length = fs.length + 1 := by simp
  rw [hlen] at HF
  have hbl : (baL f).size = f.length := baL_size f
  have hi : LogS.headI f = i64of (ofBe ((baL f).data.toList.take 8)) := by unfold LogS.headI; rw [if_neg (by omega)]; simp [baL]
  have HI := Lib.hid fun (W : World) => inew_any (w := W) (Only.refl [] W) (baL f) (by omega)
  have HI8 := Lib.hid fun (W0 W : World) (ib : Nat) (hh : InAt W0 W ib (baL f) 0) => ii64_any hh (by omega) (by omega)
  rw [← hi] at HI8
  obtain ⟨z, hz⟩ : ∃ z, LogS.headI f = z := ⟨_, rfl⟩
  rw [hz] at HI8 ⊢
  have hmap : (fs ++ [f]).map baL = fs.map baL ++ [baL f] := by simp
  rw [hmap] at HF
  obtain ⟨bf, hbf⟩ : ∃ bf, baL f = bf := ⟨_, rfl⟩
  rw [hbf] at HI HI8 HF
  obtain ⟨bfs, hbfs⟩ : ∃ bfs, fs.map baL = bfs := ⟨_, rfl⟩
  have hbfl : bfs.length = fs.length := by rw [← hbfs, List.length_map]
  rw [hbfs] at HF
  have HBL := Lib.hid hbfl
  have HB := Lib.hid h
  have e1 := IntWalk.i64_in (((fs.length + 1 : Nat) : Int) - 1) ⟨by omega, by omega⟩
  have hd0 : decide (((fs.length + 1 : Nat) : Int) > 0) = true := decide_eq_true (by omega)
  have hps : (L.pre.size : Int) ≤ 1000 := by omega
  clear h hb hfr hcut hkt hn hlen hbl hi hz hmap hbf hbfs hbfl hk
  go_enter Tryz.func36, Tryz.ntmps36
  go_wp2_with (first
    | (go_at_call 62; refine HG.out.mono ?_; rintro e2 w2 ⟨rfl, k2⟩)
    | (go_at_call 65; refine (HF.out _).mono ?_; rintro e3 w3 ⟨A3, c3, rfl, hr3, k3⟩
       obtain ⟨g3, cp3, cur3, hv3, -, hb3⟩ := own_some hr3 (by omega)
       injection hv3 with y1 y2 y3
       subst y1
       have hc3 : w3.cell? ⟨g3, fs.length, none⟩ = some (.string bf) := by
         rw [World.ownsRow.cellAt hr3 fs.length (by omega)]
         have := HBL.out
         simp [strs, this]
       clear hr3 hb3 y2 y3))
  refine (HI.out _).mono ?_
  rintro e4 w4 ⟨ib, rfl, hI⟩
  have HI2 := Lib.hid (HI8.out _ _ _ hI)
  clear hI HI HI8 HF HG
  go_wp2_with fail
  refine HI2.out.mono ?_
  rintro e5 w5 ⟨rfl, hI5⟩
  have kk5 : Only [] w w5 := (k2.trans k3).trans hI5.only
  have h5 := HB.out.only0 kk5
  have f5 := h5.blk.free 5
  have q5 := h5.cell5
  have ks : Only [lb] w5 (w5.setCell ⟨lb, 5, none⟩ (.int .i64 z)) := (Only.refl _ _).setCell (.inl (by simp)) _
  have h6 : LogAt a (w5.setCell ⟨lb, 5, none⟩ (.int .i64 z)) lb db mb d { L with mark := z } kv pv xs := h5.head ks (h5.blk.set 5 _) rfl
  have p0 := h6.cell0
  have p1 : (w5.setCell ⟨lb, 5, none⟩ (.int .i64 z)).cell? ⟨lb, 1, none⟩ = some (.string L.pre) := h6.cell1
  have HC := Lib.hid (HCt.out _ _ _ h6)
  have HB6 := Lib.hid h6
  have KK5 := Lib.hid kk5
  clear h5 h6 hI5 kk5 HI2 HCt
  go_wp2_with (go_at_call 64; refine HC.out.mono ?_; rintro e7 w7 ⟨rfl, k7⟩)
  go_ret
  obtain ⟨kv7, h7, hf7, ho7⟩ := HB6.out.leads k7
  have hz := KK5.out.size
  have hs6 : (w5.setCell ⟨lb, 5, none⟩ (.int .i64 z)).heap.size = w5.heap.size := by simp [World.setCell]
  refine ⟨rfl, kv7, h7, fun g hg => (hf7 g hg).imp id (fun q => by omega), ?_⟩
  exact (KK5.out.of_nil.trans (ks.mono (fun g hg => by simp at hg ⊢; exact .inl hg))).trans (ho7.mono (fun g hg => by simp at hg ⊢; exact .inr hg))
end
end Go.Proofs.YtfjkjndpndjfpaaGreatDoor
/- Logs, plain: what an opening does, step by step. No program is named. -/
set_option linter.unusedVariables false
set_option linter.unusedSimpArgs false
namespace Go.Proofs.YtfjkjndpndjfpaaGreatDoor
open Go.RowKit
/-- What an opening does to the disk, step by step. -/
structure OpenX (L : LogS) (D D1 D2 : DS) : Prop where
  chunks : (LogS.new L.pre L.size).chunks D = ((L.ps.length : Int), (L.ps.length : Int) - 1)
  first : (L.ps.length = 0 ∧ D1 = D) ∨ ∃ kl f, kl + 1 = L.ps.length ∧ aget D.fs (nameK L.pre kl) = some f ∧ D1 = lastD L D f ∧ LogS.cut D (nameK L.pre kl) f.b.size = (0, D1)
  marks : ((LogS.bytes D1 (markN L.pre)).2 = 8 ∧ L.mark = 0 ∧ D2 = D1) ∨ ∃ f ms, LogS.bytes D1 (markN L.pre) = (f, 0) ∧ f.data.toList = markF (ms ++ [L.mark]) ∧ (∀ m ∈ ms ++ [L.mark], fitsI m) ∧ LogS.cut D1 (markN L.pre) f.size = (0, D2)
  whole : Whole ⟨L.pre, L.size, L.ps, L.len, L.mark, 0⟩ D2
theorem Fine.cutAll {D : DS} {n : ByteArray} {f : File} (h : Fine D) (hn : okName n) (hf : aget D.fs n = some f) : LogS.cut D n f.b.size = (0, { D with fs := aput D.fs n ⟨f.b, f.b.size, true⟩ }) := by
  have htr := h.truncate hn hf (k := (f.b.size : Int)) ⟨by omega, by omega⟩
  have hx : f.b.extract 0 ((f.b.size : Int)).toNat = f.b := by
    rw [Int.toNat_natCast]
    simp
  rw [hx] at htr
  have hsy := (h.put n ⟨f.b, min f.lasts (f.b.size : Int), f.known⟩).sync (n := n) (f := ⟨f.b, min f.lasts (f.b.size : Int), f.known⟩) hn (by show aget (aput D.fs _ _) _ = _; rw [aget_aput, if_pos rfl])
  unfold LogS.cut
  rw [htr, if_neg (by simp), hsy]
  dsimp only
  rw [aput_aput]
theorem Good.read {L : LogS} {D : DS} {b : Bool} {c : Nat} (h : Good L D b c) {k : Nat} {p : PartL} (hp : L.ps[k]? = some p) :
    ∃ f, aget D.fs (nameK L.pre k) = some f ∧ LogS.bytes D (nameK L.pre k) = (f.b, 0) ∧ readC f.b.data.toList = some ⟨k, L.size, p.bodies, f.b.size, p.done⟩ := by
  obtain ⟨f, h1, h2⟩ := h.file k p hp
  have hkl : k < L.ps.length := (List.getElem?_eq_some_iff.1 hp).1
  have hk9 : k ≤ 999999 := by have := h.few; omega
  have hb := h.fine.bytes (h.name hk9) h1
  have hr := read_image (k := k) ⟨by omega, by omega⟩ h.size (h.short p (List.mem_of_getElem? hp)) p.done
  refine ⟨f, h1, hb, ?_⟩
  rw [h2, bts_baL, hr, baL_size]
theorem Whole.openX {L : LogS} {D : DS} (h : Whole L D) : ∃ D1 D2, OpenX L D D1 D2 := by
  have hg := h.good
  have harg : LogS.openArg L.pre L.size = true := by
    unfold LogS.openArg
    rw [decide_eq_true hg.pre.1, decide_eq_true hg.pre.2, decide_eq_true hg.size.1, decide_eq_true hg.size.2]
    rfl
  have hdrop : LogS.drop D (newN L.pre) = (0, D) := by
    unfold LogS.drop
    rw [hg.fine.remove_none hg.okNew h.new]
    rfl
  have hch := hg.chunks 0 0 0 []
  -- the chunks are read
  have hgo : ∃ D1, LogS.openGo (LogS.new L.pre L.size) D L.ps.length L.ps.length 0 = (0, ⟨L.pre, L.size, L.ps, 0, 0, 0⟩, D1) ∧ ((L.ps.length = 0 ∧ D1 = D) ∨ ∃ kl f, kl + 1 = L.ps.length ∧ aget D.fs (nameK L.pre kl) = some f ∧ D1 = lastD L D f ∧ LogS.cut D (nameK L.pre kl) f.b.size = (0, D1)) ∧ (∀ s m, Good ⟨L.pre, L.size, L.ps, s, m, L.bad⟩ D1 false 1) ∧ (∀ n, chunkOf L.pre n = none → aget D1.fs n = aget D.fs n) ∧ D1.fs.length = D.fs.length := by
    by_cases h0 : L.ps.length = 0
    · have hps : L.ps = [] := List.length_eq_zero_iff.1 h0
      refine ⟨D, ?_, .inl ⟨h0, rfl⟩, fun s m => ⟨hg.fine, hg.pre, hg.size, hg.bad, hg.few, hg.cnt, hg.cle, hg.used, hg.short, hg.done, hg.file, hg.onl⟩, fun _ _ => rfl, rfl⟩
      rw [hps]
      rfl
    · obtain ⟨kl, hkl⟩ : ∃ kl, kl + 1 = L.ps.length := ⟨L.ps.length - 1, by omega⟩
      obtain ⟨f, h1, h2⟩ := hg.file kl _ (List.getElem?_eq_getElem (by omega))
      have hk9 : kl ≤ 999999 := by have := hg.few; omega
      have e : (L.ps.length : Int) - 1 = kl := by omega
      refine ⟨lastD L D f, ?_, .inr ⟨kl, f, hkl, h1, rfl, by rw [hg.fine.cutAll (hg.name hk9) h1]; unfold lastD; rw [e]⟩, fun s m => ?_, fun n hn => ?_, ?_⟩
      · have := hg.openGo hkl h1 0 0 0 kl 0 (by omega)
        rw [List.take_zero, hkl] at this
        exact this
      · have hp : L.ps[kl]? = some L.ps[kl] := List.getElem?_eq_getElem (by omega)
        have := hg.turn hkl (p := L.ps[kl]) (b' := false) (hg.used _ (List.mem_of_getElem? hp)) (hg.short _ (List.mem_of_getElem? hp)) (by rw [hg.done kl _ hp, decide_eq_false (by omega)]; rfl) (f := ⟨f.b, f.b.size, true⟩) h2 s m
        rw [List.set_getElem_self] at this
        unfold lastD
        rw [e]
        exact this
      · unfold lastD
        rw [e]
        exact put_other hk9 _ hn
      · unfold lastD
        rw [e]
        show (aput D.fs _ _).length = _
        rw [length_aput, h1]
        rfl
  obtain ⟨D1, g1, gx, g2, g3, g4⟩ := hgo
  have hg1 := g2 0 0
  have hnew1 : aget D1.fs (newN L.pre) = none := (g3 _ (chunkOf_new L.pre)).trans h.new
  have hm1 : aget D1.fs (markN L.pre) = aget D.fs (markN L.pre) := g3 _ (chunkOf_mark L.pre)
  rcases h.mark with ⟨q1, q2, q4⟩ | ⟨f, ms, q1, q2, q3⟩
  · have hmk : LogS.marked1 ⟨L.pre, L.size, L.ps, 0, 0, 0⟩ D1 = (0, ⟨L.pre, L.size, L.ps, 0, 0, 0⟩, D1) := by
      unfold LogS.marked1
      dsimp only
      rw [hg1.fine.bytes_none hg1.okMark (hm1.trans q1)]
      dsimp only
      rw [if_pos rfl]
    refine ⟨D1, D1, hch, gx, .inl ⟨by rw [hg1.fine.bytes_none hg1.okMark (hm1.trans q1)], q2, rfl⟩, ?_, hnew1, .inl ⟨hm1.trans q1, q2, by rw [g4]; exact q4⟩⟩
    have := g2 L.len L.mark
    rw [hg.bad] at this
    exact this
  · have hb := hg1.fine.bytes hg1.okMark (hm1.trans q1)
    obtain ⟨fl, hfl⟩ : ∃ fl, fl = (ms ++ [L.mark]).map i64B := ⟨_, rfl⟩
    have hfb : f.b = baL (fl.flatMap frameB) := by rw [q2, hfl]; rfl
    have hfr := frames_all fl (fun s hs => by
      rw [hfl] at hs
      obtain ⟨m, _, rfl⟩ := List.mem_map.1 hs
      rw [i64B_len]
      omega)
    have hlast : fl.getLast? = some (i64B L.mark) := by rw [hfl, List.map_append]; simp
    have hfs : f.b.size = (fl.flatMap frameB).length := by rw [hfb, baL_size]
    have htr := hg1.fine.truncate hg1.okMark (hm1.trans q1) (k := ((fl.flatMap frameB).length : Int)) ⟨by omega, by omega⟩
    have hx : f.b.extract 0 (((fl.flatMap frameB).length : Int)).toNat = f.b := by
      rw [Int.toNat_natCast, ← hfs]
      simp
    rw [hx] at htr
    have hsy := (hg1.fine.put (markN L.pre) ⟨f.b, min f.lasts ((fl.flatMap frameB).length : Int), f.known⟩).sync (n := markN L.pre) (f := ⟨f.b, min f.lasts ((fl.flatMap frameB).length : Int), f.known⟩) hg1.okMark (by show aget (aput D1.fs _ _) _ = _; rw [aget_aput, if_pos rfl])
    have hcut : LogS.cut D1 (markN L.pre) ((fl.flatMap frameB).length : Int) = (0, { D1 with fs := aput D1.fs (markN L.pre) ⟨f.b, f.b.size, true⟩ }) := by
      unfold LogS.cut
      rw [htr, if_neg (by simp), hsy]
      dsimp only
      rw [aput_aput]
    have hmk : LogS.marked1 ⟨L.pre, L.size, L.ps, 0, 0, 0⟩ D1 = (0, ⟨L.pre, L.size, L.ps, 0, L.mark, 0⟩, { D1 with fs := aput D1.fs (markN L.pre) ⟨f.b, f.b.size, true⟩ }) := by
      unfold LogS.marked1
      dsimp only
      rw [hb]
      dsimp only
      rw [if_neg (by simp), if_neg (by simp), hfb, bts_baL, hfr]
      dsimp only
      rw [hlast, hcut, hfb]
      dsimp only
      rw [headI_i64 (q3 L.mark (by simp))]
    refine ⟨D1, _, hch, gx, .inr ⟨f.b, ms, hb, by rw [q2, bts_baL], q3, hg1.fine.cutAll hg1.okMark (hm1.trans q1)⟩, ?_, ?_, .inr ⟨⟨f.b, f.b.size, true⟩, ms, ?_, q2, q3⟩⟩
    · have hg2 := g2 L.len L.mark
      rw [hg.bad] at hg2
      have hlen : (aput D1.fs (markN L.pre) (⟨f.b, f.b.size, true⟩ : File)).length = D1.fs.length := by rw [length_aput, hm1, q1]; rfl
      refine ⟨hg2.fine.put _ _, hg2.pre, hg2.size, hg2.bad, hg2.few, ?_, hg2.cle, hg2.used, hg2.short, hg2.done, fun k p hp => ?_, fun n g k hn hk => ?_⟩
      · show (aput D1.fs (markN L.pre) _).length ≤ _
        rw [hlen]
        exact hg2.cnt
      · obtain ⟨f', a1, a2⟩ := hg2.file k p hp
        refine ⟨f', ?_, a2⟩
        show aget (aput D1.fs (markN L.pre) _) _ = _
        have hk : k < L.ps.length := (List.getElem?_eq_some_iff.1 hp).1
        rw [aget_aput, if_neg (fun q => name_ne_mark L.pre (k := k) (by have := hg.few; omega) q.symm)]
        exact a1
      · have hn : aget (aput D1.fs (markN L.pre) _) n = some g := hn
        rw [aget_aput] at hn
        by_cases e : markN L.pre = n
        · have hk : chunkOf L.pre n = some k := hk
          rw [← e, chunkOf_mark] at hk
          cases hk
        · rw [if_neg e] at hn
          exact hg2.onl n g k hn hk
    · show aget (aput D1.fs (markN L.pre) _) _ = _
      rw [aget_aput, if_neg (fun q => new_ne_mark L.pre q.symm)]
      exact hnew1
    · show aget (aput D1.fs (markN L.pre) (⟨f.b, f.b.size, true⟩ : File)) (markN L.pre) = _
      rw [aget_aput, if_pos rfl]
end Go.Proofs.YtfjkjndpndjfpaaGreatDoor
/- Contracts: a log that is whole on its disk is opened (chunklog Open). -/
set_option linter.unusedVariables false
set_option linter.unusedSimpArgs false
namespace Go.Proofs.YtfjkjndpndjfpaaGreatDoor
open Go Go.RowKit Go.Sort
section
variable {a w w1 w' W : World} {lb db mb M N : Nat} {D0 D D1 D2 d : DS} {L : LogS} {kv pv : Value} {xs : List (Value × PartL)}
theorem OpenX.ok1 (hX : OpenX L D D1 D2) (hk : D.Ok M) : D1.Ok M := by
  rcases hX.first with ⟨_, e⟩ | ⟨kl, f, _, _, _, e⟩
  · rw [e]; exact hk
  · have := LogS.cut_ok hk (nameK L.pre kl) f.b.size
    rw [e] at this
    exact this
theorem OpenX.ok (hX : OpenX L D D1 D2) (hk : D.Ok M) : D2.Ok M := by
  have h1 := hX.ok1 hk
  rcases hX.marks with ⟨_, _, e⟩ | ⟨f, ms, _, _, _, e⟩
  · rw [e]; exact h1
  · have := LogS.cut_ok h1 (markN L.pre) f.size
    rw [e] at this
    exact this
/-- One chunk of a whole log is read. -/
theorem jopen1_good (hW : Whole L D) (hX : OpenX L D D1 D2) (hk : D.Ok M) (hM : M ≤ 1000000) (hall : L.all.length ≤ 1000000) (hsum : sumS L.all ≤ 1000000) {k : Nat} (hkl : k < L.ps.length) (h : LogAt a w lb db mb D ⟨L.pre, L.size, L.ps.take k, 0, 0, 0⟩ kv pv xs) :
    Calls Tryz.prog 35 #[.pointer (some ⟨lb, 0, none⟩), .int .i64 k, .bool (decide (k + 1 = L.ps.length))] w fun e w' => e = .returned (.int .i64 0) ∧ LTo a lb db mb (lblk lb db mb kv pv xs) w w' (⟨L.pre, L.size, L.ps.take (k + 1), 0, 0, 0⟩, if k + 1 = L.ps.length then D1 else D) := by
  have hg := hW.good
  have hp : L.ps[k]? = some L.ps[k] := List.getElem?_eq_getElem hkl
  obtain ⟨p, hpe⟩ : ∃ p, L.ps[k] = p := ⟨_, rfl⟩
  have htake : L.ps.take (k + 1) = L.ps.take k ++ [p] := by rw [List.take_succ_eq_append_getElem hkl, hpe]
  rw [hpe] at hp
  obtain ⟨f, h1, h2, h3⟩ := hg.read hp
  have hz := hg.zero_part hp
  have hfew := hg.few
  have hbs : f.b.size ≤ M := by
    have := hk.get_le (nameK L.pre k)
    unfold DS.get at this
    rw [h1] at this
    exact this
  have hmem : ∀ s ∈ p.bodies, s ∈ L.all := fun s hs => List.mem_flatMap.2 ⟨p, List.mem_of_getElem? hp, hs⟩
  have hsplit : ∃ l1 l2, L.all = l1 ++ p.bodies ++ l2 := by
    refine ⟨(L.ps.take k).flatMap (·.bodies), (L.ps.drop (k + 1)).flatMap (·.bodies), ?_⟩
    have : L.ps = L.ps.take k ++ (p :: L.ps.drop (k + 1)) := by
      rw [← hpe, ← List.drop_eq_getElem_cons hkl, List.take_append_drop]
    unfold LogS.all
    conv => lhs; rw [this]
    rw [List.flatMap_append, List.flatMap_cons, List.append_assoc]
  obtain ⟨l1, l2, hl⟩ := hsplit
  have hb1 : sumS p.bodies ≤ 1000000 ∧ p.bodies.length ≤ 1000000 := by
    rw [hl] at hsum hall
    unfold sumS at hsum ⊢
    simp only [List.map_append, List.sum_append, List.length_append] at hsum hall
    exact ⟨by omega, by omega⟩
  have hkt := (DS.truncate_ok hk (nameK L.pre k) (f.b.size : Int)).1
  have hxl : xs.length ≤ 1000000 := by
    have := congrArg List.length h.ps
    rw [List.length_map, List.length_take] at this
    omega
  have hps : L.pre.size ≤ 1000 := by have := hg.pre; omega
  by_cases hlast : k + 1 = L.ps.length
  · rw [decide_eq_true hlast, if_pos hlast]
    have hcut : LogS.cut D (nameK L.pre k) f.b.size = (0, D1) := by
      rcases hX.first with ⟨e, _⟩ | ⟨kl, f', e1, e2, _, e4⟩
      · omega
      · have : kl = k := by omega
        subst this
        rw [h1] at e2
        injection e2 with e2
        rw [e2]
        exact e4
    have := jopen1_at h hps hk hM hxl k (by omega) true h2 (by omega) h3 rfl (.inr rfl) hb1 (d2 := D1) (fun _ => hcut) (fun q => by cases q) hkt
    rw [← hz, ← htake] at this
    exact this
  · rw [decide_eq_false hlast, if_neg hlast]
    have hd : p.done = true := by rw [hg.done k p hp, decide_eq_true (by omega)]; rfl
    have := jopen1_at h hps hk hM hxl k (by omega) false h2 (by omega) h3 rfl (.inl hd) hb1 (d2 := D) (fun q => by cases q) (fun _ => rfl) hkt
    rw [← hz, ← htake] at this
    exact this
/-- The chaser's file of a whole log is read. -/
theorem jmarked1_good (hW : Whole L D) (hX : OpenX L D D1 D2) (hk : D.Ok M) (hM : M ≤ 1000000) (h : LogAt a w lb db mb D1 ⟨L.pre, L.size, L.ps, 0, 0, 0⟩ kv pv xs) :
    Calls Tryz.prog 36 #[.pointer (some ⟨lb, 0, none⟩)] w fun e w' => e = .returned (.int .i64 0) ∧ LogTo a lb db mb w kv pv xs w' (⟨L.pre, L.size, L.ps, 0, L.mark, 0⟩, D2) := by
  have hk1 := hX.ok1 hk
  have hps : L.pre.size ≤ 1000 := by have := hW.good.pre; omega
  rcases hX.marks with ⟨m1, m2, m3⟩ | ⟨f, ms, m1, m2, m3, m4⟩
  · have := jmarked1_none h hps (by have := hk1.get_le (markN L.pre); show (D1.get (markN L.pre)).b.size ≤ _; omega) m1
    have hm : LogS.marked1 ⟨L.pre, L.size, L.ps, 0, 0, 0⟩ D1 = (0, ⟨L.pre, L.size, L.ps, 0, 0, 0⟩, D1) := by unfold LogS.marked1; dsimp only; rw [if_pos m1]
    rw [hm] at this
    rw [m2, m3]
    exact this
  · have hfr := frames_all ((ms ++ [L.mark]).map i64B) (fun s hs => by
      obtain ⟨m, _, rfl⟩ := List.mem_map.1 hs
      rw [i64B_len]
      omega)
    have hfs : (((ms ++ [L.mark]).map i64B).flatMap frameB).length = f.size := by
      have : f.data.toList.length = f.size := by simp
      rw [← this, m2]
      rfl
    have hm2 : f.data.toList = ((ms ++ [L.mark]).map i64B).flatMap frameB := m2
    rw [hfs, ← hm2, List.map_append, List.map_singleton] at hfr
    have hbsz : f.size ≤ M := by
      have h1 := hk1.get_le (markN L.pre)
      have h2 : LogS.bytes D1 (markN L.pre) = (f, 0) := m1
      unfold LogS.bytes at h2
      split at h2
      · injection h2 with h3 h4
        omega
      · have h5 : f.size ≤ (D1.get (markN L.pre)).b.size := by
          unfold DS.read at h2
          split at h2
          · injection h2 with h3 h4
            rw [← h3]
            exact Nat.zero_le _
          · split at h2
            · injection h2 with h3 h4
              rw [← h3]
              exact Nat.zero_le _
            · injection h2 with h3 h4
              rw [← h3, ByteArray.size_extract]
              omega
        omega
    have hlen : ms.length ≤ 1000000 := by
      have : (ms.map i64B).length ≤ f.size := by
        have h1 := flat_ge ((ms ++ [L.mark]).map i64B)
        rw [hfs, List.length_map, List.length_append] at h1
        rw [List.length_map]
        omega
      rw [List.length_map] at this
      omega
    have := jmarked1_some h hps hk1 hM (b := f) (fs := ms.map i64B) (f := i64B L.mark) (n := f.size) (d2 := D2) m1 (by omega) hfr ⟨by rw [i64B_len]; omega, by rw [i64B_len]; omega⟩ (by rw [List.length_map]; exact hlen) m4 (DS.truncate_ok hk1 _ _).1
    rw [headI_i64 (m3 L.mark (by simp))] at this
    exact this
end
end Go.Proofs.YtfjkjndpndjfpaaGreatDoor
/- Contracts: a log that is whole on its disk is opened (chunklog Open), the walk. -/
set_option linter.unusedVariables false
set_option linter.unusedSimpArgs false
namespace Go.Proofs.YtfjkjndpndjfpaaGreatDoor
open Go Go.RowKit Go.Sort
section
variable {a w w1 w' W : World} {lb db mb M N : Nat} {D0 D D1 D2 d : DS} {L : LogS} {kv pv : Value} {xs : List (Value × PartL)}
set_option maxRecDepth 100000 in
set_option maxHeartbeats 4000000 in
theorem jopen_whole (hT : Tab a) (hO : Only [] a w) (hd : DiskAt w db mb D0 kv) (hu : a.heap.size ≤ db ∧ a.heap.size ≤ mb) (hkv : ∀ g, kv.ownBlock = some g → a.heap.size ≤ g) (hk0 : D0.Ok M) (hM : M ≤ 1000000)
    (hdr : LogS.drop D0 (newN L.pre) = (0, D)) (hW : Whole L D) (hX : OpenX L D D1 D2) (hall : L.all.length ≤ 1000000) (hsum : sumS L.all ≤ 1000000) :
    Calls Tryz.prog 11 #[.pointer (some ⟨db, 0, none⟩), .string L.pre, .int .i64 L.size] w fun e w' => ∃ lb kv' pv' xs', e = .returned (.tuple #[.pointer (some ⟨lb, 0, none⟩), .int .i64 0]) ∧ LogAt a w' lb db mb D2 ⟨L.pre, L.size, L.ps, L.len, L.mark, 0⟩ kv' pv' xs' ∧ w.heap.size ≤ lb ∧ Only (db :: mb :: kv.ownBlock.toList) w w' := by
  have hg := hW.good
  have p1 := hg.pre
  have p3 := hg.size
  have q1 : decide ((L.pre.size : Int) < 1) = false := decide_eq_false (by omega)
  have q2 : decide ((L.pre.size : Int) > 20) = false := decide_eq_false (by omega)
  have q3 : decide (L.size < 100) = false := decide_eq_false (by omega)
  have q4 : decide (L.size > 1000000) = false := decide_eq_false (by omega)
  have HCl := Lib.hid (fun (W : World) => strClone_any L.pre W (by omega))
  have hk : D.Ok M := by have := LogS.drop_ok hk0 (newN L.pre); rw [hdr] at this; exact this
  have HD := Lib.hid (fun (W : World) (lb : Nat) (kv1 : Value) (h : LogAt a W lb db mb D0 (LogS.new L.pre L.size) kv1 (.slice none 0 0) []) => jdrop_any h.blk h.disk hk0 (by omega) (newN L.pre))
  rw [hdr] at HD
  dsimp only at HD
  rw [show newN L.pre = L.pre ++ ⟨#[110, 101, 119]⟩ from rfl] at HD
  have HC := Lib.hid (fun (W : World) (lb : Nat) (kv1 : Value) (h : LogAt a W lb db mb D (LogS.new L.pre L.size) kv1 (.slice none 0 0) []) => jchunks_any h (by show L.pre.size ≤ 20; omega) hk.fs)
  rw [hX.chunks] at HC
  have hn150 := hg.few
  have hlen : L.len ≤ 1000000 := by rw [len_all]; omega
  obtain ⟨n, hnn⟩ : ∃ n, L.ps.length = n := ⟨_, rfl⟩
  rw [hnn] at HC hn150
  dsimp only at HC
  rw [decide_eq_true rfl] at HC
  have H1 := Lib.hid fun (W : World) (lb k : Nat) (kv1 pv1 : Value) (xs1 : List (Value × PartL)) (hkl : k < L.ps.length) (h : LogAt a W lb db mb D ⟨L.pre, L.size, L.ps.take k, 0, 0, 0⟩ kv1 pv1 xs1) => jopen1_good hW hX hk hM hall hsum hkl h
  rw [hnn] at H1
  have HMk := Lib.hid fun (W : World) (lb : Nat) (kv1 pv1 : Value) (xs1 : List (Value × PartL)) (h : LogAt a W lb db mb D1 ⟨L.pre, L.size, L.ps, 0, 0, 0⟩ kv1 pv1 xs1) => jmarked1_good hW hX hk hM h
  have HLn := Lib.hid fun (W : World) (lb : Nat) (kv1 pv1 : Value) (xs1 : List (Value × PartL)) (h : LogAt a W lb db mb D2 ⟨L.pre, L.size, L.ps, 0, L.mark, 0⟩ kv1 pv1 xs1) => jlen_any h (by rw [xs_len h]; show L.ps.length ≤ _; omega) (by show L.len ≤ _; omega)
  have hle : LogS.len ⟨L.pre, L.size, L.ps, 0, L.mark, 0⟩ = L.len := rfl
  rw [hle] at HLn
  have htk : L.ps.take n = L.ps := List.take_of_length_le (by omega)
  have HTk := Lib.hid htk
  have hz0 : n = 0 → D1 = D := fun h0 => by
    rcases hX.first with ⟨_, e⟩ | ⟨kl, f, e, _⟩
    · exact e
    · omega
  have HZ0 := Lib.hid hz0
  have HF := Lib.hid (fun (W : World) (k : Only [] w W) => LogAt.fresh hT (hO.trans k) (hd.only k (by simp) (by simp) (by simp)) hu hkv L.pre L.size)
  have hp2 : L.pre.size ≤ 20 := p1.2
  clear hg p1 p3 hk hk0 hdr hW hX hall hsum hlen hnn hle htk hz0 hd hT hO hu hkv
  go_enter Tryz.func11, Tryz.ntmps11
  go_wp2_with (go_at_call 32; refine (HCl.out _).mono ?_; rintro e1 w1 ⟨rfl, k1⟩; have h2 : LogAt a (w1.alloc (.cells #[.pointer (some ⟨db, 0, none⟩), .string L.pre, .int .i64 L.size, .slice none 0 0, .int .i64 0, .int .i64 0, .int .i64 0] 50)) w1.heap.size db mb D0 (LogS.new L.pre L.size) kv (.slice none 0 0) [] := HF.out _ k1; have HA := Lib.hid h2; have c1 : World.cell? _ ⟨w1.heap.size, 1, none⟩ = some (.string L.pre) := h2.cell1; clear h2)
  go_wp2_with fail
  refine (HD.out _ _ _ HA.out).mono ?_
  rintro e2 w2 ⟨rfl, k2⟩
  obtain ⟨kv2, h2, hf2, k2c⟩ := HA.out.leads k2
  have HA2 := Lib.hid h2
  clear k2 h2 HA c1
  go_wp2_with fail
  refine (HC.out _ _ _ HA2.out).mono ?_
  rintro e3 w3 ⟨rfl, k3⟩
  have h3 := HA2.out.only0 k3
  have hO3 := LogOn.refl h3
  obtain ⟨R, hR⟩ : ∃ R, lblk w1.heap.size db mb kv2 (.slice none 0 0) [] = R := ⟨_, rfl⟩
  rw [hR] at hO3
  have HO3 := Lib.hid hO3
  have hlbz := k1.size
  have hQ : Only (db :: mb :: kv.ownBlock.toList) w w3 := (((k1.alloc _).of_nil.trans k2c).trans k3.of_nil).mono (fun g hg => by
    simp only [List.mem_cons, List.not_mem_nil, or_false] at hg
    rcases hg with e | e
    · subst e; exact List.mem_cons_self ..
    · subst e; exact List.mem_cons_of_mem _ (List.mem_cons_self ..))
  have hRm : ∀ g ∈ R, g ∈ db :: mb :: kv.ownBlock.toList ∨ w.heap.size ≤ g := fun g hg => by
    rw [← hR] at hg
    rcases mem_lblk.1 hg with e | e | e | ⟨v, hv, hq⟩
    · exact .inr (by omega)
    · subst e; exact .inl (List.mem_cons_self ..)
    · subst e; exact .inl (List.mem_cons_of_mem _ (List.mem_cons_self ..))
    · simp only [List.map_nil, List.mem_cons, List.not_mem_nil, or_false] at hv
      rcases hv with e | e
      · subst e
        rcases hf2 g hq with q | q
        · exact .inl (List.mem_cons_of_mem _ (List.mem_cons_of_mem _ (by simpa using q)))
        · refine .inr ?_
          have : w1.heap.size ≤ (w1.alloc (.cells #[.pointer (some ⟨db, 0, none⟩), .string L.pre, .int .i64 L.size, .slice none 0 0, .int .i64 0, .int .i64 0, .int .i64 0] 50)).heap.size := by simp
          omega
      · subst e; cases hq
  have HQ := Lib.hid hQ
  have HRm := Lib.hid hRm
  obtain ⟨lb, hlb⟩ : ∃ lb, w1.heap.size = lb := ⟨_, rfl⟩
  rw [hlb] at HO3
  clear h3 hO3 hR HC HD HF HCl hQ hRm
  go_wp2_with fail
  go_loopw [59] (fun i wr => ∃ (k : Nat) (dk : DS) (kvk pvk : Value) (xsk : List (Value × PartL)), i = .int .i64 k ∧ k ≤ n ∧ Hid (LogOn a R w3 wr lb db mb dk ⟨L.pre, L.size, L.ps.take k, 0, 0, 0⟩ kvk pvk xsk) ∧ Hid (dk = if k = n then D1 else D)) (fun i _ => n - (intOf i).toNat)
  case atStart =>
    refine ⟨0, D, kv2, .slice none 0 0, [], rfl, Nat.zero_le _, HO3.out, ?_⟩
    unfold Hid
    by_cases h0 : 0 = n
    · rw [if_pos h0, HZ0.out h0.symm]
    · rw [if_neg h0]
  case round =>
    obtain ⟨k, dk, kvk, pvk, xsk, rfl, hkn, HOk, hdk⟩ := hrel
    by_cases hlt : k < n
    · have hdec : decide ((k : Int) < (n : Int)) = true := decide_eq_true (by omega)
      have hdk2 := hdk.out
      rw [if_neg (by omega)] at hdk2
      subst hdk2
      have hc := H1.out _ lb k _ _ _ hlt HOk.out.at_
      have hbe : ((k : Int) == (n : Int) - 1) = decide (k + 1 = n) := by
        rw [Bool.eq_iff_iff]
        simp
        omega
      have e1 := IntWalk.i64_in ((n : Int) - 1) ⟨by omega, by omega⟩
      obtain ⟨bl, hbl⟩ : ∃ bl, decide (k + 1 = n) = bl := ⟨_, rfl⟩
      obtain ⟨dn, hdn⟩ : ∃ dn, (if k + 1 = n then D1 else dk) = dn := ⟨_, rfl⟩
      rw [hbl] at hc hbe
      rw [hdn] at hc
      have HC1 := Lib.hid hc
      have HDn : Hid (dn = if k + 1 = n then D1 else dk) := hdn.symm
      clear hc hbl hdn hdk
      go_wp2_with fail
      refine HC1.out.mono ?_
      rintro e5 w5 ⟨rfl, k5⟩
      obtain ⟨kv5, pv5, xs5, h5⟩ := HOk.out.next k5
      have HO5 := Lib.hid h5
      clear k5 h5
      go_wp2
      exact ⟨⟨k + 1, dn, kv5, pv5, xs5, by simp, hlt, HO5, HDn⟩, by simp [intOf]; omega⟩
    · have hke : k = n := by omega
      subst hke
      have hdec : decide ((k : Int) < (k : Int)) = false := decide_eq_false (by omega)
      have hdk2 := hdk.out
      rw [if_pos rfl] at hdk2
      subst hdk2
      have hoo := HOk.out
      rw [HTk.out] at hoo
      have HO6 := Lib.hid hoo
      have HMk2 := Lib.hid (HMk.out _ _ _ _ _ hoo.at_)
      clear hoo HOk hdk HMk
      go_wp2_with fail
      refine HMk2.out.mono ?_
      rintro e6 w6 ⟨rfl, k6⟩
      obtain ⟨kv6, h6⟩ := HO6.out.to k6
      have HO7 := Lib.hid h6
      clear k6 h6
      go_wp2_with fail
      refine (HLn.out _ _ _ _ _ HO7.out.at_).mono ?_
      rintro e7 w7 ⟨rfl, k7⟩
      have h7 := HO7.out.at_.only0 k7
      have HA7 := Lib.hid h7
      have f4 := h7.blk.free 4
      have c4 := h7.cell4
      clear h7
      go_wp2
      go_ret2
      have ks : Only [lb] w7 (w7.setCell ⟨lb, 4, none⟩ (.int .i64 L.len)) := (Only.refl _ _).setCell (.inl (by simp)) _
      refine ⟨lb, kv6, _, _, rfl, HA7.out.head ks (HA7.out.blk.set 4 _) rfl, by omega, (HQ.out.step (HO7.out.only.trans k7.of_nil) HRm.out).step ks (fun g hg => ?_)⟩
      rw [List.mem_singleton.1 hg]
      exact .inr (by omega)
end
end Go.Proofs.YtfjkjndpndjfpaaGreatDoor
/- LogMarks: the chaser is what was marked last, also behind a crash. -/
set_option linter.unusedVariables false
set_option linter.unusedSimpArgs false
namespace Go.Proofs.YtfjkjndpndjfpaaGreatDoor
open Go Go.RowKit Go.Sort
section
variable {a w w1 w' W : World} {lb db mb M N : Nat} {D0 D D1 D2 d : DS} {L : LogS} {kv pv : Value} {xs : List (Value × PartL)}
theorem LogS.appendGo_ok : ∀ (l : List ByteArray) {L : LogS} {d : DS} {M : Nat}, d.Ok M → (L.appendGo d l).2.2.Ok (M + wtS l)
  | [], L, d, M, h => h.mono (by omega)
  | s :: l, L, d, M, h => by
    have h1 := LogS.append1_ok (L := L) h s
    unfold LogS.appendGo
    dsimp only
    rw [wtS_cons]
    split
    · exact h1.mono (by omega)
    · exact (LogS.appendGo_ok l h1).mono (by omega)
theorem LogS.append_ok (h : d.Ok M) (l : List ByteArray) : (L.append d l).2.2.Ok (M + wtS l) := by
  unfold LogS.append
  split
  · exact h.mono (by omega)
  · split
    · exact h.mono (by omega)
    · dsimp only
      split
      · exact LogS.appendGo_ok l h
      · exact LogS.appendGo_ok l h
theorem Whole.sync (h : Whole L D) : ∃ s' D', L.sync1 D = (0, ⟨L.pre, L.size, L.ps, s', L.mark, L.bad⟩, D') ∧ Whole ⟨L.pre, L.size, L.ps, s', L.mark, L.bad⟩ D' ∧ (Firm4 L D → Firm D') := by
  obtain ⟨s', D', h1, h2, h3, h4, h5, -⟩ := h.good.sync
  refine ⟨s', D', by rw [h.good.sync1, h1], ⟨h2, (h3 _ (chunkOf_new L.pre)).trans h.new, ?_⟩, h5⟩
  rcases h.mark with ⟨q1, q2, q3⟩ | ⟨f, ms, q1, q2, q3⟩
  · exact .inl ⟨(h3 _ (chunkOf_mark L.pre)).trans q1, q2, by rw [h4]; exact q3⟩
  · exact .inr ⟨f, ms, (h3 _ (chunkOf_mark L.pre)).trans q1, q2, q3⟩
theorem LogS.setMark_ok (h : d.Ok M) (n : Int) : (L.setMark d n).2.2.Ok (M + 20) := by
  have hfl : (baL (frameB (i64B n))).size = 20 := by rw [baL_size, frameB_len, i64B_len]
  have h1 := (DS.append_ok h (markN L.pre) (baL (frameB (i64B n)))).1
  rw [hfl] at h1
  unfold LogS.setMark
  split
  · exact h.mono (by omega)
  · split
    · exact h.mono (by omega)
    · dsimp only
      split
      · exact h1
      · split
        · exact (DS.sync_ok h1 _).1
        · exact (DS.sync_ok h1 _).1
theorem Whole.noNew (h : Whole L D) : LogS.drop D (newN L.pre) = (0, D) := by
  unfold LogS.drop
  rw [h.good.fine.remove_none h.good.okNew h.new]
  rfl
set_option maxRecDepth 100000 in
set_option maxHeartbeats 4000000 in
theorem marks_go (w : World) (hT : Tab w) (v0 v1 v2 : Value) (ss : List ByteArray) (ms ks : List Int) (hv0 : Slc w 1 v0 ss.length (strs ss)) (hz : ∀ s ∈ ss, s.size ≤ maxLen) (hg0 : ∀ g, v0.ownBlock = some g → g < w.heap.size ∨ ss = [])
    (hv1 : Slc w 1 v1 ms.length (ints ms)) (hv2 : Slc w 1 v2 ks.length (ints ks)) (hg2 : ∀ g, v2.ownBlock = some g → g < w.heap.size ∨ ks = []) :
    Calls Tryz.prog 4 #[v0, v1, v2] w fun e w' => e = .returned (.bool true) ∧ Only [] w w' := by
  have HAl := Lib.hid (fun (W : World) (k : Only [] w W) => alive11_any W (hT.only k))
  have HSh := Lib.hid (bShort_any (few := 30) (room := 2000) hv0 hz (by omega) (by omega) (by omega) (by omega))
  obtain ⟨A0, c0, rfl⟩ := slc_len hv0
  obtain ⟨A1, c1, rfl⟩ := slc_len hv1
  obtain ⟨A2, c2, rfl⟩ := slc_len hv2
  go_enter Tryz.func4, Tryz.ntmps4
  go_wp2_with fail
  refine HSh.out.mono ?_
  rintro e1 w1 ⟨⟨b, rfl, hb⟩, k1⟩
  cases b with
  | false =>
    go_wp2_with (go_at_call 9; refine (HAl.out _ k1).mono ?_; rintro e2 w2 ⟨rfl, k2⟩)
    go_ret
    exact ⟨rfl, k1.trans k2⟩
  | true =>
    by_cases h3 : (ms.length : Int) > 30
    · have q3 : decide ((ms.length : Int) > 30) = true := decide_eq_true h3
      go_wp2_with (go_at_call 9; refine (HAl.out _ k1).mono ?_; rintro e2 w2 ⟨rfl, k2⟩)
      go_ret
      exact ⟨rfl, k1.trans k2⟩
    have q3 : decide ((ms.length : Int) > 30) = false := decide_eq_false h3
    by_cases h4 : (ks.length : Int) > 10
    · have q4 : decide ((ks.length : Int) > 10) = true := decide_eq_true h4
      go_wp2_with (go_at_call 9; refine (HAl.out _ k1).mono ?_; rintro e2 w2 ⟨rfl, k2⟩)
      go_ret
      exact ⟨rfl, k1.trans k2⟩
    have q4 : decide ((ks.length : Int) > 10) = false := decide_eq_false h4
    obtain ⟨hlen, hsum⟩ := hb rfl
    have hT1 := hT.only k1
    have hO1 := Lib.hid fun (W : World) (k : Only [] w1 W) (db mb : Nat) (hd : DiskAt W db mb (DS.new 0) (.slice none 0 0)) (hu : w1.heap.size ≤ db ∧ w1.heap.size ≤ mb) => jopen_new hT1 k hd hu (fun g hg => by cases hg) ⟨#[112]⟩ 4000 (by decide)
    have hN := Lib.hid (new_any w1 (room := 0) (by omega))
    go_wp2_with fail
    refine hN.out.mono ?_
    rintro e2 w2 ⟨rfl, hd2, k2⟩
    have HO2 := Lib.hid (hO1.out w2 k2 _ _ hd2 (by omega))
    clear hO1 hN hd2
    go_wp2_with fail
    refine HO2.out.mono ?_
    rintro e3 w3 ⟨lb, kv3, rfl, hA3, k3, hlb⟩
    have hW0 : Whole (LogS.new ⟨#[112]⟩ 4000) (DS.new 0) := whole_new (by decide) (by omega) fine_new rfl
    have HSm := smn_new ⟨#[112]⟩ 4000 (by decide)
    have hwt := wtS_sum ss
    have hge := hA3.ge
    have HAp := jappend_any hA3 HSm (DS.new_ok 0) (hv0.only0 (k1.trans k3)) (fun g hg => (hg0 g hg).imp (fun q hm => by
      have := hge g hm
      have := k1.size
      omega) id) (by omega) (by omega) (by omega)
    have hone : ∀ s ∈ ss, (s.size : Int) ≤ roomC 4000 0 := fun s hs => by
      have h5 : roomC 4000 0 = 3987 := rfl
      have h6 : s.size ≤ sumS ss := by
        obtain ⟨l1, l2, e⟩ := List.append_of_mem hs
        rw [e]
        unfold sumS
        simp
        omega
      rw [h5]
      omega
    obtain ⟨L1, D1, a1, a2, a3, a4, a5, a6, a7, a8⟩ := hW0.append (l := ss) (by simp [LogS.new]; omega) hone
    have hok1 := LogS.append_ok (L := LogS.new ⟨#[112]⟩ 4000) (DS.new_ok 0) ss
    rw [a1] at HAp hok1
    dsimp only at hok1
    have hf1 : Firm4 L1 D1 := a8 (fun n f hf => by cases hf)
    have hall1 : L1.all = ss := by rw [a3]; rfl
    obtain ⟨pre1, size1, ps1, syn1, mark1, bad1⟩ := L1
    have hbad := a2.good.bad
    have e4 : pre1 = ⟨#[112]⟩ := a4
    have e5 : size1 = 4000 := a5
    have e6 : mark1 = 0 := a6
    have e7 : bad1 = 0 := hbad
    subst e4 e5 e6 e7
    obtain ⟨s2, D2, b1, b2, b3⟩ := a2.sync
    have hok2 : D2.Ok (0 + wtS ss) := by
      have h7 := LogS.sync_ok (L := ⟨⟨#[112]⟩, 4000, ps1, syn1, 0, 0⟩) hok1
      have h8 : LogS.sync1 ⟨⟨#[112]⟩, 4000, ps1, syn1, 0, 0⟩ D1 = LogS.sync ⟨⟨#[112]⟩, 4000, ps1, syn1, 0, 0⟩ D1 := rfl
      rw [← h8, b1] at h7
      exact h7
    have hfirm := b3 hf1
    have hpl : ps1.length ≤ 30 := by simp [LogS.new] at a7; omega
    have hlen1 : ∀ s m, LogS.len ⟨⟨#[112]⟩, 4000, ps1, s, m, 0⟩ = ss.length := fun s m => by
      have : LogS.len ⟨⟨#[112]⟩, 4000, ps1, s, m, 0⟩ = LogS.len ⟨⟨#[112]⟩, 4000, ps1, syn1, 0, 0⟩ := rfl
      rw [this, len_all, hall1]
    have HAp := Lib.hid HAp
    have HS1 := Lib.hid fun (W : World) (kv1 pv1 : Value) (xs1 : List (Value × PartL)) (h : LogAt w1 W lb (w1.heap.size + 1) w1.heap.size D1 ⟨⟨#[112]⟩, 4000, ps1, syn1, 0, 0⟩ kv1 pv1 xs1) => jsync1_at h rfl (by show (⟨#[112]⟩ : ByteArray).size ≤ 1000; decide) hok1 (by omega) (by rw [xs_len h]; show ps1.length ≤ _; omega) (by rw [hlen1]; omega)
    rw [b1] at HS1
    dsimp only at HS1
    have HLen := Lib.hid hlen1
    have HW2 := Lib.hid b2
    have HFm := Lib.hid hfirm
    have HOk2 := Lib.hid hok2
    have HAll := Lib.hid hall1
    have hall2 : (LogS.new ⟨#[112]⟩ 4000).all.length = 0 := rfl
    have e0 : ((0 : Nat) : Int) = 0 := rfl
    rw [hall2, e0] at HAp
    have hwb : wtS ss ≤ 6000 := by omega
    clear hW0 HSm hA3 hge a1 a2 a3 a4 a5 a6 a7 a8 b1 b2 b3 hok1 hok2 hf1 hfirm hall1 hlen1 hb hwt hbad hone hall2 e0
    go_wp2_with fail
    refine HAp.out.mono ?_
    rintro e4 w4 ⟨rfl, k4⟩
    obtain ⟨kv4, pv4, xs4, h4⟩ := k4.on
    have hk4 : Only [] w1 w4 := h4.at_.base
    have HS4 := Lib.hid (HS1.out _ _ _ _ h4.at_)
    clear k4 h4 HAp HS1 HO2
    go_wp2_with fail
    refine HS4.out.mono ?_
    rintro e5 w5 ⟨rfl, k5⟩
    obtain ⟨kv5, h5, -, -⟩ := k5
    have hk5 : Only [] w1 w5 := h5.base
    have HA5 := Lib.hid h5
    clear h5 HS4 hk4
    go_wp2_with fail
    go_loopw [12, 13] (fun o i wr => ∃ (j : Nat) (la : Int) (Dk : DS) (kvk pvk : Value) (xsk : List (Value × PartL)), i = .int .i64 j ∧ o = .int .i64 la ∧ j ≤ ms.length ∧ 0 ≤ la ∧ la ≤ ss.length ∧ Hid (LogAt w1 wr lb (w1.heap.size + 1) w1.heap.size Dk ⟨⟨#[112]⟩, 4000, ps1, s2, la, 0⟩ kvk pvk xsk) ∧ Hid (Whole ⟨⟨#[112]⟩, 4000, ps1, s2, la, 0⟩ Dk) ∧ Hid (Firm Dk) ∧ Hid (Dk.Ok (6000 + 20 * j))) (fun _ i _ => ms.length - (intOf i).toNat)
    case atStart => exact ⟨0, 0, D2, kv5, pv4, xs4, rfl, rfl, Nat.zero_le _, Int.le_refl _, by omega, HA5, HW2, HFm, HOk2.out.mono (by omega)⟩
    case round =>
      obtain ⟨j, la, Dk, kvk, pvk, xsk, rfl, rfl, hj, hla0, hla1, HAk, HWk, HFk, HOk⟩ := hrel
      have hbk : Only [] w wr := k1.trans HAk.out.base
      have hxl : xsk.length ≤ 1000000 := by rw [xs_len HAk.out]; show ps1.length ≤ _; omega
      by_cases hjl : j < ms.length
      · have hdec : decide ((j : Int) < (ms.length : Int)) = true := decide_eq_true (by omega)
        obtain ⟨A1', c1', hvv, -, -, hvc⟩ := (hv1.only0 hbk).openI
        injection hvv with y1 y2 y3
        subst y1 y3
        obtain ⟨b1, o1, rfl, hb1l, hb1⟩ := hvc j hjl
        obtain ⟨z, hzz⟩ : ∃ z, ms[j] = z := ⟨_, rfl⟩
        rw [hzz] at hb1
        clear hvc y2 hzz
        by_cases hin : 0 ≤ z ∧ z ≤ (ss.length : Int)
        · obtain ⟨Dn, m1, m2, m3⟩ := HWk.out.setMark (n := z) hin.1 (by rw [HLen.out]; exact hin.2) ⟨by omega, by omega⟩
          have hc := jmark_ok HAk.out rfl (by show (⟨#[112]⟩ : ByteArray).size ≤ 1000; decide) HOk.out (by omega) hxl (by rw [HLen.out]; omega) z hin.1 (by rw [HLen.out]; exact hin.2)
          have hok := LogS.setMark_ok (L := ⟨⟨#[112]⟩, 4000, ps1, s2, la, 0⟩) HOk.out z
          rw [m1] at hc hok
          dsimp only at hc hok
          have HC := Lib.hid hc
          have HMn := Lib.hid m2
          have HFn := Lib.hid (m3 HFk.out)
          have HOn : Hid (Dn.Ok (6000 + 20 * (j + 1))) := hok.mono (by omega)
          have d1 : decide (z ≥ 0) = true := decide_eq_true hin.1
          have d2 : decide (z ≤ (ss.length : Int)) = true := decide_eq_true hin.2
          have HMd := Lib.hid fun (W : World) (kv9 pv9 : Value) (xs9 : List (Value × PartL)) (h : LogAt w1 W lb (w1.heap.size + 1) w1.heap.size Dn ⟨⟨#[112]⟩, 4000, ps1, s2, z, 0⟩ kv9 pv9 xs9) => jmarked_any h (by rw [xs_len h]; show ps1.length ≤ _; omega) (by rw [HLen.out]; omega)
          have hmk : LogS.marked ⟨⟨#[112]⟩, 4000, ps1, s2, z, 0⟩ = z := by unfold LogS.marked; rw [HLen.out]; show max (min z _) 0 = z; omega
          rw [hmk] at HMd
          have hb1' : ∀ W, Only [] w1 W → W.cell? ⟨b1, o1 + j, none⟩ = some (.int .i64 z) := fun W k => by
            obtain ⟨A9, c9, hv9, -, -, h9⟩ := (hv1.only0 (k1.trans k)).openI
            injection hv9 with z1 z2 z3
            obtain ⟨b9, o9, e9, _, h99⟩ := h9 j hjl
            rw [← z1] at e9
            injection e9 with e9
            injection e9 with e9 e10
            subst e9 e10
            rw [h99]
            have h8 := hb1
            obtain ⟨A8, c8, hv8, -, -, h88⟩ := (hv1.only0 hbk).openI
            injection hv8 with u1 u2 u3
            obtain ⟨b8, o8, e8, _, h888⟩ := h88 j hjl
            rw [← u1] at e8
            injection e8 with e8
            injection e8 with e8 e11
            subst e8 e11
            rw [h888] at h8
            exact h8
          clear hc hok m1 m2 m3 hmk
          go_wp2_with fail
          refine HC.out.mono ?_
          rintro e6 w6 ⟨rfl, k6⟩
          obtain ⟨kv6, h6, -, -⟩ := k6
          have HA6 := Lib.hid h6
          have cz := hb1' _ h6.base
          have HM6 := Lib.hid (HMd.out _ _ _ _ h6)
          clear h6
          go_wp2_with (go_at_call 19; refine HM6.out.mono ?_; rintro e7 w7 ⟨rfl, k7⟩)
          exact ⟨⟨j + 1, z, Dn, kv6, pvk, xsk, by simp, rfl, hjl, hin.1, hin.2, HA6.out.only0 k7, HMn, HFn, HOn⟩, by simp [intOf]; omega⟩
        · have HC := Lib.hid (jmark_bad HAk.out rfl hxl (by rw [HLen.out]; omega) z (by rw [HLen.out]; omega))
          have HMd := Lib.hid fun (W : World) (k : Only [] wr W) => jmarked_any (HAk.out.only0 k) hxl (by rw [HLen.out]; omega)
          have hmk : LogS.marked ⟨⟨#[112]⟩, 4000, ps1, s2, la, 0⟩ = la := by unfold LogS.marked; rw [HLen.out]; show max (min la _) 0 = la; omega
          rw [hmk] at HMd
          have cz : ∀ W, Only [] wr W → W.cell? ⟨b1, o1 + j, none⟩ = some (.int .i64 z) := fun W k => (k.cell (p := ⟨b1, o1 + j, none⟩) hb1l (by simp)).trans hb1
          have HCz := Lib.hid cz
          clear cz hmk
          by_cases hneg : z ≥ 0
          · have d1 : decide (z ≥ 0) = true := decide_eq_true hneg
            have d2 : decide (z ≤ (ss.length : Int)) = false := decide_eq_false (by omega)
            go_wp2_with (first
              | (go_at_call 18; refine HC.out.mono ?_; rintro e6 w6 ⟨rfl, k6⟩; have cz := HCz.out _ k6)
              | (go_at_call 19; refine (HMd.out _ k6).mono ?_; rintro e7 w7 ⟨rfl, k7⟩))
            exact ⟨⟨j + 1, la, Dk, kvk, pvk, xsk, by simp, rfl, hjl, hla0, hla1, (HAk.out.only0 k6).only0 k7, HWk, HFk, HOk.out.mono (by omega)⟩, by simp [intOf]; omega⟩
          · have d1 : decide (z ≥ 0) = false := decide_eq_false hneg
            go_wp2_with (first
              | (go_at_call 18; refine HC.out.mono ?_; rintro e6 w6 ⟨rfl, k6⟩; have cz := HCz.out _ k6)
              | (go_at_call 19; refine (HMd.out _ k6).mono ?_; rintro e7 w7 ⟨rfl, k7⟩))
            exact ⟨⟨j + 1, la, Dk, kvk, pvk, xsk, by simp, rfl, hjl, hla0, hla1, (HAk.out.only0 k6).only0 k7, HWk, HFk, HOk.out.mono (by omega)⟩, by simp [intOf]; omega⟩
      · have hje : j = ms.length := by omega
        subst hje
        have hdec : decide ((ms.length : Int) < (ms.length : Int)) = false := decide_eq_false (by omega)
        have hbase := HAk.out.base
        have hz1 := k1.size
        have HCr := Lib.hid (crash_any' (M := 6000 + 20 * ms.length) HAk.out.disk HOk.out.fs (by omega) (hv2.only0 hbk) (fun g hg => (hg2 g hg).imp (fun q => ⟨by omega, by omega⟩) id))
        have hcr := HFk.out.crash HWk.out.good.fine ks
        have hW3 : Whole ⟨⟨#[112]⟩, 4000, ps1, s2, la, 0⟩ (Dk.crash ks).restore := HWk.out.of_fs hcr.2 hcr.1
        have hok3 : (Dk.crash ks).restore.Ok (6000 + 20 * ms.length) := (DS.restore_ok (DS.crash_ok HOk.out ks).1).1
        obtain ⟨E1, E2, hX⟩ := hW3.openX
        have hdr := hW3.noNew
        have hal : LogS.all ⟨⟨#[112]⟩, 4000, ps1, s2, la, 0⟩ = ss := by
          have h9 : LogS.all ⟨⟨#[112]⟩, 4000, ps1, s2, la, 0⟩ = LogS.all ⟨⟨#[112]⟩, 4000, ps1, syn1, 0, 0⟩ := rfl
          rw [h9, HAll.out]
        have HOp := Lib.hid fun (W : World) (kv9 : Value) (hO : Only [] w1 W) (hd : DiskAt W (w1.heap.size + 1) w1.heap.size (Dk.crash ks).restore kv9) (hk9 : ∀ g, kv9.ownBlock = some g → w1.heap.size ≤ g) =>
          jopen_whole hT1 hO hd (by omega) hk9 hok3 (by omega) hdr hW3 hX (by rw [hal]; omega) (by rw [hal]; omega)
        have hkvg : ∀ g, kvk.ownBlock = some g → w1.heap.size ≤ g := fun g hg => (HAk.out.away kvk (by simp) g hg).2.2.2.2
        have HKV := Lib.hid hkvg
        clear hcr hW3 hok3 hX hdr hal hkvg
        go_wp2_with fail
        refine HCr.out.mono ?_
        rintro e6 w6 ⟨rfl, ⟨kv6, hd6, hf6⟩, k6⟩
        have HD6 := Lib.hid (restore_any hd6)
        clear hd6
        go_wp2_with fail
        refine HD6.out.mono ?_
        rintro e7 w7 ⟨rfl, hd7, k7⟩
        have hb2 := hbase.size
        have hb7 : Only [] w1 w7 := (hbase.step k6 (fun i hi => by
          simp only [List.mem_cons, List.not_mem_nil, or_false] at hi
          rcases hi with e | e
          · exact .inr (by omega)
          · exact .inr (by omega))).step k7 (fun i hi => by
          rw [List.mem_singleton.1 hi]
          exact .inr (by omega))
        have HO7 := Lib.hid (HOp.out _ _ hb7 hd7 (fun g hg => by
          rcases hf6 g hg with q | q
          · exact HKV.out g q
          · omega))
        clear hd7 HOp HD6 HCr
        go_wp2_with fail
        refine HO7.out.mono ?_
        rintro e8 w8 ⟨lb8, kv8, pv8, xs8, rfl, h8, -⟩
        have hb8 : Only [] w w8 := k1.trans h8.base
        have hx8 : xs8.length ≤ 1000000 := by rw [xs_len h8]; show ps1.length ≤ _; omega
        have hmk : LogS.marked ⟨⟨#[112]⟩, 4000, ps1, LogS.len ⟨⟨#[112]⟩, 4000, ps1, s2, la, 0⟩, la, 0⟩ = la := by
          have hl9 := HLen.out (LogS.len ⟨⟨#[112]⟩, 4000, ps1, s2, la, 0⟩) la
          unfold LogS.marked
          rw [hl9]
          show max (min la _) 0 = la
          omega
        have HMd := Lib.hid fun (W : World) (k : Only [] w8 W) => jmarked_any (h8.only0 k) hx8 (by rw [HLen.out]; omega)
        have HLn := Lib.hid fun (W : World) (k : Only [] w8 W) => jlen_any (h8.only0 k) hx8 (by rw [HLen.out]; omega)
        rw [hmk] at HMd
        rw [HLen.out] at HLn
        clear h8 hmk HO7
        go_wp2_with (first
          | (go_at_call 9; refine (HAl.out _ hb8).mono ?_; rintro e9 w9 ⟨rfl, k9⟩)
          | (go_at_call 19; refine (HMd.out _ k9).mono ?_; rintro e10 w10 ⟨rfl, k10⟩)
          | (go_at_call 13; refine (HLn.out _ (k9.trans k10)).mono ?_; rintro e11 w11 ⟨rfl, k11⟩))
        go_ret
        exact ⟨rfl, ((hb8.trans k9).trans k10).trans k11⟩
end
end Go.Proofs.YtfjkjndpndjfpaaGreatDoor
/- LogMarks: the walk in the row's form. -/
set_option linter.unusedVariables false
namespace Go.Proofs.YtfjkjndpndjfpaaGreatDoor
open Go Go.RowKit Go.Sort
theorem marksW (v0 : Value) (ss : List ByteArray) (v1 : Value) (ms : List Int) (v2 : Value) (ks : List Int) (W : World) (hT : Tab W)
    (h0 : Slc W 1 v0 ss.length (strs ss)) (z0 : ∀ s ∈ ss, s.size ≤ maxLen) (g0 : ∀ g, v0.ownBlock = some g → g < W.heap.size ∨ ss = [])
    (h1 : Slc W 1 v1 ms.length (ints ms)) (z1 : ∀ z ∈ ms, (Lit.int .i64 z).wf = true) (g1 : ∀ g, v1.ownBlock = some g → g < W.heap.size ∨ ms = [])
    (h2 : Slc W 1 v2 ks.length (ints ks)) (z2 : ∀ z ∈ ks, (Lit.int .i64 z).wf = true) (g2 : ∀ g, v2.ownBlock = some g → g < W.heap.size ∨ ks = []) :
    Calls Tryz.prog 4 #[v0, v1, v2] W fun e w' => e = .returned (.bool true) ∧ Only [] W w' :=
  marks_go W hT v0 v1 v2 ss ms ks h0 z0 g0 h1 h2 g2
end Go.Proofs.YtfjkjndpndjfpaaGreatDoor
/- A log in memory: the last part goes; a part is cut. -/
set_option linter.unusedVariables false
set_option linter.unusedSimpArgs false
namespace Go.Proofs.YtfjkjndpndjfpaaGreatDoor
open Go Go.RowKit Go.Sort
theorem own_take {w : World} {base size n k g cap : Nat} {e : TypeId} {xs : List Value} (h : w.ownsRow base e size (.slice (some ⟨g, 0, none⟩) n cap) n xs) (hk : k ≤ n) : w.ownsRow base e size (.slice (some ⟨g, 0, none⟩) k cap) k (xs.take (k * size)) := by
  have hm : k * size ≤ n * size := Nat.mul_le_mul_right _ hk
  obtain ⟨h1, h2⟩ := h
  rcases h2 with ⟨q, _⟩ | ⟨g', cap', cur, q, hb, hg, hn, hc, hs, ht⟩
  · cases q
  · cases q
    refine ⟨by rw [List.length_take, h1]; omega, .inr ⟨g, cap, cur, rfl, hb, hg, by omega, hc, hs, ?_⟩⟩
    rw [← ht, List.take_take]
    congr 1
    omega
theorem slc_cut {w : World} {size n cap k : Nat} {A : Option Addr} {cs : List Value} (h : Slc w size (.slice A n cap) n cs) (hk : k ≤ n) : Slc w size (.slice A k k) k (cs.take (k * size)) := by
  obtain ⟨A', cap', e, h1, h2, h3, h4⟩ := slc_take h hk
  injection e with e1 e2 e3
  subst e1
  exact ⟨A, k, rfl, h1, Nat.le_refl _, by omega, h4⟩
theorem flat_take : ∀ (xs : List (Value × PartL)) (k : Nat), (xs.flatMap partCells).take (k * 3) = (xs.take k).flatMap partCells
  | [], k => by simp
  | x :: xs, 0 => by simp
  | x :: xs, k + 1 => by
    rw [List.take_succ_cons, List.flatMap_cons, List.flatMap_cons, ← flat_take xs k, show (k + 1) * 3 = k * 3 + 3 by omega]
    rfl
theorem own_slice {A : Option Addr} {n c n' c' q : Nat} (h : (Value.slice A n c).ownBlock = some q) : (Value.slice A n' c').ownBlock = some q := by
  cases A with
  | none => cases h
  | some a => exact h
section
variable {a w w1 w' W W' : World} {lb db mb M N : Nat} {D0 D D1 D2 d : DS} {L L' : LogS} {kv pv : Value} {xs : List (Value × PartL)} {R S : List Nat}
/-- The last part goes. -/
theorem LogOn.pop {g n cap m : Nat} (h : LogOn a R w W lb db mb d L kv (.slice (some ⟨g, 0, none⟩) n cap) xs) (hn : n = xs.length) (hm : xs.length = m + 1) :
    LogOn a R w (W.setCell ⟨lb, 3, none⟩ (.slice (some ⟨g, 0, none⟩) m cap)) lb db mb d { L with ps := L.ps.dropLast } kv (.slice (some ⟨g, 0, none⟩) m cap) (xs.take m) := by
  subst hn
  have hA := h.at_
  have ks : Only [lb] W (W.setCell ⟨lb, 3, none⟩ (.slice (some ⟨g, 0, none⟩) m cap)) := (Only.refl _ _).setCell (.inl (by simp)) _
  have hsub : ∀ v ∈ kv :: Value.slice (some ⟨g, 0, none⟩) m cap :: (xs.take m).map (·.1), v = .slice (some ⟨g, 0, none⟩) m cap ∨ v ∈ kv :: Value.slice (some ⟨g, 0, none⟩) xs.length cap :: xs.map (·.1) := fun v hv => by
    rcases List.mem_cons.1 hv with e | hv
    · exact .inr (by simp [e])
    · rcases List.mem_cons.1 hv with e | hv
      · exact .inl e
      · obtain ⟨x, hx, e⟩ := List.mem_map.1 hv
        exact .inr (List.mem_cons_of_mem _ (List.mem_cons_of_mem _ (List.mem_map.2 ⟨x, List.mem_of_mem_take hx, e⟩)))
  have haw : ∀ v ∈ kv :: Value.slice (some ⟨g, 0, none⟩) m cap :: (xs.take m).map (·.1), ∀ q, v.ownBlock = some q → q ≠ lb ∧ q ≠ db ∧ q ≠ mb ∧ q < W.heap.size ∧ a.heap.size ≤ q := fun v hv q hq => by
    rcases hsub v hv with e | hv
    · subst e
      exact hA.away (Value.slice (some ⟨g, 0, none⟩) xs.length cap) (by simp) q hq
    · exact hA.away v hv q hq
  have hnl : ∀ v ∈ kv :: Value.slice (some ⟨g, 0, none⟩) m cap :: (xs.take m).map (·.1), ∀ q, v.ownBlock = some q → q ∉ [lb] := fun v hv q hq => by simpa using (haw v hv q hq).1
  have hmem : ∀ x ∈ xs.take m, x.1 ∈ kv :: Value.slice (some ⟨g, 0, none⟩) m cap :: (xs.take m).map (·.1) := fun x hx => List.mem_cons_of_mem _ (List.mem_cons_of_mem _ (List.mem_map.2 ⟨x, hx, rfl⟩))
  obtain ⟨n1, n2, n3⟩ := hA.ne
  have hp := List.pairwise_cons.1 hA.pair
  have hp2 := List.pairwise_cons.1 hp.2
  have hs := ks.size
  refine ⟨⟨?_, hA.blk.set 3 _, hA.disk.only ks (by simpa using n1.symm) (by simpa using n2.symm) (hnl kv (by simp)), ?_, fun x hx => ?_, ?_, fun v hv q hq => ?_, hA.base.step ks (fun i hi => by rw [List.mem_singleton.1 hi]; exact .inr hA.up.1), hA.tab, hA.up⟩, h.only.step ks (fun i hi => ?_), fun q hq => ?_⟩
  · show L.ps.dropLast = _
    rw [hA.ps, List.dropLast_eq_take, List.length_map, List.map_take, hm]
    rfl
  · have hrow := own_take hA.row (k := m) (by omega)
    rw [flat_take] at hrow
    have hl : (xs.take m).length = m := by rw [List.length_take]; omega
    rw [hl]
    exact own_only hrow ks (hnl (Value.slice (some ⟨g, 0, none⟩) m cap) (by simp))
  · exact ⟨(hA.part x (List.mem_of_mem_take hx)).1.only ks (hnl _ (hmem x hx)), (hA.part x (List.mem_of_mem_take hx)).2.imp id (fun q => q.only ks (hnl _ (hmem x hx)))⟩
  · refine List.pairwise_cons.2 ⟨fun v hv => ?_, List.pairwise_cons.2 ⟨fun v hv => ?_, ?_⟩⟩
    · rcases List.mem_cons.1 hv with e | hv
      · subst e
        exact fun q hq hq2 => hp.1 (Value.slice (some ⟨g, 0, none⟩) xs.length cap) (by simp) q hq hq2
      · obtain ⟨x, hx, e⟩ := List.mem_map.1 hv
        exact hp.1 v (List.mem_cons_of_mem _ (List.mem_map.2 ⟨x, List.mem_of_mem_take hx, e⟩))
    · obtain ⟨x, hx, e⟩ := List.mem_map.1 hv
      exact fun q hq hq2 => hp2.1 v (List.mem_map.2 ⟨x, List.mem_of_mem_take hx, e⟩) q hq hq2
    · rw [List.map_take]
      exact hp2.2.sublist (List.take_sublist _ _)
  · have := haw v hv q hq
    exact ⟨this.1, this.2.1, this.2.2.1, by omega, this.2.2.2.2⟩
  · rw [List.mem_singleton.1 hi]
    exact h.sub lb (mem_lblk.2 (.inl rfl))
  · refine h.sub q (mem_lblk.2 ((mem_lblk.1 hq).imp id (Or.imp id (Or.imp id ?_))))
    rintro ⟨v, hv, hg⟩
    rcases hsub v hv with e | hv
    · subst e
      exact ⟨Value.slice (some ⟨g, 0, none⟩) xs.length cap, by simp, hg⟩
    · exact ⟨v, hv, hg⟩
/-- How many records last. -/
theorem LogOn.setSyn (h : LogOn a R w W lb db mb d L kv pv xs) (s : Int) : LogOn a R w (W.setCell ⟨lb, 4, none⟩ (.int .i64 s)) lb db mb d { L with synced := s } kv pv xs := by
  have k : Only [lb] W (W.setCell ⟨lb, 4, none⟩ (.int .i64 s)) := (Only.refl _ _).setCell (.inl (by simp)) _
  exact h.turn (h.at_.head k (h.at_.blk.set 4 _) rfl) k (fun g hg => by rw [List.mem_singleton.1 hg]; exact mem_lblk.2 (.inl rfl)) (fun g hg => .inl hg)
/-- A part is laid anew: cut. -/
theorem LogOn.cutPart {g n cap j : Nat} (h : LogOn a R w W lb db mb d L kv (.slice (some ⟨g, 0, none⟩) n cap) xs) (hn : n = xs.length) {VA : Option Addr} {vn vc : Nat} {p : PartL} (hj : xs[j]? = some (.slice VA vn vc, p)) {k : Nat} (hk : k ≤ p.bodies.length) (u : Int) :
    LogOn a R w (((W.setCell ⟨g, j * 3, none⟩ (.slice VA k k)).setCell ⟨g, j * 3 + 1, none⟩ (.int .i64 u)).setCell ⟨g, j * 3 + 2, none⟩ (.bool false)) lb db mb d (L.setPart j ⟨p.bodies.take k, u, false⟩) kv (.slice (some ⟨g, 0, none⟩) n cap) (xs.set j (.slice VA k k, ⟨p.bodies.take k, u, false⟩)) := by
  subst hn
  have hne := h.at_.rowne hj
  have k2 : Only [g] W (((W.setCell ⟨g, j * 3, none⟩ (.slice VA k k)).setCell ⟨g, j * 3 + 1, none⟩ (.int .i64 u)).setCell ⟨g, j * 3 + 2, none⟩ (.bool false)) := (((Only.refl _ _).setCell (.inl (by simp)) _).setCell (.inl (by simp)) _).setCell (.inl (by simp)) _
  have hpart := (h.at_.part _ (List.mem_of_getElem? hj)).1
  have hvn : vn = p.bodies.length := by
    obtain ⟨A', c', e, _⟩ := hpart
    injection e
  subst hvn
  have hcut := slc_cut hpart hk
  have hl : (p.bodies.take k).length = k := by rw [List.length_take]; omega
  have hst : (strs p.bodies).take (k * 1) = strs (p.bodies.take k) := by rw [Nat.mul_one]; simp [strs, List.map_take]
  rw [hst] at hcut
  have hvg : ∀ q, (Value.slice VA k k).ownBlock = some q → q ∉ [g] := fun q hq hm => hne q (own_slice hq) (List.mem_singleton.1 hm)
  refine h.part (y := (.slice VA k k, ⟨p.bodies.take k, u, false⟩)) hj (k2.mono (fun q hq => by rw [List.mem_singleton.1 hq]; exact List.mem_cons_self ..)) ?_ (by show Slc _ 1 _ (p.bodies.take k).length _; rw [hl]; exact hcut.only k2 hvg) (.inr (.inr ⟨VA, by rw [hl]⟩)) (fun q hq => ⟨.inl (own_slice hq), ?_⟩)
  · have := (((h.at_.row.stored (j * 3) (.slice VA k k)).1.stored (j * 3 + 1) (.int .i64 u)).1.stored (j * 3 + 2) (.bool false)).1
    rw [flat_set012 xs j _ (.slice VA k k) ⟨p.bodies.take k, u, false⟩ hj] at this
    exact this
  · have := (h.at_.away (Value.slice VA p.bodies.length vc) (List.mem_cons_of_mem _ (List.mem_cons_of_mem _ (List.mem_map.2 ⟨_, List.mem_of_getElem? hj, rfl⟩))) q (own_slice hq)).2.2.2.1
    have := k2.size
    omega
end
end Go.Proofs.YtfjkjndpndjfpaaGreatDoor
/- Contracts: the last chunk is cut (chunklog shorten). -/
set_option linter.unusedVariables false
set_option linter.unusedSimpArgs false
namespace Go.Proofs.YtfjkjndpndjfpaaGreatDoor
open Go Go.RowKit Go.Sort
section
variable {a w w1 w' W W' : World} {lb db mb M N : Nat} {D0 D D1 D2 d : DS} {L L' : LogS} {kv pv : Value} {xs : List (Value × PartL)} {R S : List Nat}
set_option maxRecDepth 100000 in
set_option maxHeartbeats 1000000 in
theorem jshorten_at (h : LogAt a w lb db mb d L kv pv xs) (hp : L.pre.size ≤ 1000) (hk : d.Ok M) (hM : M ≤ 1000000) {m : Nat} (hm : xs.length = m + 1) (hm2 : m ≤ 900000) {x : Value × PartL} (hx : xs[m]? = some x) {r : Nat} (hr : r ≤ x.2.bodies.length) (hsum : sumS x.2.bodies ≤ 1000000 ∧ x.2.bodies.length ≤ 1000000)
    {d2 : DS} (htr : d.truncate (nameK L.pre m) ((startE m L.size).1.length + usedOf (x.2.bodies.take r)) = (0, d2)) (hlen : (L.setPart m ⟨x.2.bodies.take r, usedOf (x.2.bodies.take r), false⟩).len ≤ 1000000000) :
    Calls Tryz.prog 51 #[.pointer (some ⟨lb, 0, none⟩), .int .i64 m, .int .i64 r] w fun e w' => e = .returned (.int .i64 0) ∧ LTo a lb db mb (lblk lb db mb kv pv xs) w w' ({ L.setPart m ⟨x.2.bodies.take r, usedOf (x.2.bodies.take r), false⟩ with synced := min L.synced (L.setPart m ⟨x.2.bodies.take r, usedOf (x.2.bodies.take r), false⟩).len }, d2) := by
  have hml : m < xs.length := by omega
  obtain ⟨g, bc, hpv, hgb, g0, g1, g2⟩ := h.at hml
  have hxe : xs[m] = x := (List.getElem?_eq_some_iff.1 hx).2
  rw [hxe] at g0
  subst hpv
  obtain ⟨VA, vc, hV⟩ := slc_len (h.part x (List.mem_of_getElem? hx)).1
  obtain ⟨x1, p⟩ := x
  dsimp only at hV g0 hr hsum htr hlen ⊢
  subst hV
  have hsl := (h.part _ (List.mem_of_getElem? hx)).1
  dsimp only at hsl
  have HLst := Lib.hid fun (W : World) (k : Only [] w W) => jlast_some (w := W) (n := m) (g := g) (cap := bc) (by have := (h.only0 k).blk; rw [hm] at this; exact this) (by omega)
  have HSt := Lib.hid (fun (W : World) => start_any (w := W) (m : Int) L.size)
  have hsl33 := startE_le (m : Int) L.size
  obtain ⟨⟨sb, se⟩, hst⟩ : ∃ q, startE (m : Int) L.size = q := ⟨_, rfl⟩
  rw [hst] at HSt htr hsl33
  dsimp only at HSt htr hsl33
  have hbs : (baL sb).size = sb.length := baL_size sb
  have hul := usedOf_le (p.bodies.take r)
  have hsl2 := sumS_take_le p.bodies r
  have hrl : (p.bodies.take r).length = r := by rw [List.length_take]; omega
  rw [hrl] at hul
  obtain ⟨U, hU⟩ : ∃ U, usedOf (p.bodies.take r) = U := ⟨_, rfl⟩
  rw [hU] at htr hlen hul ⊢
  replace hul : (0 : Int) ≤ U ∧ U ≤ 100000000 := by omega
  have hpartial : ∀ j, j < r → usedOf (p.bodies.take (j + 1)) = usedOf (p.bodies.take j) + (((p.bodies.getD j ⟨#[]⟩).size : Int) + 13) ∧ 0 ≤ usedOf (p.bodies.take j) ∧ usedOf (p.bodies.take j) + (((p.bodies.getD j ⟨#[]⟩).size : Int) + 13) ≤ 100000000 ∧ ((p.bodies.getD j ⟨#[]⟩).size : Int) ≤ 1000000 := fun j hj => by
    have h1 := usedOf_take p.bodies (j := j) (by omega)
    have h2 := usedOf_le (p.bodies.take (j + 1))
    have h3 := sumS_take_le p.bodies (j + 1)
    have h4 := usedOf_le (p.bodies.take j)
    have h5 := sumS_take p.bodies (k := j) (by omega)
    rw [List.length_take] at h2 h4
    rw [List.getD_eq_getElem?_getD, List.getElem?_eq_getElem (by omega)]
    simp only [Option.getD_some]
    exact ⟨h1, by omega, by omega, by omega⟩
  have HPr := Lib.hid hpartial
  have HNm := Lib.hid fun (W : World) (k : Only [] w W) => jname_any (h.only0 k).blk hp (h.only0 k).tabw (m : Int) (by omega) (by omega)
  obtain ⟨nm, hnm⟩ : ∃ nm, nameK L.pre (m : Int) = nm := ⟨_, rfl⟩
  rw [hnm] at HNm htr
  have HTr := fun (W : World) (k : Only [] w W) => truncate_any (h.only0 k).disk hk (by omega) nm ((sb.length : Int) + U)
  rw [htr] at HTr
  dsimp only at HTr
  replace HTr := Lib.hid HTr
  have HO := Lib.hid (LogOn.refl h)
  obtain ⟨R, hR⟩ : ∃ R, lblk lb db mb kv (.slice (some ⟨g, 0, none⟩) xs.length bc) xs = R := ⟨_, rfl⟩
  rw [hR] at HO ⊢
  have HX := Lib.hid hx
  have HU := Lib.hid hU
  have HM := Lib.hid hm
  have HSL := Lib.hid hsl
  have HLen := Lib.hid hlen
  have e8 := IntWalk.i64_in ((sb.length : Int) + U) ⟨by omega, by omega⟩
  have hvcc : p.bodies.length ≤ vc := by obtain ⟨A9, c9, hv9, _, h9, _⟩ := hsl; injection hv9 with z1 z2 z3; omega
  have hq1 : decide ((r : Int) ≤ (vc : Int)) = true := decide_eq_true (by omega)
  clear hR hx hxe g1 g2 hst htr hnm hU hm hpartial hk hlen h
  go_enter Tryz.func51, Tryz.ntmps51
  go_wp2_with (go_at_call 71; refine (HLst.out _ (Only.refl _ _)).mono ?_; rintro e1 w1 ⟨rfl, k1⟩; have c0 := (k1.cell (p := ⟨g, m * 3, none⟩) hgb (by simp)).trans g0)
  go_loopw [8, 23] (fun u i wr => ∃ j : Nat, i = .int .i64 j ∧ j ≤ r ∧ u = .int .i64 (usedOf (p.bodies.take j)) ∧ wr = w1) (fun _ i _ => r - (intOf i).toNat)
  case atStart => exact ⟨0, rfl, Nat.zero_le _, rfl, rfl⟩
  case round =>
    obtain ⟨j, rfl, hj, rfl, rfl⟩ := hrel
    by_cases hjl : j < r
    · have hdec : decide ((j : Int) < (r : Int)) = true := decide_eq_true (by omega)
      obtain ⟨VA', vc', hvv, -, -, hvc⟩ := (HSL.out.only0 k1).openS
      injection hvv with y1 y2 y3
      subst y1 y3
      obtain ⟨vb, vo, rfl, hvbl, hvbc⟩ := hvc j (by omega)
      obtain ⟨p1, p2, p3, p4⟩ := HPr.out j hjl
      rw [List.getD_eq_getElem?_getD, List.getElem?_eq_getElem (show j < p.bodies.length by omega), Option.getD_some] at p1 p3 p4
      obtain ⟨s, hs⟩ : ∃ s, p.bodies[j]'(show j < p.bodies.length by omega) = s := ⟨_, rfl⟩
      rw [hs] at hvbc p1 p3 p4
      have HBy := Lib.hid (fun (W : World) => jbytes_any (w := W) s (by omega))
      obtain ⟨u, hu⟩ : ∃ u, usedOf (p.bodies.take j) = u := ⟨_, rfl⟩
      rw [hu] at p1 p2 p3 ⊢
      have e9 := IntWalk.i64_in (u + ((s.size : Int) + 13)) ⟨by omega, by omega⟩
      have HP1 := Lib.hid p1
      clear hs hu p1 hvc
      go_wp2_with (go_at_call 53; refine (HBy.out _).mono ?_; rintro e9 w9 ⟨rfl, rfl⟩)
      exact ⟨⟨j + 1, by simp, hjl, by rw [HP1.out], by trivial⟩, by simp [intOf]; omega⟩
    · have hje : j = r := by omega
      subst hje
      have hdec : decide ((j : Int) < (j : Int)) = false := decide_eq_false (by omega)
      rw [HU.out]
      have c2w := (HO.out.only0 k1).at_.cell2
      go_wp2_with (go_at_call 83; refine (HSt.out _).mono ?_; rintro e2 w2 ⟨rfl, k2⟩)
      have k12 := k1.trans k2
      have HO2 := Lib.hid (HO.out.only0 k12)
      obtain ⟨F, hF⟩ : ∃ F : List (Addr × Value), F = [(⟨lb, 0, none⟩, .pointer (some ⟨db, 0, none⟩))] := ⟨_, rfl⟩
      have hFW : ∀ W : World, W.cell? ⟨lb, 0, none⟩ = some (.pointer (some ⟨db, 0, none⟩)) → ∀ x ∈ F, W.cell? x.1 = some x.2 := fun W h => by rw [hF]; exact hold1 h
      have d0 : ∀ p : Hold F, p.W.cell? ⟨lb, 0, none⟩ = some (.pointer (some ⟨db, 0, none⟩)) := fun p => p.h (_, _) (by rw [hF]; simp)
      have HF := Lib.hid hFW
      clear hF hFW c2w
      refine wp_region_hold F [0, 1, 2, 3, 4, 5, 6, 8, 9, 10, 11] [7, 12, 13] [14] (HF.out _ HO2.out.at_.cell0) (by kernel_rfl) (by kernel_rfl) (by intro c d u a w h; cases d <;> exact h) ?_
      intro hne
      show wpQuiet _ _ _ _ [_, _, _, _, _, _, _, _, _, _, _] _
      repeat (go_big_quiet_step (fail))
      refine wpQuiet_nil ?_
      show wpList _ _ _ [_] _ _
      go_wp2_with (go_at_call 50; refine (HNm.out _ k12.drew).mono ?_; rintro e3 w3 ⟨rfl, k3⟩)
      have k3 := (Only.refl [] w2).drew.trans k3
      have HO3 := Lib.hid (HO2.out.only0 k3)
      refine check_hold (HF.out _ HO3.out.at_.cell0) ?_
      show wpList _ _ _ [_] _ _
      go_wp2_with (go_at_call 84; refine (HTr.out _ (k12.trans k3)).mono ?_; rintro e4 w4 ⟨rfl, k4⟩)
      have HT4 := Lib.hid (told_leads HO3.out.at_ k4 0)
      obtain ⟨kv4, k4a, k4b, k4c⟩ := HO3.out.at_.leads k4
      refine check_hold (HF.out _ k4a.cell0) ?_
      show wpList _ _ _ [_] _ _
      go_wp2_with (go_at_call 44; refine HT4.out.mono ?_; rintro e5 w5 ⟨rfl, k5⟩)
      have ht0 : L.told 0 = L := by unfold LogS.told; rw [if_neg (by omega)]
      rw [ht0] at k5
      obtain ⟨kv5, h5⟩ := HO3.out.to k5
      have HO5 := Lib.hid h5
      refine check_hold (HF.out _ h5.at_.cell0) ?_
      obtain ⟨q0, q1', q2, fz⟩ := h5.at_.atg HX.out
      dsimp only at q0 q1' q2
      have z0 := fz (m * 3)
      have z1 := fz (m * 3 + 1)
      have z2 := fz (m * 3 + 2)
      have hcp := h5.cutPart rfl HX.out hr U
      have HCP := Lib.hid hcp
      clear k4 k4a k4b k4c k5 h5 ht0 HT4 d0 fz
      show wpList _ _ _ [_] _ _
      go_wp2_with fail
      have HLn := Lib.hid fun (W : World) (k : Only [] _ W) => jlen_any (HCP.out.only0 k).at_ (by rw [List.length_set, HM.out]; omega) HLen.out
      have c4 := HCP.out.at_.cell4
      have d4 := Within.cell (S := []) c4 (by simp)
      clear hcp c4
      refine wp_region_in [] [0, 1, 2, 3, 4, 5] [6, 7] [8, 9, 10] (by kernel_rfl) (by kernel_rfl) (by intro c d u a w h; cases d <;> exact h) ?_
      show wpQuiet _ _ _ _ [_, _, _, _, _, _] _
      repeat (go_big_quiet_step (fail))
      refine wpQuiet_nil ?_
      show wpList _ _ _ [_] _ _
      go_wp2_with (go_at_call 13; refine (HLn.out _ (Only.refl [] _).drew).mono ?_; rintro e6 w6 ⟨rfl, k6⟩)
      have k6 := (Only.refl [] _).drew.trans k6
      refine check_of (S := []) k6 ?_
      show wpList _ _ _ [_] _ _
      go_wp2_with fail
      refine check_of (S := []) k6 ?_
      have HO6 := Lib.hid (HCP.out.only0 k6)
      have f4 := HO6.out.at_.blk.free 4
      have c4 := HO6.out.at_.blk.cell 4
      show wpList _ _ _ [_, _, _] _ _
      go_wp2
      go_ret
      exact ⟨rfl, (HO6.out.setSyn _).lto⟩
end
end Go.Proofs.YtfjkjndpndjfpaaGreatDoor
/- A log is cut: the laws that the walk asks for. -/
set_option linter.unusedVariables false
set_option linter.unusedSimpArgs false
namespace Go.Proofs.YtfjkjndpndjfpaaGreatDoor
open Go Go.RowKit Go.Sort
section
variable {L : LogS} {D : DS} {b : Bool} {c : Nat}
theorem Good.popEq (h : Good L D b c) {k : Nat} (hk : k + 1 = L.ps.length) {t : Int} {z : Bool} (hz : t < k ∨ z = true) (f : Nat) :
    D.remove (nameK L.pre k) = (0, { D with fs := adel D.fs (nameK L.pre k) }) ∧
    L.popGo D t z (f + 1) = LogS.popGo { L with ps := L.ps.dropLast, synced := min L.synced (LogS.len { L with ps := L.ps.dropLast }) } { D with fs := adel D.fs (nameK L.pre k) } t z f ∧
    Good { L with ps := L.ps.dropLast, synced := min L.synced (LogS.len { L with ps := L.ps.dropLast }) } { D with fs := adel D.fs (nameK L.pre k) } true c := by
  have e : (L.ps.length : Int) - 1 = k := by omega
  refine ⟨(h.pop hk 0 0).1, ?_, (h.pop hk _ _).2⟩
  rw [LogS.popGo]
  rw [if_pos ⟨by omega, by rw [e]; exact hz⟩, e, (h.pop hk 0 0).1]
  dsimp only
  rw [if_neg (by simp), told_zero]
theorem LogS.popStop {t : Int} {z : Bool} (h : ¬(0 < L.ps.length ∧ (t < (L.ps.length : Int) - 1 ∨ z = true))) (f : Nat) : L.popGo D t z f = (0, L, D) := by
  cases f with
  | zero => rfl
  | succ f => rw [LogS.popGo, if_neg h]
theorem LogS.shorten_of {k r : Nat} {p : PartL} (hk : L.ps.length = k + 1) (hp : L.ps[k]? = some p) (h : (L.shorten D k r).1 = 0) :
    ∃ d2, D.truncate (nameK L.pre k) ((startE k L.size).1.length + usedOf (p.bodies.take r)) = (0, d2) ∧
      L.shorten D k r = (0, { L.setPart k ⟨p.bodies.take r, usedOf (p.bodies.take r), false⟩ with synced := min L.synced (L.setPart k ⟨p.bodies.take r, usedOf (p.bodies.take r), false⟩).len }, d2) := by
  have hl : L.ps.getLast? = some p := by
    rw [List.getLast?_eq_getElem?]
    have : L.ps.length - 1 = k := by omega
    rw [this]
    exact hp
  unfold LogS.shorten at h ⊢
  rw [hl] at h ⊢
  dsimp only at h ⊢
  rw [Int.toNat_natCast] at h ⊢
  obtain ⟨⟨e, d2⟩, hq⟩ : ∃ q, D.truncate (nameK L.pre k) ((startE k L.size).1.length + usedOf (p.bodies.take r)) = q := ⟨_, rfl⟩
  rw [hq] at h ⊢
  dsimp only at h ⊢
  by_cases he : e = 0
  · subst he
    refine ⟨d2, rfl, ?_⟩
    rw [if_neg (by simp), told_zero]
    have : L.ps.length - 1 = k := by omega
    rw [this]
    rfl
  · rw [if_pos he] at h
    exact absurd h he
theorem LogS.truncate_len {n : Nat} (hb : L.bad = 0) (hn : n = L.all.length) : L.truncate D n = (0, L, D) := by
  have hlen := len_all L
  unfold LogS.truncate
  rw [hb, if_neg (by simp), if_neg (by omega), if_pos (by omega)]
theorem LogS.truncate_none (hb : L.bad = 0) (hn : 0 < L.all.length) {L' : LogS} {D' : DS} (h : L.popGo D ((0 : Nat) : Int) true L.ps.length = (0, L', D')) : L.truncate D 0 = (0, L', D') := by
  have hlen := len_all L
  unfold LogS.truncate
  rw [hb, if_neg (by simp), if_neg (by omega), if_neg (by omega)]
  have e : (decide ((0 : Int) = 0)) = true := rfl
  rw [e, if_neg (show ¬(0 : Int) < 0 by omega)]
  dsimp only
  have h : L.popGo D 0 true L.ps.length = (0, L', D') := h
  rw [h]
  dsimp only
  rw [if_neg (by simp), if_pos (by rfl)]
theorem LogS.truncate_some {n t r : Nat} (hb : L.bad = 0) (h0 : n ≠ 0) (hn : n < L.all.length) (hfd : L.find ((n - 1 : Nat) : Int) = ((t : Int), (r : Int))) {L' : LogS} {D' : DS} (h : L.popGo D (t : Int) false L.ps.length = (0, L', D')) : L.truncate D n = L'.shorten D' t ((r + 1 : Nat) : Int) := by
  have hlen := len_all L
  unfold LogS.truncate
  rw [hb, if_neg (by simp), if_neg (by omega), if_neg (by omega)]
  have e : decide ((n : Int) = 0) = false := decide_eq_false (by omega)
  have e6 : (0 : Int) < (n : Int) := by omega
  have e1 : (n : Int) - 1 = ((n - 1 : Nat) : Int) := by omega
  have e2 : (r : Int) + 1 = ((r + 1 : Nat) : Int) := by omega
  rw [e, if_pos e6, e1, hfd]
  dsimp only
  rw [h]
  dsimp only
  rw [if_neg (by simp), if_neg (by omega), e2]
theorem LogS.find_nat {n : Nat} (hn : n < L.all.length) : ∃ (k r : Nat) (p : PartL), L.find (n : Int) = ((k : Int), (r : Int)) ∧ L.ps[k]? = some p ∧ r < p.bodies.length := by
  obtain ⟨k, r, p, f1, f2, f3, _, _⟩ := findGo_spec L.ps 0 n hn
  rw [Nat.zero_add] at f1
  exact ⟨k, r, p, f1, f2, f3⟩
theorem LogS.len_dropLast (L : LogS) (s m : Int) : LogS.len ⟨L.pre, L.size, L.ps.dropLast, s, m, L.bad⟩ ≤ L.len := by
  rw [len_all, len_all]
  unfold LogS.all
  rcases List.eq_nil_or_concat L.ps with e | ⟨l, x, e⟩
  · rw [e]; simp
  · rw [e, List.concat_eq_append, List.dropLast_concat, List.flatMap_append, List.length_append]
    show ((l.flatMap (·.bodies)).length : Int) ≤ _
    omega
end
/-- How many parts a log in memory has. -/
def partsLen (w : World) (lb : Nat) : Nat := match w.cell? ⟨lb, 3, none⟩ with
  | some (.slice _ n _) => n
  | _ => 0
theorem partsLen_of {a w : World} {lb db mb : Nat} {d : DS} {L : LogS} {kv pv : Value} {xs : List (Value × PartL)} (h : LogAt a w lb db mb d L kv pv xs) : partsLen w lb = xs.length := by
  have c3 := h.cell3
  obtain ⟨B, bc, hpv, _, _⟩ := own_form h.row
  unfold partsLen
  rw [c3, hpv]
end Go.Proofs.YtfjkjndpndjfpaaGreatDoor
