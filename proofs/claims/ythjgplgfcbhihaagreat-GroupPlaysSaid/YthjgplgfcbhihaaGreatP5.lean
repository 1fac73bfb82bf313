/- Proved here: contracts of functions and plain laws, part 5 of 6 of one proof. Conditions: each theorem names its own. -/
import Derived.Test.YthjgplgfcbhihaaGreatP4
import Derived.Laws.IdiomStrings
import Derived.Sort.Walk0
/- The book: putInts. -/
set_option linter.unusedVariables false
set_option linter.unusedSimpArgs false
namespace Go.Proofs.YthjgplgfcbhihaaGreat
open Go.RowKit Go Go.Sort Go.Lib
section
variable {w w' : World} {bb : Nat} {cs : Array Value} {A : Option Addr} {c : Nat} {I : List (Value × List Value)}
theorem PI.only {S : List Nat} (h : PI w bb cs A c I) (k : Only S w w') (hS : ∀ b ∈ S, (∃ cur, Blk w b 3 cur) ∧ b ∉ blocksV I) : PI w' bb cs A c I := by
  refine ⟨k.blk h.blk (fun q => ?_), h.at2, h.cap, own_only h.ri k (fun b q z => ?_), h.k.only k (fun b q z => (hS b z).2 q), h.ci, h.few⟩
  · obtain ⟨⟨cur, hc⟩, _⟩ := hS bb q
    exact hc.other h.blk (by decide) rfl
  · obtain ⟨⟨cur, hc⟩, _⟩ := hS b z
    obtain ⟨c2, h2⟩ := own_type h.ri q
    exact hc.other h2 (by decide) rfl
theorem PI.cell (h : PI w bb cs A c I) : w.cell? ⟨bb, 2, none⟩ = some (.slice A I.length c) := by
  rw [h.blk.cell 2]
  exact h.at2
theorem PI.row (h : PI w bb cs A c I) (i : Nat) (hi : i < I.length) : ∃ vb, A = some ⟨vb, 0, none⟩ ∧ vb < w.heap.size ∧ (∃ cur, Blk w vb 43 cur) ∧ w.cell? ⟨vb, i, none⟩ = some I[i].1 := by
  obtain ⟨vb, e, hl, hc⟩ := row_at h.ri i hi
  obtain ⟨cur, hcur⟩ := own_type (g := vb) h.ri (by rw [e]; rfl)
  refine ⟨vb, e, hl, ⟨cur, hcur⟩, ?_⟩
  rw [hc, List.getElem?_map, List.getElem?_eq_getElem hi]
  rfl
set_option maxRecDepth 100000 in
set_option maxHeartbeats 1000000 in
theorem putI_all (h : PI w bb cs A c I) :
    Calls Tryz.prog 61 #[.pointer (some ⟨bb, 0, none⟩)] w fun e w' => e = .returned (.tuple #[]) ∧ PI w' bb cs A c (pmI I.length I) ∧ Only (blocksV I) w w' := by
  have hc63 := h.cap.2
  have hcl := h.cap.1
  have hfew := h.few
  unfold maxLen at hc63
  have hci := Lib.hid h.ci
  go_enter Tryz.func61, Tryz.ntmps61
  go_wp2
  go_loopw [2] (fun iv wr => ∃ i : Nat, i ≤ I.length ∧ iv = .int .i64 i ∧ PI wr bb cs A c (pmI i I) ∧ Only (blocksV I) w wr) (fun iv _ => I.length - (intOf iv).toNat)
  case atStart => exact ⟨0, Nat.zero_le _, rfl, by rw [pmI_zero]; exact h, Only.refl _ _⟩
  case round =>
    obtain ⟨i, hi, rfl, hP, hO⟩ := hrel
    have g2 : wr.cell? ⟨bb, 2, none⟩ = some (.slice A I.length c) := by have := hP.cell; rw [pmI_len] at this; exact this
    by_cases hlt : i < I.length
    · have hltJ : i < (pmI i I).length := by rw [pmI_len]; exact hlt
      obtain ⟨vb, rfl, hvb, ⟨vcur, hvcur⟩, hvc⟩ := hP.row i hltJ
      have hJi : (pmI i I)[i] = I[i] := by rw [pmI_get i I i hlt hltJ, if_neg (Nat.lt_irrefl _)]
      obtain ⟨p, hp⟩ : ∃ p, p = I[i] := ⟨_, rfl⟩
      rw [hJi, ← hp] at hvc
      have hpm : p ∈ pmI i I := by rw [hp, ← hJi]; exact List.getElem_mem hltJ
      have hown := hP.k.own p hpm
      obtain ⟨Ap, cp, hp1⟩ := hP.k.lit p hpm
      obtain ⟨l, hl, hll⟩ := hci.out p (by rw [hp]; exact List.getElem_mem hlt)
      have hpl : p.2.length ≤ 1000000 := by rw [hl]; simpa [ints] using hll
      obtain ⟨n, hn⟩ : ∃ n, n = p.2.length := ⟨_, rfl⟩
      rw [← hn] at hp1 hpl hown
      have hncp : n ≤ cp ∧ cp ≤ maxLen := by
        obtain ⟨A', c', e, q1, q2⟩ := own_form hown
        rw [hp1] at e
        injection e with _ _ e3
        omega
      have hcpm := hncp.2
      have hncp1 := hncp.1
      unfold maxLen at hcpm
      have hnotb : bb ∉ p.1.ownBlock.toList := fun q => by
        obtain ⟨c2, h2⟩ := own_type hown (g := bb) (by simpa using q)
        exact h2.other hP.blk (by decide) rfl
      have hnotv : vb ∉ p.1.ownBlock.toList := fun q => by
        obtain ⟨c2, h2⟩ := own_type hown (g := vb) (by simpa using q)
        exact h2.other hvcur (by decide) rfl
      have hsubI : ∀ b ∈ p.1.ownBlock.toList, b ∈ blocksV I := fun b q => mem_blocksV.2 ⟨p, by rw [hp]; exact List.getElem_mem hlt, by simpa using q⟩
      have HNext := Lib.hid (fun (W : World) (k : Only p.1.ownBlock.toList wr W) (ho : W.ownsRow 0 3 1 p.1 n (ints (mkF i 0 n))) => (show PI W bb cs (some ⟨vb, 0, none⟩) c (pmI (i + 1) I) ∧ Only (blocksV I) w W from by
        have hk := hP.k.set (i := i) hltJ (cs := ints (mkF i 0 n)) (w' := W) (by rw [hJi, ← hp, ← hn]; simp [ints, mkF_len]) (by rw [hJi, ← hp]; exact k) (by rw [hJi, ← hp, show (ints (mkF i 0 n)).length = n by simp [ints, mkF_len]]; exact ho)
        rw [hJi, hn, hp, pmI_set i I hlt] at hk
        refine ⟨⟨k.blk hP.blk hnotb, by have := hP.at2; rw [pmI_len] at this ⊢; exact this, by have := hP.cap; rw [pmI_len] at this ⊢; exact this, ?_, hk, ?_, by rw [pmI_len]; exact hfew⟩, hO.trans (k.mono hsubI)⟩
        · have := own_only hP.ri k (fun b q z => by
            obtain ⟨c2, h2⟩ := own_type hown (g := b) (by simpa using z)
            obtain ⟨c3, h3⟩ := own_type hP.ri q
            exact h2.other h3 (by decide) rfl)
          rw [pmI_len, pmI_fst] at this ⊢
          exact this
        · intro q hq
          obtain ⟨k', hk', rfl⟩ := List.getElem_of_mem hq
          have hk2 : k' < I.length := by rw [pmI_len] at hk'; exact hk'
          rw [pmI_get (i + 1) I k' hk2]
          obtain ⟨l2, hl2, hll2⟩ := hci.out I[k'] (List.getElem_mem hk2)
          split
          · exact ⟨mkF k' 0 I[k'].2.length, rfl, by rw [mkF_len, hl2]; simpa [ints] using hll2⟩
          · exact ⟨l2, hl2, hll2⟩))
      have HM := Lib.hid (show Calls Tryz.prog 98 #[.int .i64 i, .int .i64 0, .int .i64 n] wr fun e w' => ∃ A c, e = .returned (.slice A n c) ∧ w'.ownsRow wr.heap.size 3 1 (.slice A n c) n (ints (mkF i 0 n)) ∧ Only [] wr w' from markI_any wr i 0 n (by omega) (by omega))
      have hrl := World.ownsRow.lt hown
      have hbl := hP.blk.lt
      rw [hp1] at hvc hown HNext hnotb hnotv hrl
      obtain ⟨xs, hxs⟩ : ∃ xs, xs = p.2 := ⟨_, rfl⟩
      rw [← hxs] at hown hn
      clear hP hO hJi hl hp hpm hp1 hxs hncp hltJ hsubI
      have hnl := Lib.hid hn
      clear hn
      go_wp2_with fail
      refine HM.out.mono ?_
      rintro e w1 ⟨Am, cm, rfl, hom, k1⟩
      have hpd : ∀ b, (Value.slice Am n cm).ownBlock = some b → b ∉ (Value.slice Ap n cp).ownBlock.toList := fun b q z => by
        have h1 := (World.ownsRow.lt hom b q).1
        have h2 := (hrl b (by simpa using z)).2
        omega
      have hmcap : n ≤ cm ∧ cm ≤ 2 ^ 63 - 1 := by
        obtain ⟨A', c', e, q1, q2⟩ := own_form hom
        injection e with _ _ e3
        unfold maxLen at q2
        omega
      obtain ⟨hmc1, hmc2⟩ := hmcap
      have HOm := Lib.hid hom
      have HHvc := Lib.hid hvc
      have HG2 := Lib.hid g2
      have HPd := Lib.hid hpd
      clear hom hpd hvc g2
      go_wp2_with fail
      go_loopw [4] (fun kv wr => ∃ k : Nat, k ≤ n ∧ kv = .int .i64 k ∧ wr.ownsRow 0 3 1 (.slice Ap n cp) n (ints (mkF i 0 k) ++ xs.drop k) ∧ Only (Value.slice Ap n cp).ownBlock.toList w1 wr) (fun kv _ => n - (intOf kv).toNat)
      case atStart => exact ⟨0, Nat.zero_le _, rfl, by simpa [mkF, ints] using own_only hown k1 (by simp), Only.refl _ _⟩
      case round =>
        obtain ⟨k, hk, rfl, hoq, hOq⟩ := hrel
        by_cases hkn : k < n
        · obtain ⟨pb, hpb, hpl2, hpc⟩ := row_at hoq k hkn
          obtain ⟨mb, hmb, hml, hmc⟩ := row_at (own_only HOm.out hOq HPd.out) k hkn
          have hmk : (ints (mkF i 0 n))[k]? = some (.int .i64 (-1000000 * (i : Int) - (((0 : Nat) : Int) + (k : Int)) - 7)) := by
            have hk2 : k < (mkF i 0 n).length := by rw [mkF_len]; exact hkn
            unfold ints
            rw [List.getElem?_map, List.getElem?_eq_getElem hk2, mkF_get]
            rfl
          rw [hmk] at hmc
          have hkx : k < xs.length := by rw [← hnl.out]; exact hkn
          have hpx : ∃ u, (ints (mkF i 0 k) ++ xs.drop k)[k]? = some u := by
            have hle : k < (ints (mkF i 0 k) ++ xs.drop k).length := by simp [ints, mkF_len]; omega
            exact ⟨_, List.getElem?_eq_getElem hle⟩
          obtain ⟨u, hu⟩ := hpx
          rw [hu] at hpc
          have hst := (show wr.ownsRow 0 3 1 (.slice (some ⟨pb, 0, none⟩) n cp) n (ints (mkF i 0 k) ++ xs.drop k) by rw [← hpb]; exact hoq)
          have hfr := hst.frozenAt k
          have hsto := fun wz (kz : Only [] wr wz) => (World.ownsRow.stored (own_only hst kz (by simp)) k (.int .i64 (-1000000 * (i : Int) - (((0 : Nat) : Int) + (k : Int)) - 7))).1
          have HSt := Lib.hid (fun wz (kz : Only [] wr wz) => (show (wz.setCell ⟨pb, k, none⟩ (.int .i64 (-1000000 * (i : Int) - (((0 : Nat) : Int) + (k : Int)) - 7))).ownsRow 0 3 1 (.slice Ap n cp) n (ints (mkF i 0 (k + 1)) ++ xs.drop (k + 1)) from by
            have := hsto wz kz
            rw [marks_set i k xs hkx] at this
            rw [hpb]
            exact this))
          have hkO : ∀ wz, Only [] wr wz → Only (Value.slice Ap n cp).ownBlock.toList w1 (wz.setCell ⟨pb, k, none⟩ (.int .i64 (-1000000 * (i : Int) - (((0 : Nat) : Int) + (k : Int)) - 7))) := fun wz kz => (hOq.trans kz.of_nil).setCell (.inl (by rw [hpb]; simp [Value.ownBlock])) _
          have HKO := Lib.hid hkO
          have k1q := k1.of_nil.trans hOq
          have d2 := Within.cell (S := []) ((k1q.cell hbl hnotb).trans HG2.out) (by simp)
          have d3 := Within.cell (S := []) ((k1q.cell hvb hnotv).trans HHvc.out) (by simp)
          have d4 := Within.cell (S := []) hmc (by simp)
          have d5 := hpc
          subst hmb
          subst hpb
          clear hoq hOq hst hsto hkO hmk hu hmc k1q HM
          obtain ⟨mv, hmv⟩ : ∃ mv : Int, mv = -1000000 * (i : Int) - (((0 : Nat) : Int) + (k : Int)) - 7 := ⟨_, rfl⟩
          rw [← hmv] at HSt HKO d4
          clear hmv
          go_wp2_with fail
          refine wp_region_in [] [0, 1, 2, 3, 4, 5, 6, 7, 8, 9, 10, 11, 12] [] [13] (by kernel_rfl) (by kernel_rfl) (by intro c d u a w h; cases d <;> exact h) ?_
          show wpQuiet _ _ _ _ [_, _, _, _, _, _, _, _, _, _, _, _, _] _
          repeat (go_big_quiet_step (fail))
          refine wpQuiet_nil ?_
          clear d2 d3 d4
          show wpList _ _ _ [_] _ _
          go_wp2
          exact ⟨⟨k + 1, hkn, by simp, (HSt.out _ (Only.refl _ _)).drew, (HKO.out _ (Only.refl _ _)).drew⟩, by simp [intOf]; omega⟩
        · have hkn2 : k = n := by omega
          have hdr : ints (mkF i 0 k) ++ xs.drop k = ints (mkF i 0 n) := by rw [hkn2, List.drop_of_length_le (by rw [← hnl.out]; exact Nat.le_refl _), List.append_nil]
          rw [hdr] at hoq
          have hN := HNext.out _ (k1.of_nil.trans hOq) hoq
          have HN1 := Lib.hid hN.1
          have HN2 := Lib.hid hN.2
          clear hN hoq hOq hdr hkn2 HNext HM HOm HHvc HG2 HPd
          go_wp2
          exact ⟨⟨i + 1, hlt, by simp, HN1.out, HN2.out⟩, by simp [intOf]; omega⟩
    · have hin : i = I.length := by omega
      subst hin
      have HF := Lib.hid (And.intro hP hO)
      clear hP hO hlt
      go_wp2
      go_end0
      exact ⟨rfl, HF.out⟩
end
end Go.Proofs.YthjgplgfcbhihaaGreat
/- The book: markedInts. -/
set_option linter.unusedVariables false
set_option linter.unusedSimpArgs false
namespace Go.Proofs.YthjgplgfcbhihaaGreat
open Go.RowKit Go Go.Sort Go.Lib
/-- Lists that have their marks. -/
structure Mkd (w : World) (A : Option Addr) (c : Nat) (L : List (Value × Nat)) : Prop where
  cap : L.length ≤ c ∧ c ≤ 2 ^ 63 - 1
  few : L.length ≤ 250
  row : ∀ i (h : i < L.length), ∃ vb, A = some ⟨vb, 0, none⟩ ∧ vb < w.heap.size ∧ w.cell? ⟨vb, i, none⟩ = some L[i].1
  lit : ∀ i (h : i < L.length), ∃ A' c', L[i].1 = .slice A' L[i].2 c'
  slc : ∀ i (h : i < L.length), Slc w 1 L[i].1 L[i].2 (ints (mkF i 0 L[i].2))
  len : ∀ i (h : i < L.length), L[i].2 ≤ 1100000
theorem Mkd.keep0 {w w' : World} {A : Option Addr} {c : Nat} {L : List (Value × Nat)} (h : Mkd w A c L) (k : Only [] w w') : Mkd w' A c L :=
  ⟨h.cap, h.few, fun i hi => by
    obtain ⟨vb, e, hl, hc⟩ := h.row i hi
    exact ⟨vb, e, Nat.lt_of_lt_of_le hl k.size, (k.cell hl (by simp)).trans hc⟩, h.lit, fun i hi => (h.slc i hi).only k (by simp), h.len⟩
set_option maxRecDepth 100000 in
set_option maxHeartbeats 500000 in
theorem markedI_any {w : World} {A : Option Addr} {c : Nat} {L : List (Value × Nat)} (h : Mkd w A c L) :
    Calls Tryz.prog 72 #[.slice A L.length c] w fun e w' => e = .returned (.bool true) ∧ Only [] w w' := by
  obtain ⟨hc1, hc2⟩ := h.cap
  have hfew := h.few
  have HM := Lib.hid h
  clear h
  go_enter Tryz.func72, Tryz.ntmps72
  go_wp2
  go_loopw [3] (fun iv wr => ∃ i : Nat, i ≤ L.length ∧ iv = .int .i64 i ∧ Only [] w wr) (fun iv _ => L.length - (intOf iv).toNat)
  case atStart => exact ⟨0, Nat.zero_le _, rfl, Only.refl _ _⟩
  case round =>
    obtain ⟨i, hi, rfl, hO⟩ := hrel
    by_cases hlt : i < L.length
    · obtain ⟨vb, rfl, hvb, hcell⟩ := (HM.out.keep0 hO).row i hlt
      have hsl := (HM.out.keep0 hO).slc i hlt
      obtain ⟨A', c', hlit⟩ := HM.out.lit i hlt
      have hlen := HM.out.len i hlt
      obtain ⟨n, hn⟩ : ∃ n, n = L[i].2 := ⟨_, rfl⟩
      obtain ⟨v, hv⟩ : ∃ v, v = L[i].1 := ⟨_, rfl⟩
      rw [← hn] at hsl hlit hlen
      rw [← hv] at hsl hlit hcell
      rw [hlit] at hsl hcell
      have hmk : (mkF i 0 n).length = n := mkF_len _ _ _
      have HMk := Lib.hid (fun W => show Calls Tryz.prog 98 #[.int .i64 i, .int .i64 0, .int .i64 n] W fun e w' => ∃ A c, e = .returned (.slice A n c) ∧ w'.ownsRow W.heap.size 3 1 (.slice A n c) n (ints (mkF i 0 n)) ∧ Only [] W w' from markI_any W i 0 n (by omega) (by omega))
      have HSm := Lib.hid (fun (W : World) (hW : Only [] wr W) (v2 : Value) (h2 : Slc W 1 v2 n (ints (mkF i 0 n))) => sameI_refl (l := mkF i 0 n) (v1 := .slice A' n c') (v2 := v2) (by rw [hmk]; exact hsl.only hW (by simp)) (by rw [hmk]; exact h2))
      have d1 := Within.cell (S := []) hcell (by simp)
      clear hsl hcell hlit hn hv hmk
      go_wp2_with fail
      refine wp_region_in [] [0, 1, 2, 3, 4, 5, 6, 7, 8, 9] [10, 11, 12] [] (by kernel_rfl) (by kernel_rfl) (by intro c d u a w h; cases d <;> exact h) ?_
      show wpQuiet _ _ _ _ [_, _, _, _, _, _, _, _, _, _] _
      repeat (go_big_quiet_step (fail))
      refine wpQuiet_nil ?_
      clear d1
      show wpList _ _ _ [_] _ _
      go_wp2_with fail
      refine (HMk.out _).mono ?_
      rintro e w1 ⟨Am, cm, rfl, hom, k1⟩
      have k1' := (Only.refl [] wr).drew.trans k1
      go_wp2_with fail
      refine check_of (S := []) k1' ?_
      show wpList _ _ _ [_] _ _
      go_wp2_with fail
      refine (HSm.out _ k1' _ (Slc.of_own hom).1).mono ?_
      rintro e w2 ⟨rfl, k2⟩
      have k2' := k1'.trans k2
      go_wp2_with fail
      refine check_of (S := []) k2' ?_
      show wpList _ _ _ [_] _ _
      go_wp2_with fail
      refine check_last (S := []) k2' (fun _ _ q => q) ?_
      clear HSm HMk k1 k2 k1' hom
      go_wp2
      exact ⟨⟨i + 1, hlt, by simp, hO.trans k2'⟩, by simp [intOf]; omega⟩
    · clear HM
      go_wp2
      go_ret
      exact ⟨rfl, hO⟩
/-- The marked lists behind putInts are marked. -/
theorem PI.mkd {w : World} {bb : Nat} {cs : Array Value} {A : Option Addr} {c : Nat} {I : List (Value × List Value)} (h : PI w bb cs A c (pmI I.length I)) : Mkd w A c (I.map (fun p => (p.1, p.2.length))) := by
  have hcap := h.cap
  unfold maxLen at hcap
  rw [pmI_len] at hcap
  refine ⟨by rw [List.length_map]; exact hcap, by rw [List.length_map]; have := h.few; rwa [pmI_len] at this, fun i hi => ?_, fun i hi => ?_, fun i hi => ?_, fun i hi => ?_⟩
  all_goals
    have hi2 : i < I.length := by simpa using hi
    have hi3 : i < (pmI I.length I).length := by rw [pmI_len]; exact hi2
    have hg : (pmI I.length I)[i] = (I[i].1, ints (mkF i 0 I[i].2.length)) := by rw [pmI_get _ _ _ hi2 hi3, if_pos hi2]
    have hm : (I[i].1, ints (mkF i 0 I[i].2.length)) ∈ pmI I.length I := by rw [← hg]; exact List.getElem_mem hi3
    rw [List.getElem_map]
  · obtain ⟨vb, e, hl, _, hc⟩ := h.row i hi3
    rw [hg] at hc
    exact ⟨vb, e, hl, hc⟩
  · obtain ⟨A', c', e⟩ := h.k.lit _ hm
    simp only [show (ints (mkF i 0 I[i].2.length)).length = I[i].2.length by simp [ints, mkF_len]] at e
    exact ⟨A', c', e⟩
  · have := (Slc.of_own (h.k.own _ hm)).1
    simp only [show (ints (mkF i 0 I[i].2.length)).length = I[i].2.length by simp [ints, mkF_len]] at this
    exact this
  · obtain ⟨l, hl, hll⟩ := h.ci _ hm
    have : I[i].2.length = l.length := by
      have := congrArg List.length hl
      simpa [ints, mkF_len] using this
    simp only
    omega
end Go.Proofs.YthjgplgfcbhihaaGreat
/- The book: growing a list, plain part. -/
set_option linter.unusedVariables false
set_option linter.unusedSimpArgs false
namespace Go.Proofs.YthjgplgfcbhihaaGreat
open Go.RowKit Go Go.Sort Go.Lib
theorem keep_old {w1 w2 : World} {Ap Al : Option Addr} {n m cp cl B : Nat} {e : TypeId} {xs ys : List Value} (hs : Slc w1 1 (.slice Ap n cp) n xs) (hpa : ∀ b off, Ap = some ⟨b, off, none⟩ → off = 0) (ho : w1.ownsRow B e 1 (.slice Al m cl) m ys) (hy : ys.take n = xs) (hnm : n ≤ m)
    (hk : Only (Value.slice Al m cl).ownBlock.toList w1 w2) (hs2 : Slc w2 1 (.slice Al m cl) m ys) : Slc w2 1 (.slice Ap n cp) n xs := by
  obtain ⟨A', c', e1, h1, h2, h3, h4⟩ := hs
  injection e1 with q1 q2 q3
  subst q1 q3
  refine ⟨Ap, cp, rfl, h1, h2, h3, fun hn => ?_⟩
  obtain ⟨b, off, rfl, hb, hc⟩ := h4 hn
  by_cases q : (Value.slice Al m cl).ownBlock = some b
  · obtain ⟨g, cap, ef, _, _⟩ := ho.form (by omega)
    injection ef with f1 f2 f3
    subst f1
    have hgb : g = b := by simpa [Value.ownBlock] using q
    subst hgb
    have ho0 := hpa g off rfl
    subst ho0
    obtain ⟨A2, c2, e2, k1, k2, k3, k4⟩ := hs2
    injection e2 with r1 r2 r3
    subst r1
    obtain ⟨g2, off2, e3, hb2, hc2⟩ := k4 (by omega)
    cases e3
    refine ⟨g, 0, rfl, hb2, fun j hj => ?_⟩
    rw [hc2 j (by omega), ← hy, List.getElem?_take, if_pos (by omega)]
  · refine ⟨b, off, rfl, Nat.lt_of_lt_of_le hb hk.size, fun j hj => ?_⟩
    rw [hk.cell (by exact hb) (by simpa using q), hc j hj]
/-- A list on its way to be grown. -/
structure GrIn (w0 W : World) (i n : Nat) (Ap : Option Addr) (cp : Nat) (nt : Nat) (Al : Option Addr) (cl : Nat) : Prop where
  own : W.ownsRow 0 3 1 (.slice Al nt cl) nt (ints (mkF i 0 nt))
  le : n ≤ nt
  blk : ∀ b, (Value.slice Al nt cl).ownBlock = some b → (Value.slice Ap n cp).ownBlock = some b ∨ w0.heap.size ≤ b
  only : Only (Value.slice Ap n cp).ownBlock.toList w0 W
  old : Slc W 1 (.slice Ap n cp) n (ints (mkF i 0 n))
  zero : ∀ b off, Ap = some ⟨b, off, none⟩ → off = 0
theorem ints_take (i n m : Nat) (h : n ≤ m) : (ints (mkF i 0 m)).take n = ints (mkF i 0 n) := by
  obtain ⟨k, rfl⟩ : ∃ k, m = n + k := ⟨m - n, by omega⟩
  rw [← mkF_app]
  simp [ints, mkF_len]
theorem GrIn.step {w0 W w1 : World} {i n cp nt cl q cm : Nat} {Ap Al Am : Option Addr} (h : GrIn w0 W i n Ap cp nt Al cl) (k1 : Only [] W w1) (hm : w1.ownsRow W.heap.size 3 1 (.slice Am q cm) q (ints (mkF i nt q))) (hb : nt + q ≤ 2000000) :
    ∃ A' c' w2, (Builtin.append_ #[43, 43] 43 #[.slice Al nt cl, .slice Am q cm]).run Tryz.prog w1 = .ok (.slice A' (nt + q) c') w2 ∧ GrIn w0 w2 i n Ap cp (nt + q) A' c' := by
  have hl1 := own_only h.own k1 (by simp)
  have hms := (Slc.of_own hm).1
  obtain ⟨A', c', w2, hr, ho2, hO, hf⟩ := run_app (P := Tryz.prog) 43 43 0 3 (.int .i64 0) 1 8 Tryz.underlying43 infoI rfl (by decide) hl1 hms (ints_one _) (by omega) (by unfold maxLen; omega) (Nat.zero_le _)
  have hold := run_app_old (P := Tryz.prog) 43 43 0 3 (.int .i64 0) 1 8 Tryz.underlying43 infoI rfl (by decide) hl1 hms (ints_one _) (by omega) (by unfold maxLen; omega) (Nat.zero_le _) hr ho2
  have hcs : ints (mkF i 0 nt) ++ ints (mkF i nt q) = ints (mkF i 0 (nt + q)) := by
    rw [← mkF_app i 0 nt q, Nat.zero_add]
    simp [ints]
  rw [hcs] at ho2
  have hsz := h.only.size
  have hsz1 := k1.size
  refine ⟨A', c', w2, hr, ho2, by have := h.le; omega, fun b z => ?_, ?_, keep_old (h.old.only k1 (by simp)) h.zero hl1 (ints_take i n nt h.le) h.le hO hold, h.zero⟩
  · rcases hf b z with y | y
    · exact h.blk b y
    · exact .inr (by omega)
  · refine (h.only.trans k1.of_nil).step hO (fun b z => ?_)
    rcases h.blk b (by simpa using z) with y | y
    · exact .inl (by simp [y])
    · exact .inr y
end Go.Proofs.YthjgplgfcbhihaaGreat
/- The book: growInts. -/
set_option linter.unusedVariables false
set_option linter.unusedSimpArgs false
namespace Go.Proofs.YthjgplgfcbhihaaGreat
open Go.RowKit Go Go.Sort Go.Lib
/-- The lists that are grown so far. -/
structure GrO (w W : World) (J : List (Value × Nat)) (i : Nat) (O : List (Value × Nat)) (Ao : Option Addr) (co : Nat) : Prop where
  olen : O.length = i
  out : W.ownsRow w.heap.size 43 1 (.slice Ao i co) i (O.map (·.1))
  two : ∀ k (h : k < O.length) (hk : k < J.length), O[k].2 = J[k].2 + 72
  lit : ∀ k (h : k < O.length), ∃ A' c', O[k].1 = .slice A' O[k].2 c'
  slc : ∀ k (h : k < O.length), Slc W 1 O[k].1 O[k].2 (ints (mkF k 0 O[k].2))
  typ : ∀ k (h : k < O.length) b, O[k].1.ownBlock = some b → ∃ cur, Blk W b 3 cur
  blk : ∀ k (h : k < O.length) (hk : k < J.length) b, O[k].1.ownBlock = some b → J[k].1.ownBlock = some b ∨ w.heap.size ≤ b
  old : ∀ k (hk : k < J.length), k < i → Slc W 1 J[k].1 J[k].2 (ints (mkF k 0 J[k].2))
  rest : ∀ k (hk : k < J.length), i ≤ k → W.ownsRow 0 3 1 J[k].1 J[k].2 (ints (mkF k 0 J[k].2))
/-- The lists, as they were when growing began. -/
structure GrJ (w : World) (J : List (Value × Nat)) : Prop where
  own : ∀ k (hk : k < J.length), w.ownsRow 0 3 1 J[k].1 J[k].2 (ints (mkF k 0 J[k].2))
  lit : ∀ k (hk : k < J.length), ∃ A' c', J[k].1 = .slice A' J[k].2 c'
  dis : ∀ k l (hk : k < J.length) (hl : l < J.length), k ≠ l → ∀ b, J[k].1.ownBlock = some b → J[l].1.ownBlock ≠ some b
  len : ∀ k (hk : k < J.length), J[k].2 ≤ 1000000
  few : J.length ≤ 250
theorem GrJ.start {w : World} {J : List (Value × Nat)} (h : GrJ w J) : GrO w w J 0 [] none 0 :=
  ⟨rfl, World.ownsRow_nil _ _ _ _, fun k q => absurd q (Nat.not_lt_zero _), fun k q => absurd q (Nat.not_lt_zero _), fun k q => absurd q (Nat.not_lt_zero _), fun k q => absurd q (Nat.not_lt_zero _), fun k q => absurd q (Nat.not_lt_zero _), fun k hk q => absurd q (Nat.not_lt_zero _), fun k hk _ => h.own k hk⟩
/-- One more list is grown, and put behind the others. -/
theorem GrO.next {w W W3 w5 : World} {J O : List (Value × Nat)} {i co cp cl c5 : Nat} {Ao Ap Al A5 : Option Addr} (hJ : GrJ w J) (h : GrO w W J i O Ao co) (hi : i < J.length) (hp : J[i].1 = .slice Ap J[i].2 cp) (hW : w.heap.size ≤ W.heap.size) (hg : GrIn W W3 i J[i].2 Ap cp (J[i].2 + 72) Al cl)
    (hO5 : Only (Value.slice Ao i co).ownBlock.toList (W3.alloc (.cells #[.slice Al (J[i].2 + 72) cl] 43)) w5) (ho5 : w5.ownsRow w.heap.size 43 1 (.slice A5 (i + 1) c5) (i + 1) (O.map (·.1) ++ [.slice Al (J[i].2 + 72) cl])) :
    GrO w w5 J (i + 1) (O ++ [(.slice Al (J[i].2 + 72) cl, J[i].2 + 72)]) A5 c5 := by
  have hout := World.ownsRow.lt h.out
  have hpl := World.ownsRow.lt (hJ.own i hi)
  have ko : Only (Value.slice Ao i co).ownBlock.toList W3 w5 := (((Only.refl [] W3).alloc _).of_nil).trans hO5
  have hpW : ∀ b, J[i].1.ownBlock = some b → b < w.heap.size := fun b q => (hpl b q).2
  -- what lies in numbers is not turned by the list of lists
  have hnt : ∀ b cur, Blk W3 b 3 cur → b ∉ (Value.slice Ao i co).ownBlock.toList := fun b cur hb q => by
    have q' : (Value.slice Ao i co).ownBlock = some b := by simpa using q
    obtain ⟨c1, h1⟩ := own_type h.out q'
    have hbp : b ∉ (Value.slice Ap J[i].2 cp).ownBlock.toList := fun z => by
      have h2 := (hout b q').1
      have h3 := hpW b (by rw [hp]; simpa using z)
      omega
    exact (hg.only.blk h1 hbp).other hb (by decide) rfl
  have hOl : (O ++ [(Value.slice Al (J[i].2 + 72) cl, J[i].2 + 72)]).length = i + 1 := by rw [List.length_append, h.olen]; rfl
  have hget : ∀ k (hk : k < (O ++ [(Value.slice Al (J[i].2 + 72) cl, J[i].2 + 72)]).length), (∃ hk2 : k < O.length, (O ++ [(Value.slice Al (J[i].2 + 72) cl, J[i].2 + 72)])[k] = O[k]) ∨ (k = i ∧ (O ++ [(Value.slice Al (J[i].2 + 72) cl, J[i].2 + 72)])[k] = (.slice Al (J[i].2 + 72) cl, J[i].2 + 72)) := fun k hk => by
    by_cases q : k < O.length
    · exact .inl ⟨q, List.getElem_append_left q⟩
    · right
      have hki : k = i := by
        have := h.olen
        rw [hOl] at hk
        omega
      refine ⟨hki, ?_⟩
      rw [List.getElem_append_right (by omega)]
      simp
  have hOp : ∀ k (hk : k < O.length) b, O[k].1.ownBlock = some b → b ∉ (Value.slice Ap J[i].2 cp).ownBlock.toList := fun k hk b q z => by
    have z' : J[i].1.ownBlock = some b := by rw [hp]; simpa using z
    have hki : k < i := by rw [h.olen] at hk; exact hk
    rcases h.blk k hk (by omega) b q with y | y
    · exact hJ.dis k i (by omega) hi (by omega) b y z'
    · have := hpW b z'
      omega
  have hJp : ∀ k (hk : k < J.length), k ≠ i → ∀ b, J[k].1.ownBlock = some b → b ∉ (Value.slice Ap J[i].2 cp).ownBlock.toList := fun k hk hki b q z => hJ.dis k i hk hi hki b q (by rw [hp]; simpa using z)
  have hJo : ∀ k (hk : k < J.length) b, J[k].1.ownBlock = some b → b ∉ (Value.slice Ao i co).ownBlock.toList := fun k hk b q z => by
    have h1 := (hout b (by simpa using z)).1
    have h2 := (World.ownsRow.lt (hJ.own k hk) b q).2
    omega
  have hlt3 := World.ownsRow.lt hg.own
  refine ⟨hOl, by rw [List.map_append]; exact ho5, fun k hk hkJ => ?_, fun k hk => ?_, fun k hk => ?_, fun k hk b q => ?_, fun k hk hkJ b q => ?_, fun k hk hki => ?_, fun k hk hki => ?_⟩
  · rcases hget k hk with ⟨hk2, e⟩ | ⟨e1, e⟩
    · rw [e]; exact h.two k hk2 hkJ
    · subst e1; rw [e]
  · rcases hget k hk with ⟨hk2, e⟩ | ⟨e1, e⟩
    · rw [e]; exact h.lit k hk2
    · rw [e]; exact ⟨Al, cl, rfl⟩
  · rcases hget k hk with ⟨hk2, e⟩ | ⟨e1, e⟩
    · rw [e]
      refine ((h.slc k hk2).only hg.only (fun b q => hOp k hk2 b q)).only ko (fun b q => ?_)
      obtain ⟨cur, hb⟩ := h.typ k hk2 b q
      exact hnt b cur (hg.only.blk hb (hOp k hk2 b q))
    · rw [e]
      subst e1
      refine (Slc.of_own hg.own).1.only ko (fun b q => ?_)
      obtain ⟨cur, hb⟩ := own_type hg.own q
      exact hnt b cur hb
  · rcases hget k hk with ⟨hk2, e⟩ | ⟨e1, e⟩
    · rw [e] at q
      obtain ⟨cur, hb⟩ := h.typ k hk2 b q
      have hb3 := hg.only.blk hb (hOp k hk2 b q)
      exact ⟨cur, ko.blk hb3 (hnt b cur hb3)⟩
    · rw [e] at q
      obtain ⟨cur, hb⟩ := own_type hg.own q
      exact ⟨cur, ko.blk hb (hnt b cur hb)⟩
  · rcases hget k hk with ⟨hk2, e⟩ | ⟨e1, e⟩
    · rw [e] at q; exact h.blk k hk2 hkJ b q
    · rw [e] at q
      subst e1
      rcases hg.blk b q with y | y
      · exact .inl (by rw [hp]; exact y)
      · exact .inr (by omega)
  · by_cases e : k = i
    · subst e
      have ho := hg.old
      rw [← hp] at ho
      exact ho.only ko (fun b q => hJo k hk b q)
    · exact ((h.old k hk (by omega)).only hg.only (fun b q => hJp k hk e b q)).only ko (fun b q => hJo k hk b q)
  · have hne : k ≠ i := by omega
    exact own_only (own_only (h.rest k hk (by omega)) hg.only (fun b q => hJp k hk hne b q)) ko (fun b q => hJo k hk b q)
end Go.Proofs.YthjgplgfcbhihaaGreat
/- The book: growInts, the walk. -/
set_option linter.unusedVariables false
set_option linter.unusedSimpArgs false
namespace Go.Proofs.YthjgplgfcbhihaaGreat
open Go.RowKit Go Go.Sort Go.Lib
def blocksJ (J : List (Value × Nat)) : List Nat := J.flatMap fun p => p.1.ownBlock.toList
theorem mem_blocksJ {J : List (Value × Nat)} {b : Nat} : b ∈ blocksJ J ↔ ∃ p ∈ J, p.1.ownBlock = some b := by simp [blocksJ]
set_option maxRecDepth 100000 in
set_option maxHeartbeats 400000 in
theorem growI_any {w : World} {bb : Nat} {cs : Array Value} {A : Option Addr} {c : Nat} {J : List (Value × Nat)} (hblk : Blk w bb 42 cs) (hat : cs[2]? = some (.slice A J.length c)) (hcap : J.length ≤ c ∧ c ≤ 2 ^ 63 - 1)
    (hri : w.ownsRow 0 43 1 (.slice A J.length c) J.length (J.map (·.1))) (hJ : GrJ w J) :
    Calls Tryz.prog 66 #[.pointer (some ⟨bb, 0, none⟩)] w fun e w' => ∃ Ao co, e = .returned (.slice Ao J.length co) ∧ (∃ O, GrO w w' J J.length O Ao co) ∧ Only (blocksJ J) w w' := by
  have hfew := hJ.few
  obtain ⟨hc1, hc2⟩ := hcap
  have g2 : w.cell? ⟨bb, 2, none⟩ = some (.slice A J.length c) := by rw [hblk.cell 2]; exact hat
  have hSJ : ∀ b ∈ blocksJ J, (∃ cur, Blk w b 3 cur) ∧ b < w.heap.size := fun b q => by
    obtain ⟨p, hp, e⟩ := mem_blocksJ.1 q
    obtain ⟨k, hk, rfl⟩ := List.getElem_of_mem hp
    exact ⟨own_type (hJ.own k hk) e, (World.ownsRow.lt (hJ.own k hk) b e).2⟩
  have hbn : bb ∉ blocksJ J := fun q => by
    obtain ⟨cur, hc⟩ := (hSJ bb q).1
    exact hc.other hblk (by decide) rfl
  have hbl := hblk.lt
  have HJ := Lib.hid hJ
  have HRi := Lib.hid hri
  clear hat hJ hri
  go_enter Tryz.func66, Tryz.ntmps66
  go_wp2
  go_loopw [3, 4] (fun ov iv wr => ∃ (i : Nat) (Ao : Option Addr) (co : Nat), i ≤ J.length ∧ ov = .slice Ao i co ∧ iv = .int .i64 i ∧ Hid (∃ O, GrO w wr J i O Ao co) ∧ Only (blocksJ J) w wr) (fun _ iv _ => J.length - (intOf iv).toNat)
  case atStart => exact ⟨0, none, 0, Nat.zero_le _, rfl, rfl, ⟨[], HJ.out.start⟩, Only.refl _ _⟩
  case round =>
    obtain ⟨i, Ao, co, hi, rfl, rfl, hG, hO⟩ := hrel
    have k2 : wr.cell? ⟨bb, 2, none⟩ = some (.slice A J.length c) := (hO.cell hbl hbn).trans g2
    have hsz := hO.size
    by_cases hlt : i < J.length
    · obtain ⟨vb, rfl, hvb, hvc⟩ := row_at HRi.out i hlt
      have hvn : vb ∉ blocksJ J := fun q => by
        obtain ⟨cur, hc⟩ := (hSJ vb q).1
        obtain ⟨c2, h2⟩ := own_type (g := vb) HRi.out rfl
        exact hc.other h2 (by decide) rfl
      rw [List.getElem?_map, List.getElem?_eq_getElem hlt] at hvc
      obtain ⟨Ap, cp, hp⟩ := HJ.out.lit i hlt
      have hpl := HJ.out.len i hlt
      have hown := HJ.out.own i hlt
      have hrest : ∃ O, GrO w wr J i O Ao co := hG.out
      have hro : wr.ownsRow 0 3 1 J[i].1 J[i].2 (ints (mkF i 0 J[i].2)) := by
        obtain ⟨O, hOx⟩ := hrest
        exact hOx.rest i hlt (Nat.le_refl _)
      have hvc' : wr.cell? ⟨vb, i, none⟩ = some (.slice Ap J[i].2 cp) := by
        rw [hO.cell (by exact hvb) hvn, hvc, ← hp]
        rfl
      obtain ⟨n, hn⟩ : ∃ n, n = J[i].2 := ⟨_, rfl⟩
      rw [← hn] at hpl hvc'
      rw [hp, ← hn] at hro
      have hzero : ∀ b off, Ap = some ⟨b, off, none⟩ → off = 0 := fun b off e => by
        rcases hro.2 with ⟨e2, _⟩ | ⟨g, cap, cur, e2, _⟩
        · injection e2 with q1 _ _
          rw [e] at q1
          cases q1
        · injection e2 with q1 _ _
          rw [e] at q1
          injection q1 with q1
          injection q1 with _ q2
      have hst : GrIn wr wr i n Ap cp n Ap cp := ⟨hro, Nat.le_refl _, fun b q => .inl q, Only.refl _ _, (Slc.of_own hro).1, hzero⟩
      have hpS : ∀ b, (Value.slice Ap n cp).ownBlock = some b → b ∈ blocksJ J := fun b q => mem_blocksJ.2 ⟨J[i], List.getElem_mem hlt, by rw [hp, ← hn]; exact q⟩
      have HNx := Lib.hid (fun (W3 w5 : World) (Al A5 : Option Addr) (cl c5 : Nat) (O : List (Value × Nat)) (hOx : GrO w wr J i O Ao co) (hg : GrIn wr W3 i n Ap cp (n + 72) Al cl)
        (hO5 : Only (Value.slice Ao i co).ownBlock.toList (W3.alloc (.cells #[.slice Al (n + 72) cl] 43)) w5) (ho5 : w5.ownsRow w.heap.size 43 1 (.slice A5 (i + 1) c5) (i + 1) (O.map (·.1) ++ [.slice Al (n + 72) cl])) =>
        (show GrO w w5 J (i + 1) (O ++ [(.slice Al (n + 72) cl, n + 72)]) A5 c5 from by
          subst hn
          exact GrO.next HJ.out hOx hlt hp hsz hg hO5 ho5))
      have HG := Lib.hid hG
      have HVc := Lib.hid hvc
      have HSt := Lib.hid hst
      clear hvc hp hown hrest hro hn hst hG HVc hzero
      go_wp2_with fail
      go_loopw [5, 6] (fun lv tv W => ∃ (t nt : Nat) (Al : Option Addr) (cl : Nat), t ≤ 12 ∧ Hid (nt = n + t) ∧ lv = .slice Al nt cl ∧ tv = .int .i64 t ∧ GrIn wr W i n Ap cp nt Al cl) (fun _ tv _ => 12 - (intOf tv).toNat)
      case atStart => exact ⟨0, n, Ap, cp, by omega, rfl, rfl, rfl, HSt.out⟩
      case round =>
        obtain ⟨t, nt, Al, cl, ht, hnt, rfl, rfl, hg⟩ := hrel
        by_cases h12 : t < 12
        · have hb : nt ≤ 1100000 := by have := hnt.out; omega
          have h12' : (t : Int) < 12 := by omega
          have HM := Lib.hid (show Calls Tryz.prog 98 #[.int .i64 i, .int .i64 nt, .int .i64 1] wr fun e w' => ∃ A c, e = .returned (.slice A 1 c) ∧ w'.ownsRow wr.heap.size 3 1 (.slice A 1 c) 1 (ints (mkF i nt 1)) ∧ Only [] wr w' from markI_any wr i nt 1 (by omega) (by omega))
          have HGi := Lib.hid hg
          clear hg HNx HG HSt HRi HJ
          go_wp2_with fail
          refine HM.out.mono ?_
          rintro e w1 ⟨Am, cm, rfl, hom, k1⟩
          obtain ⟨A', c', w2, hr, hg2⟩ := HGi.out.step k1 hom (by omega)
          have HR := Lib.hid hr
          clear hr hom k1 HM
          go_wp2_with (at_builtin; refine Lib.wpList_append_run _ rfl (.tmp 27) (.tmp 31) 43 43 rfl _ _ rfl rfl _ _ HR.out ?_)
          exact ⟨⟨t + 1, nt + 1, A', c', by omega, (by have := hnt.out; show nt + 1 = n + (t + 1); omega), rfl, by simp, hg2⟩, by simp [intOf]; omega⟩
        · have ht12 : t = 12 := by omega
          have hne : nt = n + 12 := by have := hnt.out; omega
          subst hne
          subst ht12
          have HM := Lib.hid (show Calls Tryz.prog 98 #[.int .i64 i, .int .i64 ((n + 12 : Nat) : Int), .int .i64 60] wr fun e w' => ∃ A c, e = .returned (.slice A 60 c) ∧ w'.ownsRow wr.heap.size 3 1 (.slice A 60 c) 60 (ints (mkF i (n + 12) 60)) ∧ Only [] wr w' from markI_any wr i (n + 12) 60 (by omega) (by omega))
          have HGi := Lib.hid hg
          clear hg h12 hnt HSt
          go_wp2_with fail
          refine HM.out.mono ?_
          rintro e w1 ⟨Am, cm, rfl, hom, k1⟩
          obtain ⟨A', c', w2, hr, hg2⟩ := HGi.out.step k1 hom (by omega)
          rw [show n + 12 + 60 = n + 72 by omega] at hr hg2
          obtain ⟨O, hOx⟩ := HG.out.out
          have hout2 : w2.ownsRow w.heap.size 43 1 (.slice Ao i co) i (O.map (·.1)) := own_only hOx.out hg2.only (fun b q z => by
            have h1 := (World.ownsRow.lt hOx.out b q).1
            have h2 := (hSJ b (hpS b (by simpa using z))).2
            omega)
          have hz2 : w.heap.size ≤ w2.heap.size := Nat.le_trans hsz hg2.only.size
          obtain ⟨A5, c5, w5, hr5, ho5, hO5, _⟩ := run_app (P := Tryz.prog) (w := w2.alloc (.cells #[.slice A' (n + 72) c'] 43)) 36 36 w.heap.size 43 (.slice none 0 0) 1 24 Tryz.underlying36 infoIs rfl (by decide) (hout2.alloc _) (slc_new1 (w := w2) (e := 43) (cs := [.slice A' (n + 72) c']) rfl) (by simp [Value.oneCell']) (by omega) (by unfold maxLen; omega) (Nat.le_trans hz2 (by simp))
          have hN := HNx.out w2 w5 A' A5 c' c5 O hOx hg2 hO5 ho5
          have hOnly : Only (blocksJ J) w w5 := by
            refine ((hO.trans (hg2.only.mono (fun b q => hpS b (by simpa using q)))).alloc (.cells #[.slice A' (n + 72) c'] 43)).step hO5 (fun b q => .inr ?_)
            exact (World.ownsRow.lt hOx.out b (by simpa using q)).1
          have HR := Lib.hid hr
          have HR5 := Lib.hid hr5
          have HN := Lib.hid hN
          have HO := Lib.hid hOnly
          clear hr hr5 hN hOnly hom k1 HM hg2 hOx hout2 hO5 ho5 HNx HG HGi
          go_wp2_with (at_builtin; first
            | refine Lib.wpList_append_run _ rfl (.tmp 34) (.tmp 38) 43 43 rfl _ _ rfl rfl _ _ HR.out ?_
            | refine Lib.wpList_append_run _ rfl (.tmp 33) (.tmp 40) 36 36 rfl _ _ rfl rfl _ _ HR5.out ?_)
          exact ⟨⟨i + 1, A5, c5, hlt, rfl, by simp, ⟨_, HN.out⟩, HO.out⟩, by simp [intOf]; omega⟩
    · have hin : i = J.length := by omega
      subst hin
      have HF := Lib.hid (And.intro hG hO)
      clear hG hO hlt hi HRi HJ
      go_wp2
      go_ret
      exact ⟨_, _, rfl, HF.out.1.out, HF.out.2⟩
end Go.Proofs.YthjgplgfcbhihaaGreat
/- The book's names. -/
set_option linter.unusedVariables false
set_option linter.unusedSimpArgs false
namespace Go.Proofs.YthjgplgfcbhihaaGreat
open Go.RowKit Go Go.Sort Go.Lib
def nmL (i k : Nat) : List UInt8 := [109, UInt8.ofNat (65 + i % 26), UInt8.ofNat (65 + i / 26 % 26), UInt8.ofNat (48 + k % 10), UInt8.ofNat (48 + k / 10 % 10), UInt8.ofNat (48 + k / 100 % 10)]
def nm (i k : Nat) : ByteArray := ⟨(nmL i k).toArray⟩
set_option maxRecDepth 100000 in
set_option maxHeartbeats 400000 in
theorem name_any (w : World) (i k : Nat) (hi : i ≤ 1000) (hk : k ≤ 2000000) :
    Calls Tryz.prog 122 #[.int .i64 i, .int .i64 k] w fun e w' => e = .returned (.string (nm i k)) ∧ Only [] w w' := by
  have h1 : ∀ n : Nat, n < 256 → ((UInt8.ofNat n).toNat : Int) = n := fun n h => by simp [UInt8.toNat_ofNat', Nat.mod_eq_of_lt h]
  have hcv := run_convert_bytes_back (P := Tryz.prog) (w.alloc (.cells #[.int .u8 109, .int .u8 (65 + (i : Int) % 26), .int .u8 (65 + (i : Int) / 26 % 26), .int .u8 (48 + (k : Int) % 10), .int .u8 (48 + (k : Int) / 10 % 10), .int .u8 (48 + (k : Int) / 100 % 10)] 5)) 139 9 5 ⟨w.heap.size, 0, none⟩ 6 (nmL i k) Tryz.underlying139 Tryz.underlying5 Tryz.underlying9 (fun j hj => by
    have hj6 : j < 6 := hj
    have e1 := h1 (65 + i % 26) (by omega)
    have e2 := h1 (65 + i / 26 % 26) (by omega)
    have e3 := h1 (48 + k % 10) (by omega)
    have e4 := h1 (48 + k / 10 % 10) (by omega)
    have e5 := h1 (48 + k / 100 % 10) (by omega)
    have hc := Blk.cell (show Blk (w.alloc (.cells #[.int .u8 109, .int .u8 (65 + (i : Int) % 26), .int .u8 (65 + (i : Int) / 26 % 26), .int .u8 (48 + (k : Int) % 10), .int .u8 (48 + (k : Int) / 10 % 10), .int .u8 (48 + (k : Int) / 100 % 10)] 5)) w.heap.size 5 _ from Blk.new _ _ _) j
    rw [show (⟨w.heap.size, 0, none⟩ : Addr).add j = ⟨w.heap.size, j, none⟩ by simp [Addr.add]; omega, hc]
    have e0 : (UInt8.toNat 109 : Int) = 109 := rfl
    have hj7 : j = 0 ∨ j = 1 ∨ j = 2 ∨ j = 3 ∨ j = 4 ∨ j = 5 := by omega
    clear hc
    rcases hj7 with rfl | rfl | rfl | rfl | rfl | rfl
    · rfl
    · simp only [nmL, List.getElem_cons_succ, List.getElem_cons_zero]; rw [e1]; simp
    · simp only [nmL, List.getElem_cons_succ, List.getElem_cons_zero]; rw [e2]; simp
    · simp only [nmL, List.getElem_cons_succ, List.getElem_cons_zero]; rw [e3]; simp
    · simp only [nmL, List.getElem_cons_succ, List.getElem_cons_zero]; rw [e4]; simp
    · simp only [nmL, List.getElem_cons_succ, List.getElem_cons_zero]; rw [e5]; simp)
  have HC := Lib.hid hcv
  clear hcv
  go_enter Tryz.func122, Tryz.ntmps122
  go_wp2_with fail
  have hcv2 := HC.out
  rw [show (nmL i k).length = 6 from rfl] at hcv2
  rw [hcv2]
  clear hcv2 HC
  go_wp2
  go_ret
  exact ⟨rfl, (Only.refl _ _).alloc _⟩
end Go.Proofs.YthjgplgfcbhihaaGreat
/- The book's marks for texts; what is still as it was. Printed by t2t.py from Ra1. -/
set_option linter.unusedVariables false
set_option linter.unusedSimpArgs false
namespace Go.Proofs.YthjgplgfcbhihaaGreat
open Go.RowKit Go Go.Sort Go.Lib
theorem infoTx : (Tryz.prog.info? 9).map (fun i => (i.zero, i.size, i.bytes)) = some (some (.string ⟨#[]⟩), 1, 16) := by kernel_rfl
def mkT (i f n : Nat) : List ByteArray := (List.range n).map (fun k : Nat => nm i (f + k))
theorem mkT_len (i f n : Nat) : (mkT i f n).length = n := by simp [mkT]
theorem mkT_succ (i f n : Nat) : mkT i f (n + 1) = mkT i f n ++ [nm i (f + n)] := by simp [mkT, List.range_succ]
theorem mkT_app (i f n m : Nat) : mkT i f n ++ mkT i (f + n) m = mkT i f (n + m) := by
  induction m with
  | zero => simp [mkT]
  | succ m ih =>
    rw [mkT_succ, ← List.append_assoc, ih, ← Nat.add_assoc, mkT_succ, Nat.add_assoc]
theorem mkT_get (i f n k : Nat) (h : k < (mkT i f n).length) : (mkT i f n)[k] = nm i (f + k) := by simp [mkT]
set_option maxRecDepth 100000 in
set_option maxHeartbeats 500000 in
theorem markT_any (w : World) (i f n : Nat) (hi : i ≤ 1000) (hf : f + n ≤ 2000000) :
    Calls Tryz.prog 97 #[.int .i64 i, .int .i64 f, .int .i64 n] w fun e w' => ∃ A c, e = .returned (.slice A n c) ∧ w'.ownsRow w.heap.size 9 1 (.slice A n c) n (strs (mkT i f n)) ∧ Only [] w w' := by
  have hfn := IntWalk.i64_in ((f : Int) + (n : Int)) ⟨by omega, by omega⟩
  go_enter Tryz.func97, Tryz.ntmps97
  go_wp2
  go_loopw [7, 8] (fun ov kv wr => ∃ (j : Nat) (A : Option Addr) (c : Nat), j ≤ n ∧ ov = .slice A j c ∧ kv = .int .i64 ((f : Int) + (j : Int)) ∧ wr.ownsRow w.heap.size 9 1 (.slice A j c) j (strs (mkT i f j)) ∧ Only [] w wr) (fun _ kv _ => f + n - (intOf kv).toNat)
  case atStart => exact ⟨0, none, 0, Nat.zero_le _, rfl, by simp, World.ownsRow_nil _ _ _ _, Only.refl _ _⟩
  case round =>
    obtain ⟨j, A, c, hj, rfl, rfl, hown, hO⟩ := hrel
    by_cases hlt : j < n
    · have hlt' : (f : Int) + (j : Int) < (f : Int) + (n : Int) := by omega
      have h3 := IntWalk.i64_in ((f : Int) + (j : Int) + 1) ⟨by omega, by omega⟩
      have HN := Lib.hid (fun W : World => show Calls Tryz.prog 122 #[.int .i64 i, .int .i64 ((f : Int) + (j : Int))] W fun e w' => e = .returned (.string (nm i (f + j))) ∧ Only [] W w' from by
        have := name_any W i (f + j) (by omega) (by omega)
        rwa [Int.natCast_add] at this)
      have HW := Lib.hid hown
      clear hown
      go_wp2_with fail
      refine (HN.out _).mono ?_
      rintro e w1 ⟨rfl, k1⟩
      obtain ⟨A4, c4, w4, hr, hown4, hO4, _⟩ := run_app (P := Tryz.prog) (w := w1.alloc (.cells #[.string (nm i (f + j))] 9)) 61 61 w.heap.size 9 (.string ⟨#[]⟩) 1 16 Tryz.underlying61 infoTx rfl (by decide) ((own_only HW.out k1 (by simp)).alloc _) (slc_new1 (w := w1) (e := 9) (cs := [.string (nm i (f + j))]) rfl) (by simp [Value.oneCell']) (by omega) (by unfold maxLen; omega) (Nat.le_trans (hO.trans k1).size (by simp))
      have k4 : Only [] w w4 := ((hO.trans k1).alloc (.cells #[.string (nm i (f + j))] 9)).step hO4 (fun b hb => .inr (World.ownsRow.lt HW.out b (by simpa using hb)).1)
      have ho4 : w4.ownsRow w.heap.size 9 1 (.slice A4 (j + 1) c4) (j + 1) (strs (mkT i f (j + 1))) := by
        rw [mkT_succ, show strs (mkT i f j ++ [nm i (f + j)]) = strs (mkT i f j) ++ [.string (nm i (f + j))] by simp [strs]]
        exact hown4
      have HR := Lib.hid hr
      have HO := Lib.hid ho4
      clear hr hown4 hO4 ho4 HN
      go_wp2_with (at_builtin; refine Lib.wpList_append_run _ rfl (.tmp 17) (.tmp 21) 61 61 rfl _ _ rfl rfl _ _ HR.out ?_)
      exact ⟨⟨j + 1, A4, c4, hlt, rfl, by simp [Int.add_assoc], HO.out, k4⟩, by simp [intOf]; omega⟩
    · have hjn : j = n := by omega
      have hlt' : ¬ (f : Int) + (j : Int) < (f : Int) + (n : Int) := by omega
      subst hjn
      have HO := Lib.hid hown
      clear hown hlt
      go_wp2
      go_ret
      exact ⟨_, _, rfl, HO.out, hO⟩
set_option maxRecDepth 100000 in
set_option maxHeartbeats 500000 in
theorem stillT_any {w : World} {bb : Nat} {vt vx vi vy : Value} {T X I Y : List (Value × List Value)} (h : BkAt w bb vt vx vi vy T X I Y) :
    Calls Tryz.prog 53 #[.pointer (some ⟨bb, 0, none⟩)] w fun e w' => e = .returned (.bool true) ∧ Only [] w w' := by
  obtain ⟨Ai, ci, rfl, hni, hmi⟩ := own_form h.rt
  obtain ⟨Ay, cy, rfl, hny, hmy⟩ := own_form h.rx
  unfold maxLen at hmi hmy
  have g2 : w.cell? ⟨bb, 0, none⟩ = some (.slice Ai T.length ci) := h.blk.cell 0
  have g3 : w.cell? ⟨bb, 1, none⟩ = some (.slice Ay X.length cy) := h.blk.cell 1
  have hbl := h.blk.lt
  have hYl : X.length = T.length := by
    have := congrArg List.length h.st
    simpa using this.symm
  have HYl := Lib.hid hYl
  have HB := Lib.hid h
  clear hYl h
  go_enter Tryz.func53, Tryz.ntmps53
  go_wp2
  go_loopw [3] (fun iv wr => ∃ j : Nat, j ≤ T.length ∧ iv = .int .i64 j ∧ Only [] w wr) (fun iv _ => T.length - (intOf iv).toNat)
  case atStart => exact ⟨0, Nat.zero_le _, rfl, Only.refl _ _⟩
  case round =>
    obtain ⟨j, hj, rfl, hO⟩ := hrel
    have k2 : wr.cell? ⟨bb, 0, none⟩ = some (.slice Ai T.length ci) := (hO.cell hbl (by simp)).trans g2
    have k3 : wr.cell? ⟨bb, 1, none⟩ = some (.slice Ay X.length cy) := (hO.cell hbl (by simp)).trans g3
    by_cases hlt : j < T.length
    · have hltY : j < X.length := by rw [HYl.out]; exact hlt
      obtain ⟨bi, rfl, hbi, hci⟩ := row_at HB.out.rt j hlt
      obtain ⟨by', rfl, hby, hcy⟩ := row_at HB.out.rx j hltY
      rw [List.getElem?_map, List.getElem?_eq_getElem hlt] at hci
      rw [List.getElem?_map, List.getElem?_eq_getElem hltY] at hcy
      obtain ⟨p, hp⟩ : ∃ p, p = T[j] := ⟨_, rfl⟩
      obtain ⟨q, hq⟩ : ∃ q, q = X[j] := ⟨_, rfl⟩
      have hpm : p ∈ T := by rw [hp]; exact List.getElem_mem hlt
      have hqm : q ∈ X := by rw [hq]; exact List.getElem_mem hltY
      have hpq : p.2 = q.2 := by
        have := congrArg (fun l => l[j]?) HB.out.st
        simp only [List.getElem?_map, List.getElem?_eq_getElem hlt, List.getElem?_eq_getElem hltY, Option.map_some] at this
        rw [hp, hq]
        injection this
      rw [← hp] at hci
      rw [← hq] at hcy
      obtain ⟨l, hl, _⟩ := HB.out.ct p hpm
      obtain ⟨A1, c1, e1⟩ := HB.out.kt.lit p (List.mem_append_right _ hpm)
      obtain ⟨A2, c2, e2⟩ := HB.out.kt.lit q (List.mem_append_left _ hqm)
      have o1 := HB.out.kt.own p (List.mem_append_right _ hpm)
      have o2 := HB.out.kt.own q (List.mem_append_left _ hqm)
      have hil : (strs l).length = l.length := by simp [strs]
      rw [hl, hil] at o1 e1
      rw [← hpq, hl, hil] at o2 e2
      have HSm := Lib.hid (fun (W : World) (hW : Only [] w W) => sameT_refl (l := l) ((Slc.of_own o1).1.only0 hW) ((Slc.of_own o2).1.only0 hW))
      have hci' : w.cell? ⟨bi, j, none⟩ = some (.slice A1 l.length c1) := by rw [hci, ← e1]; rfl
      have hcy' : w.cell? ⟨by', j, none⟩ = some (.slice A2 l.length c2) := by rw [hcy, ← e2]; rfl
      rw [e1] at HSm
      rw [e2] at HSm
      have d2 := Within.cell (S := []) k2 (by simp)
      have d3 := Within.cell (S := []) k3 (by simp)
      have d4 := Within.cell (S := []) ((hO.cell hbi (by simp)).trans hci') (by simp)
      have d5 := Within.cell (S := []) ((hO.cell hby (by simp)).trans hcy') (by simp)
      clear hci hcy hci' hcy' hp hq hpq hl e1 e2 o1 o2 hpm hqm
      go_wp2_with fail
      refine wp_region_in [] [0, 1, 2, 3, 4, 5, 6, 7, 8, 9, 10, 11, 12, 13] [14, 15] [] (by kernel_rfl) (by kernel_rfl) (by intro c d u a w h; cases d <;> exact h) ?_
      show wpQuiet _ _ _ _ [_, _, _, _, _, _, _, _, _, _, _, _, _, _] _
      repeat (go_big_quiet_step (fail))
      refine wpQuiet_nil ?_
      clear d2 d3 d4 d5
      show wpList _ _ _ [_] _ _
      go_wp2_with fail
      refine (HSm.out _ hO.drew).mono ?_
      rintro e w1 ⟨rfl, k1⟩
      have k1' := (Only.refl [] wr).drew.trans k1
      go_wp2_with fail
      refine check_of (S := []) k1' ?_
      show wpList _ _ _ [_] _ _
      go_wp2_with fail
      refine check_last (S := []) k1' (fun _ _ q => q) ?_
      clear HSm k1
      go_wp2
      exact ⟨⟨j + 1, hlt, by simp, hO.trans k1'⟩, by simp [intOf]; omega⟩
    · clear HB HYl k3
      go_wp2
      go_ret
      exact ⟨rfl, hO⟩
end Go.Proofs.YthjgplgfcbhihaaGreat
/- The book: all lists of numbers are marked. -/
set_option linter.unusedVariables false
set_option linter.unusedSimpArgs false
namespace Go.Proofs.YthjgplgfcbhihaaGreat
open Go.RowKit Go Go.Sort Go.Lib
/-- The lists of numbers of a book, behind what was still. -/
structure PT (w : World) (bb : Nat) (cs : Array Value) (A : Option Addr) (c : Nat) (I : List (Value × List Value)) : Prop where
  blk : Blk w bb 42 cs
  at0 : cs[0]? = some (.slice A I.length c)
  cap : I.length ≤ c ∧ c ≤ maxLen
  ri : w.ownsRow 0 61 1 (.slice A I.length c) I.length (I.map (·.1))
  k : Kpt w 9 I
  ci : ∀ p ∈ I, ∃ l : List ByteArray, p.2 = strs l ∧ l.length ≤ 1000000
  few : I.length ≤ 250
/-- The first i rows marked. -/
def pmT (i : Nat) (I : List (Value × List Value)) : List (Value × List Value) := I.mapIdx (fun k p => if k < i then (p.1, strs (mkT k 0 p.2.length)) else p)
theorem pmT_len (i : Nat) (I : List (Value × List Value)) : (pmT i I).length = I.length := by simp [pmT]
theorem pmT_get (i : Nat) (I : List (Value × List Value)) (k : Nat) (h : k < I.length) (h' : k < (pmT i I).length) : (pmT i I)[k] = if k < i then (I[k].1, strs (mkT k 0 I[k].2.length)) else I[k] := by simp [pmT]
theorem pmT_zero (I : List (Value × List Value)) : pmT 0 I = I := by
  apply List.ext_getElem
  · simp [pmT]
  · intro k h1 h2
    rw [pmT_get 0 I k h2]
    simp
theorem pmT_fst (i : Nat) (I : List (Value × List Value)) : (pmT i I).map (·.1) = I.map (·.1) := by
  apply List.ext_getElem
  · simp [pmT]
  · intro k h1 h2
    have hk : k < I.length := by simpa using h2
    rw [List.getElem_map, List.getElem_map, pmT_get i I k hk]
    split <;> rfl
theorem pmT_set (i : Nat) (I : List (Value × List Value)) (h : i < I.length) : (pmT i I).set i (I[i].1, strs (mkT i 0 I[i].2.length)) = pmT (i + 1) I := by
  apply List.ext_getElem
  · simp [pmT]
  · intro k h1 h2
    have hk : k < I.length := by rw [pmT_len] at h2; exact h2
    rw [List.getElem_set, pmT_get (i + 1) I k hk]
    by_cases e : i = k
    · subst e
      rw [if_pos rfl, if_pos (by omega)]
    · rw [if_neg e, pmT_get i I k hk]
      by_cases q : k < i
      · rw [if_pos q, if_pos (by omega)]
      · rw [if_neg q, if_neg (by omega)]
theorem marksT_set (i k : Nat) (xs : List Value) (hk : k < xs.length) : (strs (mkT i 0 k) ++ xs.drop k).set k (.string (nm i (0 + k))) = strs (mkT i 0 (k + 1)) ++ xs.drop (k + 1) := by
  have hl : (strs (mkT i 0 k)).length = k := by simp [strs, mkT_len]
  rw [List.drop_eq_getElem_cons hk, List.set_append_right _ _ (by omega), hl, mkT_succ]
  simp only [Nat.sub_self, List.set_cons_zero]
  simp [strs]
end Go.Proofs.YthjgplgfcbhihaaGreat
/- The book: putInts. -/
set_option linter.unusedVariables false
set_option linter.unusedSimpArgs false
namespace Go.Proofs.YthjgplgfcbhihaaGreat
open Go.RowKit Go Go.Sort Go.Lib
section
variable {w w' : World} {bb : Nat} {cs : Array Value} {A : Option Addr} {c : Nat} {I : List (Value × List Value)}
theorem PT.only {S : List Nat} (h : PT w bb cs A c I) (k : Only S w w') (hS : ∀ b ∈ S, (∃ cur, Blk w b 9 cur) ∧ b ∉ blocksV I) : PT w' bb cs A c I := by
  refine ⟨k.blk h.blk (fun q => ?_), h.at0, h.cap, own_only h.ri k (fun b q z => ?_), h.k.only k (fun b q z => (hS b z).2 q), h.ci, h.few⟩
  · obtain ⟨⟨cur, hc⟩, _⟩ := hS bb q
    exact hc.other h.blk (by decide) rfl
  · obtain ⟨⟨cur, hc⟩, _⟩ := hS b z
    obtain ⟨c2, h2⟩ := own_type h.ri q
    exact hc.other h2 (by decide) rfl
theorem PT.cell (h : PT w bb cs A c I) : w.cell? ⟨bb, 0, none⟩ = some (.slice A I.length c) := by
  rw [h.blk.cell 0]
  exact h.at0
theorem PT.row (h : PT w bb cs A c I) (i : Nat) (hi : i < I.length) : ∃ vb, A = some ⟨vb, 0, none⟩ ∧ vb < w.heap.size ∧ (∃ cur, Blk w vb 61 cur) ∧ w.cell? ⟨vb, i, none⟩ = some I[i].1 := by
  obtain ⟨vb, e, hl, hc⟩ := row_at h.ri i hi
  obtain ⟨cur, hcur⟩ := own_type (g := vb) h.ri (by rw [e]; rfl)
  refine ⟨vb, e, hl, ⟨cur, hcur⟩, ?_⟩
  rw [hc, List.getElem?_map, List.getElem?_eq_getElem hi]
  rfl
set_option maxRecDepth 100000 in
set_option maxHeartbeats 1000000 in
theorem putT_all (h : PT w bb cs A c I) :
    Calls Tryz.prog 60 #[.pointer (some ⟨bb, 0, none⟩)] w fun e w' => e = .returned (.tuple #[]) ∧ PT w' bb cs A c (pmT I.length I) ∧ Only (blocksV I) w w' := by
  have hc63 := h.cap.2
  have hcl := h.cap.1
  have hfew := h.few
  unfold maxLen at hc63
  have hci := Lib.hid h.ci
  go_enter Tryz.func60, Tryz.ntmps60
  go_wp2
  go_loopw [2] (fun iv wr => ∃ i : Nat, i ≤ I.length ∧ iv = .int .i64 i ∧ PT wr bb cs A c (pmT i I) ∧ Only (blocksV I) w wr) (fun iv _ => I.length - (intOf iv).toNat)
  case atStart => exact ⟨0, Nat.zero_le _, rfl, by rw [pmT_zero]; exact h, Only.refl _ _⟩
  case round =>
    obtain ⟨i, hi, rfl, hP, hO⟩ := hrel
    have g2 : wr.cell? ⟨bb, 0, none⟩ = some (.slice A I.length c) := by have := hP.cell; rw [pmT_len] at this; exact this
    by_cases hlt : i < I.length
    · have hltJ : i < (pmT i I).length := by rw [pmT_len]; exact hlt
      obtain ⟨vb, rfl, hvb, ⟨vcur, hvcur⟩, hvc⟩ := hP.row i hltJ
      have hJi : (pmT i I)[i] = I[i] := by rw [pmT_get i I i hlt hltJ, if_neg (Nat.lt_irrefl _)]
      obtain ⟨p, hp⟩ : ∃ p, p = I[i] := ⟨_, rfl⟩
      rw [hJi, ← hp] at hvc
      have hpm : p ∈ pmT i I := by rw [hp, ← hJi]; exact List.getElem_mem hltJ
      have hown := hP.k.own p hpm
      obtain ⟨Ap, cp, hp1⟩ := hP.k.lit p hpm
      obtain ⟨l, hl, hll⟩ := hci.out p (by rw [hp]; exact List.getElem_mem hlt)
      have hpl : p.2.length ≤ 1000000 := by rw [hl]; simpa [strs] using hll
      obtain ⟨n, hn⟩ : ∃ n, n = p.2.length := ⟨_, rfl⟩
      rw [← hn] at hp1 hpl hown
      have hncp : n ≤ cp ∧ cp ≤ maxLen := by
        obtain ⟨A', c', e, q1, q2⟩ := own_form hown
        rw [hp1] at e
        injection e with _ _ e3
        omega
      have hcpm := hncp.2
      have hncp1 := hncp.1
      unfold maxLen at hcpm
      have hnotb : bb ∉ p.1.ownBlock.toList := fun q => by
        obtain ⟨c2, h2⟩ := own_type hown (g := bb) (by simpa using q)
        exact h2.other hP.blk (by decide) rfl
      have hnotv : vb ∉ p.1.ownBlock.toList := fun q => by
        obtain ⟨c2, h2⟩ := own_type hown (g := vb) (by simpa using q)
        exact h2.other hvcur (by decide) rfl
      have hsubI : ∀ b ∈ p.1.ownBlock.toList, b ∈ blocksV I := fun b q => mem_blocksV.2 ⟨p, by rw [hp]; exact List.getElem_mem hlt, by simpa using q⟩
      have HNext := Lib.hid (fun (W : World) (k : Only p.1.ownBlock.toList wr W) (ho : W.ownsRow 0 9 1 p.1 n (strs (mkT i 0 n))) => (show PT W bb cs (some ⟨vb, 0, none⟩) c (pmT (i + 1) I) ∧ Only (blocksV I) w W from by
        have hk := hP.k.set (i := i) hltJ (cs := strs (mkT i 0 n)) (w' := W) (by rw [hJi, ← hp, ← hn]; simp [strs, mkT_len]) (by rw [hJi, ← hp]; exact k) (by rw [hJi, ← hp, show (strs (mkT i 0 n)).length = n by simp [strs, mkT_len]]; exact ho)
        rw [hJi, hn, hp, pmT_set i I hlt] at hk
        refine ⟨⟨k.blk hP.blk hnotb, by have := hP.at0; rw [pmT_len] at this ⊢; exact this, by have := hP.cap; rw [pmT_len] at this ⊢; exact this, ?_, hk, ?_, by rw [pmT_len]; exact hfew⟩, hO.trans (k.mono hsubI)⟩
        · have := own_only hP.ri k (fun b q z => by
            obtain ⟨c2, h2⟩ := own_type hown (g := b) (by simpa using z)
            obtain ⟨c3, h3⟩ := own_type hP.ri q
            exact h2.other h3 (by decide) rfl)
          rw [pmT_len, pmT_fst] at this ⊢
          exact this
        · intro q hq
          obtain ⟨k', hk', rfl⟩ := List.getElem_of_mem hq
          have hk2 : k' < I.length := by rw [pmT_len] at hk'; exact hk'
          rw [pmT_get (i + 1) I k' hk2]
          obtain ⟨l2, hl2, hll2⟩ := hci.out I[k'] (List.getElem_mem hk2)
          split
          · exact ⟨mkT k' 0 I[k'].2.length, rfl, by rw [mkT_len, hl2]; simpa [strs] using hll2⟩
          · exact ⟨l2, hl2, hll2⟩))
      have HM := Lib.hid (show Calls Tryz.prog 97 #[.int .i64 i, .int .i64 0, .int .i64 n] wr fun e w' => ∃ A c, e = .returned (.slice A n c) ∧ w'.ownsRow wr.heap.size 9 1 (.slice A n c) n (strs (mkT i 0 n)) ∧ Only [] wr w' from markT_any wr i 0 n (by omega) (by omega))
      have hrl := World.ownsRow.lt hown
      have hbl := hP.blk.lt
      rw [hp1] at hvc hown HNext hnotb hnotv hrl
      obtain ⟨xs, hxs⟩ : ∃ xs, xs = p.2 := ⟨_, rfl⟩
      rw [← hxs] at hown hn
      clear hP hO hJi hl hp hpm hp1 hxs hncp hltJ hsubI
      have hnl := Lib.hid hn
      clear hn
      go_wp2_with fail
      refine HM.out.mono ?_
      rintro e w1 ⟨Am, cm, rfl, hom, k1⟩
      have hpd : ∀ b, (Value.slice Am n cm).ownBlock = some b → b ∉ (Value.slice Ap n cp).ownBlock.toList := fun b q z => by
        have h1 := (World.ownsRow.lt hom b q).1
        have h2 := (hrl b (by simpa using z)).2
        omega
      have hmcap : n ≤ cm ∧ cm ≤ 2 ^ 63 - 1 := by
        obtain ⟨A', c', e, q1, q2⟩ := own_form hom
        injection e with _ _ e3
        unfold maxLen at q2
        omega
      obtain ⟨hmc1, hmc2⟩ := hmcap
      have HOm := Lib.hid hom
      have HHvc := Lib.hid hvc
      have HG2 := Lib.hid g2
      have HPd := Lib.hid hpd
      clear hom hpd hvc g2
      go_wp2_with fail
      go_loopw [4] (fun kv wr => ∃ k : Nat, k ≤ n ∧ kv = .int .i64 k ∧ wr.ownsRow 0 9 1 (.slice Ap n cp) n (strs (mkT i 0 k) ++ xs.drop k) ∧ Only (Value.slice Ap n cp).ownBlock.toList w1 wr) (fun kv _ => n - (intOf kv).toNat)
      case atStart => exact ⟨0, Nat.zero_le _, rfl, by simpa [mkT, strs] using own_only hown k1 (by simp), Only.refl _ _⟩
      case round =>
        obtain ⟨k, hk, rfl, hoq, hOq⟩ := hrel
        by_cases hkn : k < n
        · obtain ⟨pb, hpb, hpl2, hpc⟩ := row_at hoq k hkn
          obtain ⟨mb, hmb, hml, hmc⟩ := row_at (own_only HOm.out hOq HPd.out) k hkn
          have hmk : (strs (mkT i 0 n))[k]? = some (.string (nm i (0 + k))) := by
            have hk2 : k < (mkT i 0 n).length := by rw [mkT_len]; exact hkn
            unfold strs
            rw [List.getElem?_map, List.getElem?_eq_getElem hk2, mkT_get]
            rfl
          rw [hmk] at hmc
          have hkx : k < xs.length := by rw [← hnl.out]; exact hkn
          have hpx : ∃ u, (strs (mkT i 0 k) ++ xs.drop k)[k]? = some u := by
            have hle : k < (strs (mkT i 0 k) ++ xs.drop k).length := by simp [strs, mkT_len]; omega
            exact ⟨_, List.getElem?_eq_getElem hle⟩
          obtain ⟨u, hu⟩ := hpx
          rw [hu] at hpc
          have hst := (show wr.ownsRow 0 9 1 (.slice (some ⟨pb, 0, none⟩) n cp) n (strs (mkT i 0 k) ++ xs.drop k) by rw [← hpb]; exact hoq)
          have hfr := hst.frozenAt k
          have hsto := fun wz (kz : Only [] wr wz) => (World.ownsRow.stored (own_only hst kz (by simp)) k (.string (nm i (0 + k)))).1
          have HSt := Lib.hid (fun wz (kz : Only [] wr wz) => (show (wz.setCell ⟨pb, k, none⟩ (.string (nm i (0 + k)))).ownsRow 0 9 1 (.slice Ap n cp) n (strs (mkT i 0 (k + 1)) ++ xs.drop (k + 1)) from by
            have := hsto wz kz
            rw [marksT_set i k xs hkx] at this
            rw [hpb]
            exact this))
          have hkO : ∀ wz, Only [] wr wz → Only (Value.slice Ap n cp).ownBlock.toList w1 (wz.setCell ⟨pb, k, none⟩ (.string (nm i (0 + k)))) := fun wz kz => (hOq.trans kz.of_nil).setCell (.inl (by rw [hpb]; simp [Value.ownBlock])) _
          have HKO := Lib.hid hkO
          have k1q := k1.of_nil.trans hOq
          have d2 := Within.cell (S := []) ((k1q.cell hbl hnotb).trans HG2.out) (by simp)
          have d3 := Within.cell (S := []) ((k1q.cell hvb hnotv).trans HHvc.out) (by simp)
          have d4 := Within.cell (S := []) hmc (by simp)
          have d5 := hpc
          subst hmb
          subst hpb
          clear hoq hOq hst hsto hkO hmk hu hmc k1q HM
          obtain ⟨mv, hmv⟩ : ∃ mv : ByteArray, mv = nm i (0 + k) := ⟨_, rfl⟩
          rw [← hmv] at HSt HKO d4
          clear hmv
          go_wp2_with fail
          refine wp_region_in [] [0, 1, 2, 3, 4, 5, 6, 7, 8, 9, 10, 11, 12] [] [13] (by kernel_rfl) (by kernel_rfl) (by intro c d u a w h; cases d <;> exact h) ?_
          show wpQuiet _ _ _ _ [_, _, _, _, _, _, _, _, _, _, _, _, _] _
          repeat (go_big_quiet_step (fail))
          refine wpQuiet_nil ?_
          clear d2 d3 d4
          show wpList _ _ _ [_] _ _
          go_wp2
          exact ⟨⟨k + 1, hkn, by simp, (HSt.out _ (Only.refl _ _)).drew, (HKO.out _ (Only.refl _ _)).drew⟩, by simp [intOf]; omega⟩
        · have hkn2 : k = n := by omega
          have hdr : strs (mkT i 0 k) ++ xs.drop k = strs (mkT i 0 n) := by rw [hkn2, List.drop_of_length_le (by rw [← hnl.out]; exact Nat.le_refl _), List.append_nil]
          rw [hdr] at hoq
          have hN := HNext.out _ (k1.of_nil.trans hOq) hoq
          have HN1 := Lib.hid hN.1
          have HN2 := Lib.hid hN.2
          clear hN hoq hOq hdr hkn2 HNext HM HOm HHvc HG2 HPd
          go_wp2
          exact ⟨⟨i + 1, hlt, by simp, HN1.out, HN2.out⟩, by simp [intOf]; omega⟩
    · have hin : i = I.length := by omega
      subst hin
      have HF := Lib.hid (And.intro hP hO)
      clear hP hO hlt
      go_wp2
      go_end0
      exact ⟨rfl, HF.out⟩
end
end Go.Proofs.YthjgplgfcbhihaaGreat
/- The book: markedInts. -/
set_option linter.unusedVariables false
set_option linter.unusedSimpArgs false
namespace Go.Proofs.YthjgplgfcbhihaaGreat
open Go.RowKit Go Go.Sort Go.Lib
/-- Lists that have their marks. -/
structure MkdT (w : World) (A : Option Addr) (c : Nat) (L : List (Value × Nat)) : Prop where
  cap : L.length ≤ c ∧ c ≤ 2 ^ 63 - 1
  few : L.length ≤ 250
  row : ∀ i (h : i < L.length), ∃ vb, A = some ⟨vb, 0, none⟩ ∧ vb < w.heap.size ∧ w.cell? ⟨vb, i, none⟩ = some L[i].1
  lit : ∀ i (h : i < L.length), ∃ A' c', L[i].1 = .slice A' L[i].2 c'
  slc : ∀ i (h : i < L.length), Slc w 1 L[i].1 L[i].2 (strs (mkT i 0 L[i].2))
  len : ∀ i (h : i < L.length), L[i].2 ≤ 1100000
theorem MkdT.keep0 {w w' : World} {A : Option Addr} {c : Nat} {L : List (Value × Nat)} (h : MkdT w A c L) (k : Only [] w w') : MkdT w' A c L :=
  ⟨h.cap, h.few, fun i hi => by
    obtain ⟨vb, e, hl, hc⟩ := h.row i hi
    exact ⟨vb, e, Nat.lt_of_lt_of_le hl k.size, (k.cell hl (by simp)).trans hc⟩, h.lit, fun i hi => (h.slc i hi).only k (by simp), h.len⟩
set_option maxRecDepth 100000 in
set_option maxHeartbeats 500000 in
theorem markedT_any {w : World} {A : Option Addr} {c : Nat} {L : List (Value × Nat)} (h : MkdT w A c L) :
    Calls Tryz.prog 71 #[.slice A L.length c] w fun e w' => e = .returned (.bool true) ∧ Only [] w w' := by
  obtain ⟨hc1, hc2⟩ := h.cap
  have hfew := h.few
  have HM := Lib.hid h
  clear h
  go_enter Tryz.func71, Tryz.ntmps71
  go_wp2
  go_loopw [3] (fun iv wr => ∃ i : Nat, i ≤ L.length ∧ iv = .int .i64 i ∧ Only [] w wr) (fun iv _ => L.length - (intOf iv).toNat)
  case atStart => exact ⟨0, Nat.zero_le _, rfl, Only.refl _ _⟩
  case round =>
    obtain ⟨i, hi, rfl, hO⟩ := hrel
    by_cases hlt : i < L.length
    · obtain ⟨vb, rfl, hvb, hcell⟩ := (HM.out.keep0 hO).row i hlt
      have hsl := (HM.out.keep0 hO).slc i hlt
      obtain ⟨A', c', hlit⟩ := HM.out.lit i hlt
      have hlen := HM.out.len i hlt
      obtain ⟨n, hn⟩ : ∃ n, n = L[i].2 := ⟨_, rfl⟩
      obtain ⟨v, hv⟩ : ∃ v, v = L[i].1 := ⟨_, rfl⟩
      rw [← hn] at hsl hlit hlen
      rw [← hv] at hsl hlit hcell
      rw [hlit] at hsl hcell
      have hmk : (mkT i 0 n).length = n := mkT_len _ _ _
      have HMk := Lib.hid (fun W => show Calls Tryz.prog 97 #[.int .i64 i, .int .i64 0, .int .i64 n] W fun e w' => ∃ A c, e = .returned (.slice A n c) ∧ w'.ownsRow W.heap.size 9 1 (.slice A n c) n (strs (mkT i 0 n)) ∧ Only [] W w' from markT_any W i 0 n (by omega) (by omega))
      have HSm := Lib.hid (fun (W : World) (hW : Only [] wr W) (v2 : Value) (h2 : Slc W 1 v2 n (strs (mkT i 0 n))) => sameT_refl (l := mkT i 0 n) (v1 := .slice A' n c') (v2 := v2) (by rw [hmk]; exact hsl.only hW (by simp)) (by rw [hmk]; exact h2))
      have d1 := Within.cell (S := []) hcell (by simp)
      clear hsl hcell hlit hn hv hmk
      go_wp2_with fail
      refine wp_region_in [] [0, 1, 2, 3, 4, 5, 6, 7, 8, 9] [10, 11, 12] [] (by kernel_rfl) (by kernel_rfl) (by intro c d u a w h; cases d <;> exact h) ?_
      show wpQuiet _ _ _ _ [_, _, _, _, _, _, _, _, _, _] _
      repeat (go_big_quiet_step (fail))
      refine wpQuiet_nil ?_
      clear d1
      show wpList _ _ _ [_] _ _
      go_wp2_with fail
      refine (HMk.out _).mono ?_
      rintro e w1 ⟨Am, cm, rfl, hom, k1⟩
      have k1' := (Only.refl [] wr).drew.trans k1
      go_wp2_with fail
      refine check_of (S := []) k1' ?_
      show wpList _ _ _ [_] _ _
      go_wp2_with fail
      refine (HSm.out _ k1' _ (Slc.of_own hom).1).mono ?_
      rintro e w2 ⟨rfl, k2⟩
      have k2' := k1'.trans k2
      go_wp2_with fail
      refine check_of (S := []) k2' ?_
      show wpList _ _ _ [_] _ _
      go_wp2_with fail
      refine check_last (S := []) k2' (fun _ _ q => q) ?_
      clear HSm HMk k1 k2 k1' hom
      go_wp2
      exact ⟨⟨i + 1, hlt, by simp, hO.trans k2'⟩, by simp [intOf]; omega⟩
    · clear HM
      go_wp2
      go_ret
      exact ⟨rfl, hO⟩
/-- The marked lists behind putInts are marked. -/
theorem PT.mkd {w : World} {bb : Nat} {cs : Array Value} {A : Option Addr} {c : Nat} {I : List (Value × List Value)} (h : PT w bb cs A c (pmT I.length I)) : MkdT w A c (I.map (fun p => (p.1, p.2.length))) := by
  have hcap := h.cap
  unfold maxLen at hcap
  rw [pmT_len] at hcap
  refine ⟨by rw [List.length_map]; exact hcap, by rw [List.length_map]; have := h.few; rwa [pmT_len] at this, fun i hi => ?_, fun i hi => ?_, fun i hi => ?_, fun i hi => ?_⟩
  all_goals
    have hi2 : i < I.length := by simpa using hi
    have hi3 : i < (pmT I.length I).length := by rw [pmT_len]; exact hi2
    have hg : (pmT I.length I)[i] = (I[i].1, strs (mkT i 0 I[i].2.length)) := by rw [pmT_get _ _ _ hi2 hi3, if_pos hi2]
    have hm : (I[i].1, strs (mkT i 0 I[i].2.length)) ∈ pmT I.length I := by rw [← hg]; exact List.getElem_mem hi3
    rw [List.getElem_map]
  · obtain ⟨vb, e, hl, _, hc⟩ := h.row i hi3
    rw [hg] at hc
    exact ⟨vb, e, hl, hc⟩
  · obtain ⟨A', c', e⟩ := h.k.lit _ hm
    simp only [show (strs (mkT i 0 I[i].2.length)).length = I[i].2.length by simp [strs, mkT_len]] at e
    exact ⟨A', c', e⟩
  · have := (Slc.of_own (h.k.own _ hm)).1
    simp only [show (strs (mkT i 0 I[i].2.length)).length = I[i].2.length by simp [strs, mkT_len]] at this
    exact this
  · obtain ⟨l, hl, hll⟩ := h.ci _ hm
    have : I[i].2.length = l.length := by
      have := congrArg List.length hl
      simpa [strs, mkT_len] using this
    simp only
    omega
end Go.Proofs.YthjgplgfcbhihaaGreat
/- The book: growing a list, plain part. -/
set_option linter.unusedVariables false
set_option linter.unusedSimpArgs false
namespace Go.Proofs.YthjgplgfcbhihaaGreat
open Go.RowKit Go Go.Sort Go.Lib
/-- A list on its way to be grown. -/
structure GrInT (w0 W : World) (i n : Nat) (Ap : Option Addr) (cp : Nat) (nt : Nat) (Al : Option Addr) (cl : Nat) : Prop where
  own : W.ownsRow 0 9 1 (.slice Al nt cl) nt (strs (mkT i 0 nt))
  le : n ≤ nt
  blk : ∀ b, (Value.slice Al nt cl).ownBlock = some b → (Value.slice Ap n cp).ownBlock = some b ∨ w0.heap.size ≤ b
  only : Only (Value.slice Ap n cp).ownBlock.toList w0 W
  old : Slc W 1 (.slice Ap n cp) n (strs (mkT i 0 n))
  zero : ∀ b off, Ap = some ⟨b, off, none⟩ → off = 0
theorem strs_take (i n m : Nat) (h : n ≤ m) : (strs (mkT i 0 m)).take n = strs (mkT i 0 n) := by
  obtain ⟨k, rfl⟩ : ∃ k, m = n + k := ⟨m - n, by omega⟩
  rw [← mkT_app]
  simp [strs, mkT_len]
theorem GrInT.step {w0 W w1 : World} {i n cp nt cl q cm : Nat} {Ap Al Am : Option Addr} (h : GrInT w0 W i n Ap cp nt Al cl) (k1 : Only [] W w1) (hm : w1.ownsRow W.heap.size 9 1 (.slice Am q cm) q (strs (mkT i nt q))) (hb : nt + q ≤ 2000000) :
    ∃ A' c' w2, (Builtin.append_ #[61, 61] 61 #[.slice Al nt cl, .slice Am q cm]).run Tryz.prog w1 = .ok (.slice A' (nt + q) c') w2 ∧ GrInT w0 w2 i n Ap cp (nt + q) A' c' := by
  have hl1 := own_only h.own k1 (by simp)
  have hms := (Slc.of_own hm).1
  obtain ⟨A', c', w2, hr, ho2, hO, hf⟩ := run_app (P := Tryz.prog) 61 61 0 9 (.string ⟨#[]⟩) 1 16 Tryz.underlying61 infoTx rfl (by decide) hl1 hms (strs_one _) (by omega) (by unfold maxLen; omega) (Nat.zero_le _)
  have hold := run_app_old (P := Tryz.prog) 61 61 0 9 (.string ⟨#[]⟩) 1 16 Tryz.underlying61 infoTx rfl (by decide) hl1 hms (strs_one _) (by omega) (by unfold maxLen; omega) (Nat.zero_le _) hr ho2
  have hcs : strs (mkT i 0 nt) ++ strs (mkT i nt q) = strs (mkT i 0 (nt + q)) := by
    rw [← mkT_app i 0 nt q, Nat.zero_add]
    simp [strs]
  rw [hcs] at ho2
  have hsz := h.only.size
  have hsz1 := k1.size
  refine ⟨A', c', w2, hr, ho2, by have := h.le; omega, fun b z => ?_, ?_, keep_old (h.old.only k1 (by simp)) h.zero hl1 (strs_take i n nt h.le) h.le hO hold, h.zero⟩
  · rcases hf b z with y | y
    · exact h.blk b y
    · exact .inr (by omega)
  · refine (h.only.trans k1.of_nil).step hO (fun b z => ?_)
    rcases h.blk b (by simpa using z) with y | y
    · exact .inl (by simp [y])
    · exact .inr y
end Go.Proofs.YthjgplgfcbhihaaGreat
/- The book: growInts. -/
set_option linter.unusedVariables false
set_option linter.unusedSimpArgs false
namespace Go.Proofs.YthjgplgfcbhihaaGreat
open Go.RowKit Go Go.Sort Go.Lib
/-- The lists that are grown so far. -/
structure GrOT (w W : World) (J : List (Value × Nat)) (i : Nat) (O : List (Value × Nat)) (Ao : Option Addr) (co : Nat) : Prop where
  olen : O.length = i
  out : W.ownsRow w.heap.size 61 1 (.slice Ao i co) i (O.map (·.1))
  two : ∀ k (h : k < O.length) (hk : k < J.length), O[k].2 = J[k].2 + 72
  lit : ∀ k (h : k < O.length), ∃ A' c', O[k].1 = .slice A' O[k].2 c'
  slc : ∀ k (h : k < O.length), Slc W 1 O[k].1 O[k].2 (strs (mkT k 0 O[k].2))
  typ : ∀ k (h : k < O.length) b, O[k].1.ownBlock = some b → ∃ cur, Blk W b 9 cur
  blk : ∀ k (h : k < O.length) (hk : k < J.length) b, O[k].1.ownBlock = some b → J[k].1.ownBlock = some b ∨ w.heap.size ≤ b
  old : ∀ k (hk : k < J.length), k < i → Slc W 1 J[k].1 J[k].2 (strs (mkT k 0 J[k].2))
  rest : ∀ k (hk : k < J.length), i ≤ k → W.ownsRow 0 9 1 J[k].1 J[k].2 (strs (mkT k 0 J[k].2))
/-- The lists, as they were when growing began. -/
structure GrJT (w : World) (J : List (Value × Nat)) : Prop where
  own : ∀ k (hk : k < J.length), w.ownsRow 0 9 1 J[k].1 J[k].2 (strs (mkT k 0 J[k].2))
  lit : ∀ k (hk : k < J.length), ∃ A' c', J[k].1 = .slice A' J[k].2 c'
  dis : ∀ k l (hk : k < J.length) (hl : l < J.length), k ≠ l → ∀ b, J[k].1.ownBlock = some b → J[l].1.ownBlock ≠ some b
  len : ∀ k (hk : k < J.length), J[k].2 ≤ 1000000
  few : J.length ≤ 250
theorem GrJT.start {w : World} {J : List (Value × Nat)} (h : GrJT w J) : GrOT w w J 0 [] none 0 :=
  ⟨rfl, World.ownsRow_nil _ _ _ _, fun k q => absurd q (Nat.not_lt_zero _), fun k q => absurd q (Nat.not_lt_zero _), fun k q => absurd q (Nat.not_lt_zero _), fun k q => absurd q (Nat.not_lt_zero _), fun k q => absurd q (Nat.not_lt_zero _), fun k hk q => absurd q (Nat.not_lt_zero _), fun k hk _ => h.own k hk⟩
/-- One more list is grown, and put behind the others. -/
theorem GrOT.next {w W W3 w5 : World} {J O : List (Value × Nat)} {i co cp cl c5 : Nat} {Ao Ap Al A5 : Option Addr} (hJ : GrJT w J) (h : GrOT w W J i O Ao co) (hi : i < J.length) (hp : J[i].1 = .slice Ap J[i].2 cp) (hW : w.heap.size ≤ W.heap.size) (hg : GrInT W W3 i J[i].2 Ap cp (J[i].2 + 72) Al cl)
    (hO5 : Only (Value.slice Ao i co).ownBlock.toList (W3.alloc (.cells #[.slice Al (J[i].2 + 72) cl] 61)) w5) (ho5 : w5.ownsRow w.heap.size 61 1 (.slice A5 (i + 1) c5) (i + 1) (O.map (·.1) ++ [.slice Al (J[i].2 + 72) cl])) :
    GrOT w w5 J (i + 1) (O ++ [(.slice Al (J[i].2 + 72) cl, J[i].2 + 72)]) A5 c5 := by
  have hout := World.ownsRow.lt h.out
  have hpl := World.ownsRow.lt (hJ.own i hi)
  have ko : Only (Value.slice Ao i co).ownBlock.toList W3 w5 := (((Only.refl [] W3).alloc _).of_nil).trans hO5
  have hpW : ∀ b, J[i].1.ownBlock = some b → b < w.heap.size := fun b q => (hpl b q).2
  -- what lies in numbers is not turned by the list of lists
  have hnt : ∀ b cur, Blk W3 b 9 cur → b ∉ (Value.slice Ao i co).ownBlock.toList := fun b cur hb q => by
    have q' : (Value.slice Ao i co).ownBlock = some b := by simpa using q
    obtain ⟨c1, h1⟩ := own_type h.out q'
    have hbp : b ∉ (Value.slice Ap J[i].2 cp).ownBlock.toList := fun z => by
      have h2 := (hout b q').1
      have h3 := hpW b (by rw [hp]; simpa using z)
      omega
    exact (hg.only.blk h1 hbp).other hb (by decide) rfl
  have hOl : (O ++ [(Value.slice Al (J[i].2 + 72) cl, J[i].2 + 72)]).length = i + 1 := by rw [List.length_append, h.olen]; rfl
  have hget : ∀ k (hk : k < (O ++ [(Value.slice Al (J[i].2 + 72) cl, J[i].2 + 72)]).length), (∃ hk2 : k < O.length, (O ++ [(Value.slice Al (J[i].2 + 72) cl, J[i].2 + 72)])[k] = O[k]) ∨ (k = i ∧ (O ++ [(Value.slice Al (J[i].2 + 72) cl, J[i].2 + 72)])[k] = (.slice Al (J[i].2 + 72) cl, J[i].2 + 72)) := fun k hk => by
    by_cases q : k < O.length
    · exact .inl ⟨q, List.getElem_append_left q⟩
    · right
      have hki : k = i := by
        have := h.olen
        rw [hOl] at hk
        omega
      refine ⟨hki, ?_⟩
      rw [List.getElem_append_right (by omega)]
      simp
  have hOp : ∀ k (hk : k < O.length) b, O[k].1.ownBlock = some b → b ∉ (Value.slice Ap J[i].2 cp).ownBlock.toList := fun k hk b q z => by
    have z' : J[i].1.ownBlock = some b := by rw [hp]; simpa using z
    have hki : k < i := by rw [h.olen] at hk; exact hk
    rcases h.blk k hk (by omega) b q with y | y
    · exact hJ.dis k i (by omega) hi (by omega) b y z'
    · have := hpW b z'
      omega
  have hJp : ∀ k (hk : k < J.length), k ≠ i → ∀ b, J[k].1.ownBlock = some b → b ∉ (Value.slice Ap J[i].2 cp).ownBlock.toList := fun k hk hki b q z => hJ.dis k i hk hi hki b q (by rw [hp]; simpa using z)
  have hJo : ∀ k (hk : k < J.length) b, J[k].1.ownBlock = some b → b ∉ (Value.slice Ao i co).ownBlock.toList := fun k hk b q z => by
    have h1 := (hout b (by simpa using z)).1
    have h2 := (World.ownsRow.lt (hJ.own k hk) b q).2
    omega
  have hlt3 := World.ownsRow.lt hg.own
  refine ⟨hOl, by rw [List.map_append]; exact ho5, fun k hk hkJ => ?_, fun k hk => ?_, fun k hk => ?_, fun k hk b q => ?_, fun k hk hkJ b q => ?_, fun k hk hki => ?_, fun k hk hki => ?_⟩
  · rcases hget k hk with ⟨hk2, e⟩ | ⟨e1, e⟩
    · rw [e]; exact h.two k hk2 hkJ
    · subst e1; rw [e]
  · rcases hget k hk with ⟨hk2, e⟩ | ⟨e1, e⟩
    · rw [e]; exact h.lit k hk2
    · rw [e]; exact ⟨Al, cl, rfl⟩
  · rcases hget k hk with ⟨hk2, e⟩ | ⟨e1, e⟩
    · rw [e]
      refine ((h.slc k hk2).only hg.only (fun b q => hOp k hk2 b q)).only ko (fun b q => ?_)
      obtain ⟨cur, hb⟩ := h.typ k hk2 b q
      exact hnt b cur (hg.only.blk hb (hOp k hk2 b q))
    · rw [e]
      subst e1
      refine (Slc.of_own hg.own).1.only ko (fun b q => ?_)
      obtain ⟨cur, hb⟩ := own_type hg.own q
      exact hnt b cur hb
  · rcases hget k hk with ⟨hk2, e⟩ | ⟨e1, e⟩
    · rw [e] at q
      obtain ⟨cur, hb⟩ := h.typ k hk2 b q
      have hb3 := hg.only.blk hb (hOp k hk2 b q)
      exact ⟨cur, ko.blk hb3 (hnt b cur hb3)⟩
    · rw [e] at q
      obtain ⟨cur, hb⟩ := own_type hg.own q
      exact ⟨cur, ko.blk hb (hnt b cur hb)⟩
  · rcases hget k hk with ⟨hk2, e⟩ | ⟨e1, e⟩
    · rw [e] at q; exact h.blk k hk2 hkJ b q
    · rw [e] at q
      subst e1
      rcases hg.blk b q with y | y
      · exact .inl (by rw [hp]; exact y)
      · exact .inr (by omega)
  · by_cases e : k = i
    · subst e
      have ho := hg.old
      rw [← hp] at ho
      exact ho.only ko (fun b q => hJo k hk b q)
    · exact ((h.old k hk (by omega)).only hg.only (fun b q => hJp k hk e b q)).only ko (fun b q => hJo k hk b q)
  · have hne : k ≠ i := by omega
    exact own_only (own_only (h.rest k hk (by omega)) hg.only (fun b q => hJp k hk hne b q)) ko (fun b q => hJo k hk b q)
end Go.Proofs.YthjgplgfcbhihaaGreat
/- The book: growInts, the walk. -/
set_option linter.unusedVariables false
set_option linter.unusedSimpArgs false
namespace Go.Proofs.YthjgplgfcbhihaaGreat
open Go.RowKit Go Go.Sort Go.Lib
set_option maxRecDepth 100000 in
set_option maxHeartbeats 400000 in
theorem growT_any {w : World} {bb : Nat} {cs : Array Value} {A : Option Addr} {c : Nat} {J : List (Value × Nat)} (hblk : Blk w bb 42 cs) (hat : cs[0]? = some (.slice A J.length c)) (hcap : J.length ≤ c ∧ c ≤ 2 ^ 63 - 1)
    (hri : w.ownsRow 0 61 1 (.slice A J.length c) J.length (J.map (·.1))) (hJ : GrJT w J) :
    Calls Tryz.prog 65 #[.pointer (some ⟨bb, 0, none⟩)] w fun e w' => ∃ Ao co, e = .returned (.slice Ao J.length co) ∧ (∃ O, GrOT w w' J J.length O Ao co) ∧ Only (blocksJ J) w w' := by
  have hfew := hJ.few
  obtain ⟨hc1, hc2⟩ := hcap
  have g2 : w.cell? ⟨bb, 0, none⟩ = some (.slice A J.length c) := by rw [hblk.cell 0]; exact hat
  have hSJ : ∀ b ∈ blocksJ J, (∃ cur, Blk w b 9 cur) ∧ b < w.heap.size := fun b q => by
    obtain ⟨p, hp, e⟩ := mem_blocksJ.1 q
    obtain ⟨k, hk, rfl⟩ := List.getElem_of_mem hp
    exact ⟨own_type (hJ.own k hk) e, (World.ownsRow.lt (hJ.own k hk) b e).2⟩
  have hbn : bb ∉ blocksJ J := fun q => by
    obtain ⟨cur, hc⟩ := (hSJ bb q).1
    exact hc.other hblk (by decide) rfl
  have hbl := hblk.lt
  have HJ := Lib.hid hJ
  have HRi := Lib.hid hri
  clear hat hJ hri
  go_enter Tryz.func65, Tryz.ntmps65
  go_wp2
  go_loopw [3, 4] (fun ov iv wr => ∃ (i : Nat) (Ao : Option Addr) (co : Nat), i ≤ J.length ∧ ov = .slice Ao i co ∧ iv = .int .i64 i ∧ Hid (∃ O, GrOT w wr J i O Ao co) ∧ Only (blocksJ J) w wr) (fun _ iv _ => J.length - (intOf iv).toNat)
  case atStart => exact ⟨0, none, 0, Nat.zero_le _, rfl, rfl, ⟨[], HJ.out.start⟩, Only.refl _ _⟩
  case round =>
    obtain ⟨i, Ao, co, hi, rfl, rfl, hG, hO⟩ := hrel
    have k2 : wr.cell? ⟨bb, 0, none⟩ = some (.slice A J.length c) := (hO.cell hbl hbn).trans g2
    have hsz := hO.size
    by_cases hlt : i < J.length
    · obtain ⟨vb, rfl, hvb, hvc⟩ := row_at HRi.out i hlt
      have hvn : vb ∉ blocksJ J := fun q => by
        obtain ⟨cur, hc⟩ := (hSJ vb q).1
        obtain ⟨c2, h2⟩ := own_type (g := vb) HRi.out rfl
        exact hc.other h2 (by decide) rfl
      rw [List.getElem?_map, List.getElem?_eq_getElem hlt] at hvc
      obtain ⟨Ap, cp, hp⟩ := HJ.out.lit i hlt
      have hpl := HJ.out.len i hlt
      have hown := HJ.out.own i hlt
      have hrest : ∃ O, GrOT w wr J i O Ao co := hG.out
      have hro : wr.ownsRow 0 9 1 J[i].1 J[i].2 (strs (mkT i 0 J[i].2)) := by
        obtain ⟨O, hOx⟩ := hrest
        exact hOx.rest i hlt (Nat.le_refl _)
      have hvc' : wr.cell? ⟨vb, i, none⟩ = some (.slice Ap J[i].2 cp) := by
        rw [hO.cell (by exact hvb) hvn, hvc, ← hp]
        rfl
      obtain ⟨n, hn⟩ : ∃ n, n = J[i].2 := ⟨_, rfl⟩
      rw [← hn] at hpl hvc'
      rw [hp, ← hn] at hro
      have hzero : ∀ b off, Ap = some ⟨b, off, none⟩ → off = 0 := fun b off e => by
        rcases hro.2 with ⟨e2, _⟩ | ⟨g, cap, cur, e2, _⟩
        · injection e2 with q1 _ _
          rw [e] at q1
          cases q1
        · injection e2 with q1 _ _
          rw [e] at q1
          injection q1 with q1
          injection q1 with _ q2
      have hst : GrInT wr wr i n Ap cp n Ap cp := ⟨hro, Nat.le_refl _, fun b q => .inl q, Only.refl _ _, (Slc.of_own hro).1, hzero⟩
      have hpS : ∀ b, (Value.slice Ap n cp).ownBlock = some b → b ∈ blocksJ J := fun b q => mem_blocksJ.2 ⟨J[i], List.getElem_mem hlt, by rw [hp, ← hn]; exact q⟩
      have HNx := Lib.hid (fun (W3 w5 : World) (Al A5 : Option Addr) (cl c5 : Nat) (O : List (Value × Nat)) (hOx : GrOT w wr J i O Ao co) (hg : GrInT wr W3 i n Ap cp (n + 72) Al cl)
        (hO5 : Only (Value.slice Ao i co).ownBlock.toList (W3.alloc (.cells #[.slice Al (n + 72) cl] 61)) w5) (ho5 : w5.ownsRow w.heap.size 61 1 (.slice A5 (i + 1) c5) (i + 1) (O.map (·.1) ++ [.slice Al (n + 72) cl])) =>
        (show GrOT w w5 J (i + 1) (O ++ [(.slice Al (n + 72) cl, n + 72)]) A5 c5 from by
          subst hn
          exact GrOT.next HJ.out hOx hlt hp hsz hg hO5 ho5))
      have HG := Lib.hid hG
      have HVc := Lib.hid hvc
      have HSt := Lib.hid hst
      clear hvc hp hown hrest hro hn hst hG HVc hzero
      go_wp2_with fail
      go_loopw [5, 6] (fun lv tv W => ∃ (t nt : Nat) (Al : Option Addr) (cl : Nat), t ≤ 12 ∧ Hid (nt = n + t) ∧ lv = .slice Al nt cl ∧ tv = .int .i64 t ∧ GrInT wr W i n Ap cp nt Al cl) (fun _ tv _ => 12 - (intOf tv).toNat)
      case atStart => exact ⟨0, n, Ap, cp, by omega, rfl, rfl, rfl, HSt.out⟩
      case round =>
        obtain ⟨t, nt, Al, cl, ht, hnt, rfl, rfl, hg⟩ := hrel
        by_cases h12 : t < 12
        · have hb : nt ≤ 1100000 := by have := hnt.out; omega
          have h12' : (t : Int) < 12 := by omega
          have HM := Lib.hid (show Calls Tryz.prog 97 #[.int .i64 i, .int .i64 nt, .int .i64 1] wr fun e w' => ∃ A c, e = .returned (.slice A 1 c) ∧ w'.ownsRow wr.heap.size 9 1 (.slice A 1 c) 1 (strs (mkT i nt 1)) ∧ Only [] wr w' from markT_any wr i nt 1 (by omega) (by omega))
          have HGi := Lib.hid hg
          clear hg HNx HG HSt HRi HJ
          go_wp2_with fail
          refine HM.out.mono ?_
          rintro e w1 ⟨Am, cm, rfl, hom, k1⟩
          obtain ⟨A', c', w2, hr, hg2⟩ := HGi.out.step k1 hom (by omega)
          have HR := Lib.hid hr
          clear hr hom k1 HM
          go_wp2_with (at_builtin; refine Lib.wpList_append_run _ rfl (.tmp 27) (.tmp 31) 61 61 rfl _ _ rfl rfl _ _ HR.out ?_)
          exact ⟨⟨t + 1, nt + 1, A', c', by omega, (by have := hnt.out; show nt + 1 = n + (t + 1); omega), rfl, by simp, hg2⟩, by simp [intOf]; omega⟩
        · have ht12 : t = 12 := by omega
          have hne : nt = n + 12 := by have := hnt.out; omega
          subst hne
          subst ht12
          have HM := Lib.hid (show Calls Tryz.prog 97 #[.int .i64 i, .int .i64 ((n + 12 : Nat) : Int), .int .i64 60] wr fun e w' => ∃ A c, e = .returned (.slice A 60 c) ∧ w'.ownsRow wr.heap.size 9 1 (.slice A 60 c) 60 (strs (mkT i (n + 12) 60)) ∧ Only [] wr w' from markT_any wr i (n + 12) 60 (by omega) (by omega))
          have HGi := Lib.hid hg
          clear hg h12 hnt HSt
          go_wp2_with fail
          refine HM.out.mono ?_
          rintro e w1 ⟨Am, cm, rfl, hom, k1⟩
          obtain ⟨A', c', w2, hr, hg2⟩ := HGi.out.step k1 hom (by omega)
          rw [show n + 12 + 60 = n + 72 by omega] at hr hg2
          obtain ⟨O, hOx⟩ := HG.out.out
          have hout2 : w2.ownsRow w.heap.size 61 1 (.slice Ao i co) i (O.map (·.1)) := own_only hOx.out hg2.only (fun b q z => by
            have h1 := (World.ownsRow.lt hOx.out b q).1
            have h2 := (hSJ b (hpS b (by simpa using z))).2
            omega)
          have hz2 : w.heap.size ≤ w2.heap.size := Nat.le_trans hsz hg2.only.size
          obtain ⟨A5, c5, w5, hr5, ho5, hO5, _⟩ := run_app (P := Tryz.prog) (w := w2.alloc (.cells #[.slice A' (n + 72) c'] 61)) 35 35 w.heap.size 61 (.slice none 0 0) 1 24 Tryz.underlying35 infoSs rfl (by decide) (hout2.alloc _) (slc_new1 (w := w2) (e := 61) (cs := [.slice A' (n + 72) c']) rfl) (by simp [Value.oneCell']) (by omega) (by unfold maxLen; omega) (Nat.le_trans hz2 (by simp))
          have hN := HNx.out w2 w5 A' A5 c' c5 O hOx hg2 hO5 ho5
          have hOnly : Only (blocksJ J) w w5 := by
            refine ((hO.trans (hg2.only.mono (fun b q => hpS b (by simpa using q)))).alloc (.cells #[.slice A' (n + 72) c'] 61)).step hO5 (fun b q => .inr ?_)
            exact (World.ownsRow.lt hOx.out b (by simpa using q)).1
          have HR := Lib.hid hr
          have HR5 := Lib.hid hr5
          have HN := Lib.hid hN
          have HO := Lib.hid hOnly
          clear hr hr5 hN hOnly hom k1 HM hg2 hOx hout2 hO5 ho5 HNx HG HGi
          go_wp2_with (at_builtin; first
            | refine Lib.wpList_append_run _ rfl (.tmp 34) (.tmp 38) 61 61 rfl _ _ rfl rfl _ _ HR.out ?_
            | refine Lib.wpList_append_run _ rfl (.tmp 33) (.tmp 40) 35 35 rfl _ _ rfl rfl _ _ HR5.out ?_)
          exact ⟨⟨i + 1, A5, c5, hlt, rfl, by simp, ⟨_, HN.out⟩, HO.out⟩, by simp [intOf]; omega⟩
    · have hin : i = J.length := by omega
      subst hin
      have HF := Lib.hid (And.intro hG hO)
      clear hG hO hlt hi HRi HJ
      go_wp2
      go_ret
      exact ⟨_, _, rfl, HF.out.1.out, HF.out.2⟩
end Go.Proofs.YthjgplgfcbhihaaGreat
/- The book's kinds of which there is no list. -/
set_option linter.unusedVariables false
set_option linter.unusedSimpArgs false
namespace Go.Proofs.YthjgplgfcbhihaaGreat
open Go.RowKit Go Go.Sort Go.Lib
set_option maxRecDepth 100000 in
theorem stillStored_none {w : World} {bb : Nat} (hb : bb < w.heap.size) (h : w.cell? ⟨bb, 4, none⟩ = some (.slice none 0 0)) :
    Calls Tryz.prog 55 #[.pointer (some ⟨bb, 0, none⟩)] w fun e w' => e = .returned (.bool true) ∧ Only [] w w' := by
  go_enter Tryz.func55, Tryz.ntmps55
  go_wp2
  go_loopw [3] (fun iv wr => iv = .int .i64 0 ∧ Only [] w wr) (fun iv _ => 0)
  case atStart => exact ⟨rfl, Only.refl _ _⟩
  case round =>
    obtain ⟨rfl, hO⟩ := hrel
    have h2 : wr.cell? ⟨bb, 4, none⟩ = some (.slice none 0 0) := (hO.cell hb (by simp)).trans h
    go_wp2
    go_ret
    exact ⟨rfl, hO⟩
set_option maxRecDepth 100000 in
theorem putStored_none {w : World} {bb : Nat} (hb : bb < w.heap.size) (h : w.cell? ⟨bb, 4, none⟩ = some (.slice none 0 0)) :
    Calls Tryz.prog 62 #[.pointer (some ⟨bb, 0, none⟩)] w fun e w' => e = .returned (.tuple #[]) ∧ Only [] w w' := by
  go_enter Tryz.func62, Tryz.ntmps62
  go_wp2
  go_loopw [2] (fun iv wr => iv = .int .i64 0 ∧ Only [] w wr) (fun iv _ => 0)
  case atStart => exact ⟨rfl, Only.refl _ _⟩
  case round =>
    obtain ⟨rfl, hO⟩ := hrel
    have h2 : wr.cell? ⟨bb, 4, none⟩ = some (.slice none 0 0) := (hO.cell hb (by simp)).trans h
    go_wp2
    go_end0
    exact ⟨rfl, hO⟩
set_option maxRecDepth 100000 in
theorem growStored_none {w : World} {bb : Nat} (hb : bb < w.heap.size) (h : w.cell? ⟨bb, 4, none⟩ = some (.slice none 0 0)) :
    Calls Tryz.prog 67 #[.pointer (some ⟨bb, 0, none⟩)] w fun e w' => e = .returned (.slice none 0 0) ∧ Only [] w w' := by
  go_enter Tryz.func67, Tryz.ntmps67
  go_wp2
  go_loopw [3, 4] (fun ov iv wr => ov = .slice none 0 0 ∧ iv = .int .i64 0 ∧ Only [] w wr) (fun _ _ _ => 0)
  case atStart => exact ⟨rfl, rfl, Only.refl _ _⟩
  case round =>
    obtain ⟨rfl, rfl, hO⟩ := hrel
    have h2 : wr.cell? ⟨bb, 4, none⟩ = some (.slice none 0 0) := (hO.cell hb (by simp)).trans h
    go_wp2
    go_ret
    exact ⟨rfl, hO⟩
set_option maxRecDepth 100000 in
theorem markedStored_none (w : World) :
    Calls Tryz.prog 73 #[.slice none 0 0] w fun e w' => e = .returned (.bool true) ∧ Only [] w w' := by
  go_enter Tryz.func73, Tryz.ntmps73
  go_wp2
  go_loopw [3] (fun iv wr => iv = .int .i64 0 ∧ Only [] w wr) (fun iv _ => 0)
  case atStart => exact ⟨rfl, Only.refl _ _⟩
  case round =>
    obtain ⟨rfl, hO⟩ := hrel
    go_wp2
    go_ret
    exact ⟨rfl, hO⟩
set_option maxRecDepth 100000 in
theorem stillEntries_none {w : World} {bb : Nat} (hb : bb < w.heap.size) (h : w.cell? ⟨bb, 6, none⟩ = some (.slice none 0 0)) :
    Calls Tryz.prog 56 #[.pointer (some ⟨bb, 0, none⟩)] w fun e w' => e = .returned (.bool true) ∧ Only [] w w' := by
  go_enter Tryz.func56, Tryz.ntmps56
  go_wp2
  go_loopw [3] (fun iv wr => iv = .int .i64 0 ∧ Only [] w wr) (fun iv _ => 0)
  case atStart => exact ⟨rfl, Only.refl _ _⟩
  case round =>
    obtain ⟨rfl, hO⟩ := hrel
    have h2 : wr.cell? ⟨bb, 6, none⟩ = some (.slice none 0 0) := (hO.cell hb (by simp)).trans h
    go_wp2
    go_ret
    exact ⟨rfl, hO⟩
set_option maxRecDepth 100000 in
theorem putEntries_none {w : World} {bb : Nat} (hb : bb < w.heap.size) (h : w.cell? ⟨bb, 6, none⟩ = some (.slice none 0 0)) :
    Calls Tryz.prog 63 #[.pointer (some ⟨bb, 0, none⟩)] w fun e w' => e = .returned (.tuple #[]) ∧ Only [] w w' := by
  go_enter Tryz.func63, Tryz.ntmps63
  go_wp2
  go_loopw [2] (fun iv wr => iv = .int .i64 0 ∧ Only [] w wr) (fun iv _ => 0)
  case atStart => exact ⟨rfl, Only.refl _ _⟩
  case round =>
    obtain ⟨rfl, hO⟩ := hrel
    have h2 : wr.cell? ⟨bb, 6, none⟩ = some (.slice none 0 0) := (hO.cell hb (by simp)).trans h
    go_wp2
    go_end0
    exact ⟨rfl, hO⟩
set_option maxRecDepth 100000 in
theorem growEntries_none {w : World} {bb : Nat} (hb : bb < w.heap.size) (h : w.cell? ⟨bb, 6, none⟩ = some (.slice none 0 0)) :
    Calls Tryz.prog 68 #[.pointer (some ⟨bb, 0, none⟩)] w fun e w' => e = .returned (.slice none 0 0) ∧ Only [] w w' := by
  go_enter Tryz.func68, Tryz.ntmps68
  go_wp2
  go_loopw [3, 4] (fun ov iv wr => ov = .slice none 0 0 ∧ iv = .int .i64 0 ∧ Only [] w wr) (fun _ _ _ => 0)
  case atStart => exact ⟨rfl, rfl, Only.refl _ _⟩
  case round =>
    obtain ⟨rfl, rfl, hO⟩ := hrel
    have h2 : wr.cell? ⟨bb, 6, none⟩ = some (.slice none 0 0) := (hO.cell hb (by simp)).trans h
    go_wp2
    go_ret
    exact ⟨rfl, hO⟩
set_option maxRecDepth 100000 in
theorem markedEntries_none (w : World) :
    Calls Tryz.prog 74 #[.slice none 0 0] w fun e w' => e = .returned (.bool true) ∧ Only [] w w' := by
  go_enter Tryz.func74, Tryz.ntmps74
  go_wp2
  go_loopw [3] (fun iv wr => iv = .int .i64 0 ∧ Only [] w wr) (fun iv _ => 0)
  case atStart => exact ⟨rfl, Only.refl _ _⟩
  case round =>
    obtain ⟨rfl, hO⟩ := hrel
    go_wp2
    go_ret
    exact ⟨rfl, hO⟩
set_option maxRecDepth 100000 in
theorem stillPackets_none {w : World} {bb : Nat} (hb : bb < w.heap.size) (h : w.cell? ⟨bb, 8, none⟩ = some (.slice none 0 0)) :
    Calls Tryz.prog 57 #[.pointer (some ⟨bb, 0, none⟩)] w fun e w' => e = .returned (.bool true) ∧ Only [] w w' := by
  go_enter Tryz.func57, Tryz.ntmps57
  go_wp2
  go_loopw [3] (fun iv wr => iv = .int .i64 0 ∧ Only [] w wr) (fun iv _ => 0)
  case atStart => exact ⟨rfl, Only.refl _ _⟩
  case round =>
    obtain ⟨rfl, hO⟩ := hrel
    have h2 : wr.cell? ⟨bb, 8, none⟩ = some (.slice none 0 0) := (hO.cell hb (by simp)).trans h
    go_wp2
    go_ret
    exact ⟨rfl, hO⟩
set_option maxRecDepth 100000 in
theorem putPackets_none {w : World} {bb : Nat} (hb : bb < w.heap.size) (h : w.cell? ⟨bb, 8, none⟩ = some (.slice none 0 0)) :
    Calls Tryz.prog 64 #[.pointer (some ⟨bb, 0, none⟩)] w fun e w' => e = .returned (.tuple #[]) ∧ Only [] w w' := by
  go_enter Tryz.func64, Tryz.ntmps64
  go_wp2
  go_loopw [2] (fun iv wr => iv = .int .i64 0 ∧ Only [] w wr) (fun iv _ => 0)
  case atStart => exact ⟨rfl, Only.refl _ _⟩
  case round =>
    obtain ⟨rfl, hO⟩ := hrel
    have h2 : wr.cell? ⟨bb, 8, none⟩ = some (.slice none 0 0) := (hO.cell hb (by simp)).trans h
    go_wp2
    go_end0
    exact ⟨rfl, hO⟩
set_option maxRecDepth 100000 in
theorem growPackets_none {w : World} {bb : Nat} (hb : bb < w.heap.size) (h : w.cell? ⟨bb, 8, none⟩ = some (.slice none 0 0)) :
    Calls Tryz.prog 69 #[.pointer (some ⟨bb, 0, none⟩)] w fun e w' => e = .returned (.slice none 0 0) ∧ Only [] w w' := by
  go_enter Tryz.func69, Tryz.ntmps69
  go_wp2
  go_loopw [3, 4] (fun ov iv wr => ov = .slice none 0 0 ∧ iv = .int .i64 0 ∧ Only [] w wr) (fun _ _ _ => 0)
  case atStart => exact ⟨rfl, rfl, Only.refl _ _⟩
  case round =>
    obtain ⟨rfl, rfl, hO⟩ := hrel
    have h2 : wr.cell? ⟨bb, 8, none⟩ = some (.slice none 0 0) := (hO.cell hb (by simp)).trans h
    go_wp2
    go_ret
    exact ⟨rfl, hO⟩
set_option maxRecDepth 100000 in
theorem markedPackets_none (w : World) :
    Calls Tryz.prog 75 #[.slice none 0 0] w fun e w' => e = .returned (.bool true) ∧ Only [] w w' := by
  go_enter Tryz.func75, Tryz.ntmps75
  go_wp2
  go_loopw [3] (fun iv wr => iv = .int .i64 0 ∧ Only [] w wr) (fun iv _ => 0)
  case atStart => exact ⟨rfl, Only.refl _ _⟩
  case round =>
    obtain ⟨rfl, hO⟩ := hrel
    go_wp2
    go_ret
    exact ⟨rfl, hO⟩
set_option maxRecDepth 100000 in
theorem stillSteps_none {w : World} {bb : Nat} (hb : bb < w.heap.size) (h : w.cell? ⟨bb, 10, none⟩ = some (.slice none 0 0)) :
    Calls Tryz.prog 58 #[.pointer (some ⟨bb, 0, none⟩)] w fun e w' => e = .returned (.bool true) ∧ Only [] w w' := by
  go_enter Tryz.func58, Tryz.ntmps58
  go_wp2
  go_loopw [3] (fun iv wr => iv = .int .i64 0 ∧ Only [] w wr) (fun iv _ => 0)
  case atStart => exact ⟨rfl, Only.refl _ _⟩
  case round =>
    obtain ⟨rfl, hO⟩ := hrel
    have h2 : wr.cell? ⟨bb, 10, none⟩ = some (.slice none 0 0) := (hO.cell hb (by simp)).trans h
    go_wp2
    go_ret
    exact ⟨rfl, hO⟩
set_option maxRecDepth 100000 in
theorem putSteps_none {w : World} {bb : Nat} (hb : bb < w.heap.size) (h : w.cell? ⟨bb, 10, none⟩ = some (.slice none 0 0)) :
    Calls Tryz.prog 59 #[.pointer (some ⟨bb, 0, none⟩)] w fun e w' => e = .returned (.tuple #[]) ∧ Only [] w w' := by
  go_enter Tryz.func59, Tryz.ntmps59
  go_wp2
  go_loopw [2] (fun iv wr => iv = .int .i64 0 ∧ Only [] w wr) (fun iv _ => 0)
  case atStart => exact ⟨rfl, Only.refl _ _⟩
  case round =>
    obtain ⟨rfl, hO⟩ := hrel
    have h2 : wr.cell? ⟨bb, 10, none⟩ = some (.slice none 0 0) := (hO.cell hb (by simp)).trans h
    go_wp2
    go_end0
    exact ⟨rfl, hO⟩
set_option maxRecDepth 100000 in
theorem growSteps_none {w : World} {bb : Nat} (hb : bb < w.heap.size) (h : w.cell? ⟨bb, 10, none⟩ = some (.slice none 0 0)) :
    Calls Tryz.prog 70 #[.pointer (some ⟨bb, 0, none⟩)] w fun e w' => e = .returned (.slice none 0 0) ∧ Only [] w w' := by
  go_enter Tryz.func70, Tryz.ntmps70
  go_wp2
  go_loopw [3, 4] (fun ov iv wr => ov = .slice none 0 0 ∧ iv = .int .i64 0 ∧ Only [] w wr) (fun _ _ _ => 0)
  case atStart => exact ⟨rfl, rfl, Only.refl _ _⟩
  case round =>
    obtain ⟨rfl, rfl, hO⟩ := hrel
    have h2 : wr.cell? ⟨bb, 10, none⟩ = some (.slice none 0 0) := (hO.cell hb (by simp)).trans h
    go_wp2
    go_ret
    exact ⟨rfl, hO⟩
set_option maxRecDepth 100000 in
theorem markedSteps_none (w : World) :
    Calls Tryz.prog 76 #[.slice none 0 0] w fun e w' => e = .returned (.bool true) ∧ Only [] w w' := by
  go_enter Tryz.func76, Tryz.ntmps76
  go_wp2
  go_loopw [3] (fun iv wr => iv = .int .i64 0 ∧ Only [] w wr) (fun iv _ => 0)
  case atStart => exact ⟨rfl, Only.refl _ _⟩
  case round =>
    obtain ⟨rfl, hO⟩ := hrel
    go_wp2
    go_ret
    exact ⟨rfl, hO⟩
end Go.Proofs.YthjgplgfcbhihaaGreat
/- The book, apart: from one part to the next. -/
set_option linter.unusedVariables false
set_option linter.unusedSimpArgs false
namespace Go.Proofs.YthjgplgfcbhihaaGreat
open Go.RowKit Go Go.Sort Go.Lib
theorem blocksJ_of (I : List (Value × List Value)) : blocksJ (I.map (fun p => (p.1, p.2.length))) = blocksV I := by
  simp [blocksJ, blocksV, List.flatMap_map]
theorem blocksV_fst {I J : List (Value × List Value)} (h : I.map (·.1) = J.map (·.1)) : blocksV I = blocksV J := by
  have e : ∀ L : List (Value × List Value), blocksV L = (L.map (·.1)).flatMap (fun v => v.ownBlock.toList) := fun L => by simp [blocksV, List.flatMap_map]
  rw [e, e, h]
theorem pw_of_nodup : ∀ (I : List (Value × List Value)), (blocksV I).Nodup → I.Pairwise (fun p q => ∀ b, p.1.ownBlock = some b → q.1.ownBlock ≠ some b)
  | [], _ => .nil
  | p :: L, hn => by
    have hn' : (p.1.ownBlock.toList ++ blocksV L).Nodup := hn
    refine .cons (fun r hr b e1 e2 => ?_) (pw_of_nodup L (List.nodup_append.1 hn').2.1)
    exact (List.nodup_append.1 hn').2.2 b (by simp [e1]) b (mem_blocksV.2 ⟨r, hr, e2⟩) rfl
section
variable {w w' : World} {bb : Nat} {cs : Array Value} {A : Option Addr} {c : Nat} {I : List (Value × List Value)} {S : List Nat}
theorem PI.typ (h : PI w bb cs A c I) : ∀ b ∈ blocksV I, ∃ cur, Blk w b 3 cur := fun b hb => by
  obtain ⟨p, hp, q⟩ := mem_blocksV.1 hb
  exact own_type (h.k.own p hp) q
theorem PI.keepO (h : PI w bb cs A c I) (k : Only S w w') {e : TypeId} (h1 : e ≠ 42) (h2 : e ≠ 43) (h3 : e ≠ 3) (hS : ∀ b ∈ S, ∃ cur, Blk w b e cur) : PI w' bb cs A c I := by
  refine ⟨k.blk h.blk (fun q => ?_), h.at2, h.cap, own_only h.ri k (fun b q z => ?_), h.k.only k (fun b q z => ?_), h.ci, h.few⟩
  · obtain ⟨cur, hc⟩ := hS bb q
    exact hc.other h.blk h1 rfl
  · obtain ⟨cur, hc⟩ := hS b z
    obtain ⟨c2, hc2⟩ := own_type h.ri q
    exact hc.other hc2 h2 rfl
  · obtain ⟨cur, hc⟩ := hS b z
    obtain ⟨c2, hc2⟩ := h.typ b q
    exact hc.other hc2 h3 rfl
theorem PI.keep0 (h : PI w bb cs A c I) (k : Only [] w w') : PI w' bb cs A c I := h.keepO k (e := 4) (by decide) (by decide) (by decide) (by simp)
theorem PI.gr (h : PI w bb cs A c (pmI I.length I)) : GrJ w (I.map (fun p => (p.1, p.2.length))) := by
  have key : ∀ i (hi : i < I.length), (I[i].1, ints (mkF i 0 I[i].2.length)) ∈ pmI I.length I := fun i hi => by
    have hi3 : i < (pmI I.length I).length := by rw [pmI_len]; exact hi
    have hg : (pmI I.length I)[i] = (I[i].1, ints (mkF i 0 I[i].2.length)) := by rw [pmI_get _ _ _ hi hi3, if_pos hi]
    rw [← hg]
    exact List.getElem_mem hi3
  have hlen : ∀ i n, (ints (mkF i 0 n)).length = n := fun i n => by simp [ints, mkF_len]
  have hn := h.k.nod
  have hlm : (I.map (fun p => (p.1, p.2.length))).length = I.length := List.length_map ..
  refine ⟨fun i hi => ?_, fun i hi => ?_, fun i j hi hj hij b q z => ?_, fun i hi => ?_, by rw [hlm]; have := h.few; rwa [pmI_len] at this⟩
  · rw [hlm] at hi
    rw [List.getElem_map]
    have := h.k.own _ (key i hi)
    simp only [hlen] at this
    exact this
  · rw [hlm] at hi
    rw [List.getElem_map]
    obtain ⟨A', c', e⟩ := h.k.lit _ (key i hi)
    simp only [hlen] at e
    exact ⟨A', c', e⟩
  · rw [hlm] at hi hj
    rw [List.getElem_map] at q z
    have hbI : blocksV (pmI I.length I) = blocksV I := blocksV_fst (pmI_fst _ _)
    rw [hbI] at hn
    have hpw := pw_of_nodup I hn
    rcases Nat.lt_or_gt_of_ne hij with y | y
    · exact List.pairwise_iff_getElem.1 hpw i j hi hj y b q z
    · exact List.pairwise_iff_getElem.1 hpw j i hj hi y b z q
  · rw [hlm] at hi
    rw [List.getElem_map]
    obtain ⟨l, hl, hll⟩ := h.ci _ (key i hi)
    have : I[i].2.length = l.length := by
      have := congrArg List.length hl
      simpa [ints, mkF_len] using this
    simp only
    omega
theorem Mkd.keepN {L : List (Value × Nat)} (h : Mkd w A c L) (k : Only S w w') (hA : ∀ b off, A = some ⟨b, off, none⟩ → b ∉ S) (hL : ∀ i (hi : i < L.length), ∀ b, L[i].1.ownBlock = some b → b ∉ S) : Mkd w' A c L :=
  ⟨h.cap, h.few, fun i hi => by
    obtain ⟨vb, e1, hl, hc⟩ := h.row i hi
    exact ⟨vb, e1, Nat.lt_of_lt_of_le hl k.size, (k.cell hl (hA vb 0 e1)).trans hc⟩, h.lit, fun i hi => (h.slc i hi).only k (fun b q => hL i hi b q), h.len⟩
theorem rowTypPI {n : Nat} {xs : List Value} {base : Nat} (h : w.ownsRow base 43 1 (.slice A n c) n xs) : ∀ b off, A = some ⟨b, off, none⟩ → ∃ cur, Blk w b 43 cur := fun b off e => by
  subst e
  exact own_type h rfl
/-- What was grown is marked. -/
theorem GrO.mkd {J O : List (Value × Nat)} {Ao : Option Addr} {co : Nat} (hJ : GrJ w J) (h : GrO w w' J J.length O Ao co) : Mkd w' Ao co O := by
  obtain ⟨A', c', e, h1, h2⟩ := own_form h.out
  injection e with e1 e2 e3
  subst e1 e3
  unfold maxLen at h2
  have hol := h.olen
  refine ⟨by rw [hol]; exact ⟨h1, h2⟩, by rw [hol]; exact hJ.few, fun i hi => ?_, h.lit, h.slc, fun i hi => ?_⟩
  · obtain ⟨vb, e, hl, hc⟩ := row_at h.out i (by omega)
    refine ⟨vb, e, hl, ?_⟩
    rw [hc, List.getElem?_map, List.getElem?_eq_getElem hi]
    rfl
  · have := h.two i hi (by omega)
    have := hJ.len i (by omega)
    omega
/-- What it was grown from is marked still. -/
theorem GrO.mkdJ {J O : List (Value × Nat)} {Ao : Option Addr} {co : Nat} (hJ : GrJ w J) (h : GrO w w' J J.length O Ao co) (hc : J.length ≤ c ∧ c ≤ 2 ^ 63 - 1) (hr : w'.ownsRow 0 43 1 (.slice A J.length c) J.length (J.map (·.1))) : Mkd w' A c J := by
  refine ⟨hc, hJ.few, fun i hi => ?_, hJ.lit, fun i hi => h.old i hi hi, fun i hi => by have := hJ.len i hi; omega⟩
  obtain ⟨vb, e, hl, hc⟩ := row_at hr i hi
  refine ⟨vb, e, hl, ?_⟩
  rw [hc, List.getElem?_map, List.getElem?_eq_getElem hi]
  rfl
end
section
variable {w w' : World} {bb : Nat} {cs : Array Value} {A : Option Addr} {c : Nat} {I : List (Value × List Value)} {S : List Nat}
theorem PT.typ (h : PT w bb cs A c I) : ∀ b ∈ blocksV I, ∃ cur, Blk w b 9 cur := fun b hb => by
  obtain ⟨p, hp, q⟩ := mem_blocksV.1 hb
  exact own_type (h.k.own p hp) q
theorem PT.keepO (h : PT w bb cs A c I) (k : Only S w w') {e : TypeId} (h1 : e ≠ 42) (h2 : e ≠ 61) (h3 : e ≠ 9) (hS : ∀ b ∈ S, ∃ cur, Blk w b e cur) : PT w' bb cs A c I := by
  refine ⟨k.blk h.blk (fun q => ?_), h.at0, h.cap, own_only h.ri k (fun b q z => ?_), h.k.only k (fun b q z => ?_), h.ci, h.few⟩
  · obtain ⟨cur, hc⟩ := hS bb q
    exact hc.other h.blk h1 rfl
  · obtain ⟨cur, hc⟩ := hS b z
    obtain ⟨c2, hc2⟩ := own_type h.ri q
    exact hc.other hc2 h2 rfl
  · obtain ⟨cur, hc⟩ := hS b z
    obtain ⟨c2, hc2⟩ := h.typ b q
    exact hc.other hc2 h3 rfl
theorem PT.keep0 (h : PT w bb cs A c I) (k : Only [] w w') : PT w' bb cs A c I := h.keepO k (e := 4) (by decide) (by decide) (by decide) (by simp)
theorem PT.gr (h : PT w bb cs A c (pmT I.length I)) : GrJT w (I.map (fun p => (p.1, p.2.length))) := by
  have key : ∀ i (hi : i < I.length), (I[i].1, strs (mkT i 0 I[i].2.length)) ∈ pmT I.length I := fun i hi => by
    have hi3 : i < (pmT I.length I).length := by rw [pmT_len]; exact hi
    have hg : (pmT I.length I)[i] = (I[i].1, strs (mkT i 0 I[i].2.length)) := by rw [pmT_get _ _ _ hi hi3, if_pos hi]
    rw [← hg]
    exact List.getElem_mem hi3
  have hlen : ∀ i n, (strs (mkT i 0 n)).length = n := fun i n => by simp [strs, mkT_len]
  have hn := h.k.nod
  have hlm : (I.map (fun p => (p.1, p.2.length))).length = I.length := List.length_map ..
  refine ⟨fun i hi => ?_, fun i hi => ?_, fun i j hi hj hij b q z => ?_, fun i hi => ?_, by rw [hlm]; have := h.few; rwa [pmT_len] at this⟩
  · rw [hlm] at hi
    rw [List.getElem_map]
    have := h.k.own _ (key i hi)
    simp only [hlen] at this
    exact this
  · rw [hlm] at hi
    rw [List.getElem_map]
    obtain ⟨A', c', e⟩ := h.k.lit _ (key i hi)
    simp only [hlen] at e
    exact ⟨A', c', e⟩
  · rw [hlm] at hi hj
    rw [List.getElem_map] at q z
    have hbI : blocksV (pmT I.length I) = blocksV I := blocksV_fst (pmT_fst _ _)
    rw [hbI] at hn
    have hpw := pw_of_nodup I hn
    rcases Nat.lt_or_gt_of_ne hij with y | y
    · exact List.pairwise_iff_getElem.1 hpw i j hi hj y b q z
    · exact List.pairwise_iff_getElem.1 hpw j i hj hi y b z q
  · rw [hlm] at hi
    rw [List.getElem_map]
    obtain ⟨l, hl, hll⟩ := h.ci _ (key i hi)
    have : I[i].2.length = l.length := by
      have := congrArg List.length hl
      simpa [strs, mkT_len] using this
    simp only
    omega
theorem MkdT.keepN {L : List (Value × Nat)} (h : MkdT w A c L) (k : Only S w w') (hA : ∀ b off, A = some ⟨b, off, none⟩ → b ∉ S) (hL : ∀ i (hi : i < L.length), ∀ b, L[i].1.ownBlock = some b → b ∉ S) : MkdT w' A c L :=
  ⟨h.cap, h.few, fun i hi => by
    obtain ⟨vb, e1, hl, hc⟩ := h.row i hi
    exact ⟨vb, e1, Nat.lt_of_lt_of_le hl k.size, (k.cell hl (hA vb 0 e1)).trans hc⟩, h.lit, fun i hi => (h.slc i hi).only k (fun b q => hL i hi b q), h.len⟩
theorem rowTypPT {n : Nat} {xs : List Value} {base : Nat} (h : w.ownsRow base 61 1 (.slice A n c) n xs) : ∀ b off, A = some ⟨b, off, none⟩ → ∃ cur, Blk w b 61 cur := fun b off e => by
  subst e
  exact own_type h rfl
/-- What was grown is marked. -/
theorem GrOT.mkd {J O : List (Value × Nat)} {Ao : Option Addr} {co : Nat} (hJ : GrJT w J) (h : GrOT w w' J J.length O Ao co) : MkdT w' Ao co O := by
  obtain ⟨A', c', e, h1, h2⟩ := own_form h.out
  injection e with e1 e2 e3
  subst e1 e3
  unfold maxLen at h2
  have hol := h.olen
  refine ⟨by rw [hol]; exact ⟨h1, h2⟩, by rw [hol]; exact hJ.few, fun i hi => ?_, h.lit, h.slc, fun i hi => ?_⟩
  · obtain ⟨vb, e, hl, hc⟩ := row_at h.out i (by omega)
    refine ⟨vb, e, hl, ?_⟩
    rw [hc, List.getElem?_map, List.getElem?_eq_getElem hi]
    rfl
  · have := h.two i hi (by omega)
    have := hJ.len i (by omega)
    omega
/-- What it was grown from is marked still. -/
theorem GrOT.mkdJ {J O : List (Value × Nat)} {Ao : Option Addr} {co : Nat} (hJ : GrJT w J) (h : GrOT w w' J J.length O Ao co) (hc : J.length ≤ c ∧ c ≤ 2 ^ 63 - 1) (hr : w'.ownsRow 0 61 1 (.slice A J.length c) J.length (J.map (·.1))) : MkdT w' A c J := by
  refine ⟨hc, hJ.few, fun i hi => ?_, hJ.lit, fun i hi => h.old i hi hi, fun i hi => by have := hJ.len i hi; omega⟩
  obtain ⟨vb, e, hl, hc⟩ := row_at hr i hi
  refine ⟨vb, e, hl, ?_⟩
  rw [hc, List.getElem?_map, List.getElem?_eq_getElem hi]
  rfl
end
theorem BkAt.pi {w : World} {bb c : Nat} {vt vx vy : Value} {A : Option Addr} {T X I Y : List (Value × List Value)} (h : BkAt w bb vt vx (.slice A I.length c) vy T X I Y) : PI w bb #[vt, vx, .slice A I.length c, vy, .slice none 0 0, .slice none 0 0, .slice none 0 0, .slice none 0 0, .slice none 0 0, .slice none 0 0, .slice none 0 0, .slice none 0 0] A c I := by
  obtain ⟨A', c', e, h1, h2⟩ := own_form h.ri
  injection e with e1 e2 e3
  subst e1 e3
  exact ⟨h.blk, rfl, ⟨h1, h2⟩, h.ri, (Kpt.sub h.ki).2, h.ci, h.few.2⟩
theorem BkAt.pt {w : World} {bb c : Nat} {vx vi vy : Value} {A : Option Addr} {T X I Y : List (Value × List Value)} (h : BkAt w bb (.slice A T.length c) vx vi vy T X I Y) : PT w bb #[.slice A T.length c, vx, vi, vy, .slice none 0 0, .slice none 0 0, .slice none 0 0, .slice none 0 0, .slice none 0 0, .slice none 0 0, .slice none 0 0, .slice none 0 0] A c T := by
  obtain ⟨A', c', e, h1, h2⟩ := own_form h.rt
  injection e with e1 e2 e3
  subst e1 e3
  exact ⟨h.blk, rfl, ⟨h1, h2⟩, h.rt, (Kpt.sub h.kt).2, h.ct, h.few.1⟩
end Go.Proofs.YthjgplgfcbhihaaGreat
/- The book: Apart. -/
set_option linter.unusedVariables false
set_option linter.unusedSimpArgs false
namespace Go.Proofs.YthjgplgfcbhihaaGreat
open Go.RowKit Go Go.Sort Go.Lib
set_option maxRecDepth 100000 in
set_option maxHeartbeats 1000000 in
theorem apart_any {w : World} {bb : Nat} {vt vx vi vy : Value} {T X I Y : List (Value × List Value)} (h : BkAt w bb vt vx vi vy T X I Y) :
    Calls Tryz.prog 14 #[.pointer (some ⟨bb, 0, none⟩)] w fun e w' => e = .returned (.bool true) ∧ Only (blocksV T ++ blocksV I) w w' := by
  obtain ⟨At, ct, rfl, hnt, hmt⟩ := own_form h.rt
  obtain ⟨Ai, ci, rfl, hni, hmi⟩ := own_form h.ri
  have hbl := h.blk.lt
  have hct : ct ≤ 2 ^ 63 - 1 := by unfold maxLen at hmt; omega
  have hci : ci ≤ 2 ^ 63 - 1 := by unfold maxLen at hmi; omega
  have HB := Lib.hid (fun (W : World) (k : Only [] w W) => h.keep k (by simp))
  have O0 := Only.refl [] w
  have HPT := Lib.hid h.pt
  have HPI := Lib.hid h.pi
  have hLt : (T.map (fun p : Value × List Value => (p.1, p.2.length))).length = T.length := List.length_map ..
  have hLi : (I.map (fun p : Value × List Value => (p.1, p.2.length))).length = I.length := List.length_map ..
  have HLt := Lib.hid hLt
  have HLi := Lib.hid hLi
  clear hLt hLi hmt hmi h
  go_enter Tryz.func14, Tryz.ntmps14
  go_wp2_with fail
  refine (stillT_any (HB.out _ O0)).mono ?_
  rintro e w1 ⟨rfl, k1⟩
  have O1 := O0.trans k1
  clear O0 k1
  go_wp2_with fail
  refine (stillI_any (HB.out _ O1)).mono ?_
  rintro e w2 ⟨rfl, k2⟩
  have O2 := O1.trans k2
  clear O1 k2
  go_wp2_with fail
  refine (stillStored_none (HB.out _ O2).blk.lt ((HB.out _ O2).blk.cell 4)).mono ?_
  rintro e w3 ⟨rfl, k3⟩
  have O3 := O2.trans k3
  clear O2 k3
  go_wp2_with fail
  refine (stillEntries_none (HB.out _ O3).blk.lt ((HB.out _ O3).blk.cell 6)).mono ?_
  rintro e w4 ⟨rfl, k4⟩
  have O4 := O3.trans k4
  clear O3 k4
  go_wp2_with fail
  refine (stillPackets_none (HB.out _ O4).blk.lt ((HB.out _ O4).blk.cell 8)).mono ?_
  rintro e w5 ⟨rfl, k5⟩
  have O5 := O4.trans k5
  clear O4 k5
  go_wp2_with fail
  refine (stillSteps_none (HB.out _ O5).blk.lt ((HB.out _ O5).blk.cell 10)).mono ?_
  rintro e w6 ⟨rfl, k6⟩
  have O6 := O5.trans k6
  clear O5 k6
  go_wp2_with fail
  refine (putSteps_none (HB.out _ O6).blk.lt ((HB.out _ O6).blk.cell 10)).mono ?_
  rintro e w7 ⟨rfl, k7⟩
  have O7 := O6.trans k7
  clear O6 k7
  have hpt := HPT.out.keep0 O7
  have hpi := HPI.out.keep0 O7
  have P := O7.of_nil (S := blocksV T ++ blocksV I)
  clear HB HPT HPI O7
  go_wp2_with fail
  refine (putT_all hpt).mono ?_
  rintro e w8 ⟨rfl, hpt8, k8⟩
  have hpi8 := hpi.keepO k8 (e := 9) (by decide) (by decide) (by decide) hpt.typ
  have P := P.trans (k8.mono (fun b q => List.mem_append_left _ q))
  clear hpi hpt k8
  go_wp2_with fail
  refine (putI_all hpi8).mono ?_
  rintro e w9 ⟨rfl, hpi9, k9⟩
  have hpt9 := hpt8.keepO k9 (e := 3) (by decide) (by decide) (by decide) hpi8.typ
  have P := P.trans (k9.mono (fun b q => List.mem_append_right _ q))
  clear hpi8 hpt8 k9
  have O9 := Only.refl [] w9
  have HBl := Lib.hid (fun (W : World) (k : Only [] w9 W) => (hpi9.keep0 k).blk)
  go_wp2_with fail
  refine (putStored_none (HBl.out _ O9).lt ((HBl.out _ O9).cell 4)).mono ?_
  rintro e w10 ⟨rfl, k10⟩
  have O10 := O9.trans k10
  clear O9 k10
  go_wp2_with fail
  refine (putEntries_none (HBl.out _ O10).lt ((HBl.out _ O10).cell 6)).mono ?_
  rintro e w11 ⟨rfl, k11⟩
  have O11 := O10.trans k11
  clear O10 k11
  go_wp2_with fail
  refine (putPackets_none (HBl.out _ O11).lt ((HBl.out _ O11).cell 8)).mono ?_
  rintro e w12 ⟨rfl, k12⟩
  have O12 := O11.trans k12
  clear O11 k12
  have hpi12 := hpi9.keep0 O12
  have hpt12 := hpt9.keep0 O12
  have P := P.trans O12.of_nil
  clear hpi9 hpt9 O12 HBl
  have hJt := hpt12.gr
  have hrt := hpt12.ri
  rw [pmT_fst, pmT_len] at hrt
  have hrt' : w12.ownsRow 0 61 1 (.slice At (T.map (fun p : Value × List Value => (p.1, p.2.length))).length ct) (T.map (fun p : Value × List Value => (p.1, p.2.length))).length ((T.map (fun p : Value × List Value => (p.1, p.2.length))).map (·.1)) := by
    rw [HLt.out, List.map_map]
    exact hrt
  have HGT := Lib.hid (growT_any (A := At) (c := ct) hpt12.blk (by rw [HLt.out]; rfl) (by rw [HLt.out]; exact ⟨hnt, hct⟩) hrt' hJt)
  rw [HLt.out] at HGT
  go_wp2_with fail
  refine HGT.out.mono ?_
  rintro e w13 ⟨Aot, cot, rfl, ⟨Ot, hOt⟩, k13⟩
  have hStr : ∀ b ∈ blocksJ (T.map (fun p : Value × List Value => (p.1, p.2.length))), ∃ cur, Blk w12 b 9 cur := fun b q => by
    rw [blocksJ_of] at q
    exact hpt12.typ b (by rw [blocksV_fst (pmT_fst _ _)]; exact q)
  have hpi13 := hpi12.keepO k13 (e := 9) (by decide) (by decide) (by decide) hStr
  have hrt13 := own_only hrt' k13 (fun b q z => by
    obtain ⟨c1, h1⟩ := own_type hrt' q
    obtain ⟨c2, h2⟩ := hStr b z
    exact h1.other h2 (by decide) rfl)
  rw [← HLt.out] at hOt
  have hMo := GrOT.mkd hJt hOt
  have hMj := GrOT.mkdJ (A := At) (c := ct) hJt hOt (by rw [HLt.out]; exact ⟨hnt, hct⟩) hrt13
  have hOl : Ot.length = T.length := by rw [hOt.olen, HLt.out]
  have hAo := rowTypPT hOt.out
  have hAj := rowTypPT hrt13
  have hLo := hOt.typ
  have hLj : ∀ i (hi : i < (T.map (fun p : Value × List Value => (p.1, p.2.length))).length), ∀ b, (T.map (fun p : Value × List Value => (p.1, p.2.length)))[i].1.ownBlock = some b → b ∉ blocksJ (I.map (fun p : Value × List Value => (p.1, p.2.length))) := fun i hi b q z => by
    obtain ⟨c1, h1⟩ := own_type (hJt.own i hi) q
    rw [blocksJ_of] at z
    obtain ⟨c2, h2⟩ := hpi12.typ b (by rw [blocksV_fst (pmI_fst _ _)]; exact z)
    exact h1.other h2 (by decide) rfl
  have hJi := hpi13.gr
  have hri := hpi13.ri
  rw [pmI_fst, pmI_len] at hri
  have hri' : w13.ownsRow 0 43 1 (.slice Ai (I.map (fun p : Value × List Value => (p.1, p.2.length))).length ci) (I.map (fun p : Value × List Value => (p.1, p.2.length))).length ((I.map (fun p : Value × List Value => (p.1, p.2.length))).map (·.1)) := by
    rw [HLi.out, List.map_map]
    exact hri
  have HGI := Lib.hid (growI_any (A := Ai) (c := ci) hpi13.blk (by rw [HLi.out]; rfl) (by rw [HLi.out]; exact ⟨hni, hci⟩) hri' hJi)
  rw [HLi.out] at HGI
  have P := P.trans (k13.mono (fun b q => List.mem_append_left _ (by rw [blocksJ_of] at q; exact q)))
  clear HGT hOt k13 hpi12 hpt12 hJt hrt hrt' hStr hrt13
  go_wp2_with fail
  refine HGI.out.mono ?_
  rintro e w14 ⟨Aoi, coi, rfl, ⟨Oi, hOi⟩, k14⟩
  have hInt : ∀ b ∈ blocksJ (I.map (fun p : Value × List Value => (p.1, p.2.length))), ∃ cur, Blk w13 b 3 cur := fun b q => by
    rw [blocksJ_of] at q
    exact hpi13.typ b (by rw [blocksV_fst (pmI_fst _ _)]; exact q)
  have hri14 := own_only hri' k14 (fun b q z => by
    obtain ⟨c1, h1⟩ := own_type hri' q
    obtain ⟨c2, h2⟩ := hInt b z
    exact h1.other h2 (by decide) rfl)
  rw [← HLi.out] at hOi
  have hNo := GrO.mkd hJi hOi
  have hNj := GrO.mkdJ (A := Ai) (c := ci) hJi hOi (by rw [HLi.out]; exact ⟨hni, hci⟩) hri14
  have hPl : Oi.length = I.length := by rw [hOi.olen, HLi.out]
  have hMo14 := hMo.keepN k14 (fun b off q z => by
    obtain ⟨c1, h1⟩ := hAo b off q
    obtain ⟨c2, h2⟩ := hInt b z
    exact h1.other h2 (by decide) rfl) (fun i hi b q z => by
    obtain ⟨c1, h1⟩ := hLo i hi b q
    obtain ⟨c2, h2⟩ := hInt b z
    exact h1.other h2 (by decide) rfl)
  have hMj14 := hMj.keepN k14 (fun b off q z => by
    obtain ⟨c1, h1⟩ := hAj b off q
    obtain ⟨c2, h2⟩ := hInt b z
    exact h1.other h2 (by decide) rfl) hLj
  have hblk14 := k14.blk hpi13.blk (fun q => by
    obtain ⟨c2, h2⟩ := hInt bb q
    exact h2.other hpi13.blk (by decide) rfl)
  have HM1 := Lib.hid (fun (W : World) (k : Only [] w14 W) => markedT_any (hMo14.keep0 k))
  have HM2 := Lib.hid (fun (W : World) (k : Only [] w14 W) => markedT_any (hMj14.keep0 k))
  have HM3 := Lib.hid (fun (W : World) (k : Only [] w14 W) => markedI_any (hNo.keep0 k))
  have HM4 := Lib.hid (fun (W : World) (k : Only [] w14 W) => markedI_any (hNj.keep0 k))
  rw [hOl] at HM1
  rw [HLt.out] at HM2
  rw [hPl] at HM3
  rw [HLi.out] at HM4
  have HBl := Lib.hid (fun (W : World) (k : Only [] w14 W) => k.blk hblk14 (by simp))
  have O14 := Only.refl [] w14
  have P := P.trans (k14.mono (fun b q => List.mem_append_right _ (by rw [blocksJ_of] at q; exact q)))
  clear HGI hOi k14 hpi13 hJi hri hri' hInt hri14 hMo hMj hNo hNj hMo14 hMj14 hAo hAj hLo hLj hOl hPl hblk14
  go_wp2_with fail
  refine (growStored_none (HBl.out _ O14).lt ((HBl.out _ O14).cell 4)).mono ?_
  rintro e w15 ⟨rfl, k15⟩
  have O15 := O14.trans k15
  clear O14 k15
  go_wp2_with fail
  refine (growEntries_none (HBl.out _ O15).lt ((HBl.out _ O15).cell 6)).mono ?_
  rintro e w16 ⟨rfl, k16⟩
  have O16 := O15.trans k16
  clear O15 k16
  go_wp2_with fail
  refine (growPackets_none (HBl.out _ O16).lt ((HBl.out _ O16).cell 8)).mono ?_
  rintro e w17 ⟨rfl, k17⟩
  have O17 := O16.trans k17
  clear O16 k17
  go_wp2_with fail
  refine (growSteps_none (HBl.out _ O17).lt ((HBl.out _ O17).cell 10)).mono ?_
  rintro e w18 ⟨rfl, k18⟩
  have O18 := O17.trans k18
  clear O17 k18
  go_wp2_with fail
  refine (HM1.out _ O18).mono ?_
  rintro e w19 ⟨rfl, k19⟩
  have O19 := O18.trans k19
  clear O18 k19
  have c19 := (HBl.out _ O19).cell 0
  go_wp2_with fail
  refine (HM2.out _ O19).mono ?_
  rintro e w20 ⟨rfl, k20⟩
  have O20 := O19.trans k20
  clear O19 k20
  go_wp2_with fail
  refine (HM3.out _ O20).mono ?_
  rintro e w21 ⟨rfl, k21⟩
  have O21 := O20.trans k21
  clear O20 k21
  have c21 := (HBl.out _ O21).cell 2
  go_wp2_with fail
  refine (HM4.out _ O21).mono ?_
  rintro e w22 ⟨rfl, k22⟩
  have O22 := O21.trans k22
  clear O21 k22
  go_wp2_with fail
  refine (markedStored_none _).mono ?_
  rintro e w23 ⟨rfl, k23⟩
  have O23 := O22.trans k23
  clear O22 k23
  have c23 := (HBl.out _ O23).cell 4
  go_wp2_with fail
  refine (markedStored_none _).mono ?_
  rintro e w24 ⟨rfl, k24⟩
  have O24 := O23.trans k24
  clear O23 k24
  go_wp2_with fail
  refine (markedEntries_none _).mono ?_
  rintro e w25 ⟨rfl, k25⟩
  have O25 := O24.trans k25
  clear O24 k25
  have c25 := (HBl.out _ O25).cell 6
  go_wp2_with fail
  refine (markedEntries_none _).mono ?_
  rintro e w26 ⟨rfl, k26⟩
  have O26 := O25.trans k26
  clear O25 k26
  go_wp2_with fail
  refine (markedPackets_none _).mono ?_
  rintro e w27 ⟨rfl, k27⟩
  have O27 := O26.trans k27
  clear O26 k27
  have c27 := (HBl.out _ O27).cell 8
  go_wp2_with fail
  refine (markedPackets_none _).mono ?_
  rintro e w28 ⟨rfl, k28⟩
  have O28 := O27.trans k28
  clear O27 k28
  go_wp2_with fail
  refine (markedSteps_none _).mono ?_
  rintro e w29 ⟨rfl, k29⟩
  have O29 := O28.trans k29
  clear O28 k29
  have c29 := (HBl.out _ O29).cell 10
  go_wp2_with fail
  refine (markedSteps_none _).mono ?_
  rintro e w30 ⟨rfl, k30⟩
  have O30 := O29.trans k30
  clear O29 k30
  have P := P.trans O30.of_nil
  go_wp2
  go_ret
  exact ⟨rfl, P⟩
end Go.Proofs.YthjgplgfcbhihaaGreat
/- A group of consumers and the document's group: when they are the same. No program is named. -/
set_option linter.unusedVariables false
set_option linter.unusedSimpArgs false
namespace Go.Proofs.YthjgplgfcbhihaaGreat
open Go.RowKit
theorem ris_ext : ∀ {l m : List Int}, Ris l → Ris m → (∀ v, v ∈ l ↔ v ∈ m) → l = m
  | [], [], _, _, _ => rfl
  | [], y :: m, _, _, h => absurd ((h y).2 (by simp)) (by simp)
  | x :: l, [], _, _, h => absurd ((h x).1 (by simp)) (by simp)
  | x :: l, y :: m, hl, hm, h => by
    have hl' := List.pairwise_cons.1 hl
    have hm' := List.pairwise_cons.1 hm
    have e : x = y := by
      rcases List.mem_cons.1 ((h x).1 (by simp)) with q | q
      · exact q
      · rcases List.mem_cons.1 ((h y).2 (by simp)) with q2 | q2
        · exact q2.symm
        · have := hm'.1 x q
          have := hl'.1 y q2
          omega
    subst e
    congr 1
    refine ris_ext hl'.2 hm'.2 (fun v => ⟨fun hv => ?_, fun hv => ?_⟩)
    · rcases List.mem_cons.1 ((h v).1 (List.mem_cons_of_mem _ hv)) with q | q
      · have := hl'.1 v hv
        omega
      · exact q
    · rcases List.mem_cons.1 ((h v).2 (List.mem_cons_of_mem _ hv)) with q | q
      · have := hm'.1 v hv
        omega
      · exact q
/-- The item x is told so by the group g. -/
structure Pt (g : GS) (x : Item) : Prop where
  wa : x.n ∈ g.waiting ↔ x.st = 1
  pa : x.n ∈ g.parked ↔ x.st = 4
  ac : x.n ∈ g.acked ↔ x.st = 3
  sk : x.n ∈ g.skipped ↔ x.st = 5
  fl : ∀ s, x.n ∈ g.fl s ↔ x.st = 2 ∧ x.own = s
  tr : g.tr x.n = if x.st ≤ 2 ∨ x.st = 4 then x.tries else 0
  st : 1 ≤ x.st ∧ x.st ≤ 6
structure Rel (g : GS) (r : RG) : Prop where
  base : r.from_ = g.from_ ∧ r.buf = g.buffer ∧ r.ret = g.retries
  whoS : r.who.Pairwise (fun a b => a.data.toList < b.data.toList)
  whoM : ∀ s, s ∈ r.who ↔ g.is s = true
  whoN : ∀ s ∈ r.who, s ≠ emptyB
  nums : ∀ j (h : j < r.l.length), r.l[j].n = g.from_ + j
  nx : g.next = g.from_ + r.l.length
  pt : ∀ x ∈ r.l, Pt g x
  tr0 : ∀ v, (v < g.from_ ∨ g.next ≤ v) → g.tr v = 0
  nod : ANodup g.tries
section
variable {g g' : GS} {r : RG} {N : Nat}
theorem Rel.lo (h : Rel g r) {x : Item} (hx : x ∈ r.l) : g.from_ ≤ x.n ∧ x.n < g.next := by
  obtain ⟨j, hj, rfl⟩ := List.getElem_of_mem hx
  have := h.nums j hj
  have := h.nx
  omega
theorem Rel.inj (h : Rel g r) {x y : Item} (hx : x ∈ r.l) (hy : y ∈ r.l) (e : x.n = y.n) : x = y := by
  obtain ⟨j, hj, rfl⟩ := List.getElem_of_mem hx
  obtain ⟨k, hk, rfl⟩ := List.getElem_of_mem hy
  have h1 := h.nums j hj
  have h2 := h.nums k hk
  have : j = k := by omega
  subst this
  rfl
theorem Rel.item (h : Rel g r) {v : Int} (hv : g.from_ ≤ v ∧ v < g.next) : ∃ x ∈ r.l, x.n = v := by
  have := h.nx
  have hj : (v - g.from_).toNat < r.l.length := by omega
  exact ⟨r.l[(v - g.from_).toNat], List.getElem_mem hj, by rw [h.nums _ hj]; omega⟩
theorem Rel.sorted (h : Rel g r) : r.l.Pairwise (fun x y => x.n < y.n) := by
  rw [List.pairwise_iff_getElem]
  intro i j hi hj hij
  rw [h.nums i hi, h.nums j hj]
  omega
theorem ris_filter {l : List Item} (h : l.Pairwise (fun x y => x.n < y.n)) (p : Item → Bool) : Ris ((l.filter p).map (·.n)) := by
  unfold Ris
  rw [List.pairwise_map]
  exact List.Pairwise.sublist List.filter_sublist h
theorem Rel.list_eq (h : Rel g r) {l : List Int} (hf : Fed g.from_ g.next l) (st : Int) (a : ByteArray) (hp : ∀ x ∈ r.l, x.n ∈ l ↔ pList st a x = true) : l = r.list st a := by
  refine ris_ext hf.ris (ris_filter h.sorted _) (fun v => ⟨fun hv => ?_, fun hv => ?_⟩)
  · obtain ⟨x, hx, rfl⟩ := h.item (hf.mem v hv)
    exact List.mem_map.2 ⟨x, List.mem_filter.2 ⟨hx, (hp x hx).1 hv⟩, rfl⟩
  · obtain ⟨x, hx, rfl⟩ := List.mem_map.1 hv
    exact (hp x (List.mem_filter.1 hx).1).2 (List.mem_filter.1 hx).2
theorem Rel.wa_eq (h : Rel g r) (ho : g.Ok N) (a : ByteArray) : g.waiting = r.list 1 a := h.list_eq ho.wa 1 a (fun x hx => by rw [(h.pt x hx).wa]; simp [pList])
theorem Rel.pa_eq (h : Rel g r) (ho : g.Ok N) (a : ByteArray) : g.parked = r.list 4 a := h.list_eq ho.pa 4 a (fun x hx => by rw [(h.pt x hx).pa]; simp [pList])
theorem Rel.ac_eq (h : Rel g r) (ho : g.Ok N) (a : ByteArray) : g.acked = r.list 3 a := h.list_eq ho.ac 3 a (fun x hx => by rw [(h.pt x hx).ac]; simp [pList])
theorem Rel.sk_eq (h : Rel g r) (ho : g.Ok N) (a : ByteArray) : g.skipped = r.list 5 a := h.list_eq ho.sk 5 a (fun x hx => by rw [(h.pt x hx).sk]; simp [pList])
theorem Rel.fl_eq (h : Rel g r) (ho : g.Ok N) (s : ByteArray) : g.fl s = r.list 2 s := h.list_eq (ho.flOf s) 2 s (fun x hx => by rw [(h.pt x hx).fl s]; simp [pList])
theorem sorted_ext : ∀ {l m : List ByteArray}, l.Pairwise (fun a b => a.data.toList < b.data.toList) → m.Pairwise (fun a b => a.data.toList < b.data.toList) → (∀ v, v ∈ l ↔ v ∈ m) → l = m
  | [], [], _, _, _ => rfl
  | [], y :: m, _, _, h => absurd ((h y).2 (by simp)) (by simp)
  | x :: l, [], _, _, h => absurd ((h x).1 (by simp)) (by simp)
  | x :: l, y :: m, hl, hm, h => by
    have hl' := List.pairwise_cons.1 hl
    have hm' := List.pairwise_cons.1 hm
    have irr : ∀ a : List UInt8, ¬ a < a := fun a => List.lt_irrefl a
    have e : x = y := by
      rcases List.mem_cons.1 ((h x).1 (by simp)) with q | q
      · exact q
      · rcases List.mem_cons.1 ((h y).2 (by simp)) with q2 | q2
        · exact q2.symm
        · exact absurd (List.lt_trans (hm'.1 x q) (hl'.1 y q2)) (irr _)
    subst e
    congr 1
    refine sorted_ext hl'.2 hm'.2 (fun v => ⟨fun hv => ?_, fun hv => ?_⟩)
    · rcases List.mem_cons.1 ((h v).1 (List.mem_cons_of_mem _ hv)) with q | q
      · have := hl'.1 v hv
        rw [q] at this
        exact absurd this (irr _)
      · exact q
    · rcases List.mem_cons.1 ((h v).2 (List.mem_cons_of_mem _ hv)) with q | q
      · have := hm'.1 v hv
        rw [q] at this
        exact absurd this (irr _)
      · exact q
theorem is_mem {g : GS} {s : ByteArray} : g.is s = true ↔ s ∈ g.flight.map (·.1) := by
  unfold GS.is
  cases hx : aget g.flight s with
  | none => simpa using aget_none.1 hx
  | some l => simp; exact ⟨l, aget_mem hx⟩
theorem who_sorted (g : GS) (hn : ANodup g.flight) : g.who.Pairwise (fun a b => a.data.toList < b.data.toList) := by
  unfold GS.who
  rw [List.pairwise_map]
  have hnd : (g.flight.map fun p => p.1.data.toList).Nodup := by
    have : (g.flight.map (·.1)).Nodup := hn
    rw [show (g.flight.map fun p => p.1.data.toList) = (g.flight.map (·.1)).map (fun b => b.data.toList) by simp]
    exact List.pairwise_map.2 (List.Pairwise.imp (fun {a b} q e => q (ByteArray.ext (Array.toList_inj.1 e))) this)
  have hp := List.mergeSort_perm (g.flight.map fun p => p.1.data.toList) (fun x y => decide (x ≤ y))
  have hnd2 := hp.nodup_iff.2 hnd
  have hs := List.pairwise_mergeSort (le := fun x y : List UInt8 => decide (x ≤ y)) (fun a b c h1 h2 => by simp at *; exact List.le_trans h1 h2) (fun a b => by simp; exact List.le_total a b) (g.flight.map fun p => p.1.data.toList)
  refine (List.Pairwise.and hs hnd2).imp (fun {a b} q => ?_)
  obtain ⟨q1, q2⟩ := q
  have q1' : a ≤ b := by simpa using q1
  rcases List.le_iff_lt_or_eq.1 q1' with q | q
  · exact q
  · exact absurd q q2
theorem who_mem (g : GS) (s : ByteArray) : s ∈ g.who ↔ g.is s = true := by
  rw [is_mem]
  unfold GS.who
  simp only [List.mem_map, List.mem_mergeSort]
  constructor
  · rintro ⟨x, ⟨p, hp, rfl⟩, rfl⟩
    exact ⟨p, hp, rfl⟩
  · rintro ⟨p, hp, rfl⟩
    exact ⟨p.1.data.toList, ⟨p, hp, rfl⟩, rfl⟩
theorem Rel.who_eq (h : Rel g r) (ho : g.Ok N) : g.who = r.who := sorted_ext (who_sorted g ho.nod) h.whoS (fun v => by rw [who_mem, h.whoM])
theorem Rel.few (h : Rel g r) (ho : g.Ok N) : g.flight.length = r.who.length := by
  rw [← h.who_eq ho]
  simp [GS.who]
theorem whoIx_neg {l : List ByteArray} {s : ByteArray} : whoIx l s < 0 ↔ s ∉ l := by
  unfold whoIx
  split
  · rename_i q
    constructor
    · intro h; omega
    · intro h
      have := List.findIdx_getElem (w := q)
      simp at this
      exact absurd (by rw [← this]; exact List.getElem_mem _) h
  · rename_i q
    constructor
    · intro _ hs
      exact q (List.findIdx_lt_length_of_exists ⟨s, hs, by simp⟩)
    · intro _; decide
theorem Rel.ix (h : Rel g r) (s : ByteArray) : whoIx r.who s < 0 ↔ g.is s = false := by
  rw [whoIx_neg, h.whoM]
  simp
/-- Items turned one by one. -/
theorem Rel.map (h : Rel g r) (f : Item → Item) (hn : ∀ x ∈ r.l, (f x).n = x.n) (hg : g'.from_ = g.from_ ∧ g'.buffer = g.buffer ∧ g'.retries = g.retries ∧ g'.next = g.next) {who' : List ByteArray}
    (hs : who'.Pairwise (fun a b => a.data.toList < b.data.toList)) (hm : ∀ s, s ∈ who' ↔ g'.is s = true) (hN : ∀ s ∈ who', s ≠ emptyB) (hp : ∀ x ∈ r.l, Pt g' (f x)) (h0 : ∀ v, (v < g.from_ ∨ g.next ≤ v) → g'.tr v = 0) (hd : ANodup g'.tries) :
    Rel g' { r with who := who', l := r.l.map f } := by
  obtain ⟨q1, q2, q3, q4⟩ := hg
  refine ⟨by rw [q1, q2, q3]; exact h.base, hs, hm, hN, fun j hj => ?_, ?_, fun x hx => ?_, fun v hv => h0 v (by rw [q1, q4] at hv; exact hv), hd⟩
  · have hj' : j < r.l.length := by simpa using hj
    show (r.l.map f)[j].n = _
    rw [List.getElem_map, hn _ (List.getElem_mem hj'), q1]
    exact h.nums j hj'
  · rw [q4, q1, h.nx]
    simp
  · obtain ⟨y, hy, rfl⟩ := List.mem_map.1 hx
    exact hp y hy
end
end Go.Proofs.YthjgplgfcbhihaaGreat
/- What a group does, the document's group does. No program is named. -/
set_option linter.unusedVariables false
set_option linter.unusedSimpArgs false
namespace Go.Proofs.YthjgplgfcbhihaaGreat
open Go.RowKit
section
variable {g g' : GS} {r : RG} {N : Nat}
theorem Rel.new (f b t : Int) : Rel (GS.new f b t) (RG.new f b t) :=
  ⟨⟨rfl, rfl, rfl⟩, List.Pairwise.nil, fun s => by simp [RG.new, GS.new, GS.is, aget], fun s hs => (by cases hs), fun j h => absurd h (Nat.not_lt_zero _), by simp [RG.new, GS.new], fun x hx => (by cases hx), fun v _ => rfl, List.nodup_nil⟩
theorem fl_aput (g : GS) (who s : ByteArray) (l : List Int) : ((aget (aput g.flight who l) s).getD []) = if who = s then l else g.fl s := by
  rw [aget_aput]
  split
  · rfl
  · rfl
theorem is_aput (g : GS) (who s : ByteArray) (l : List Int) (hw : g.is who = true) : (aget (aput g.flight who l) s).isSome = g.is s := by
  rw [aget_aput]
  split
  · rename_i e
    rw [← e, hw]
    rfl
  · rfl
/-! ## the first one that is open; the checkpoint -/
theorem least_le (l : List Int) (d : Int) : GS.least l d ≤ d ∧ ∀ x ∈ l, Ris l → GS.least l d ≤ x := by
  cases l with
  | nil => exact ⟨Int.le_refl _, fun x hx => by cases hx⟩
  | cons y l =>
    simp only [GS.least]
    refine ⟨Int.min_le_left _ _, fun x hx hr => ?_⟩
    rcases List.mem_cons.1 hx with rfl | q
    · exact Int.min_le_right _ _
    · have := (List.pairwise_cons.1 hr).1 x q
      have := Int.min_le_right d y
      omega
theorem least_in (l : List Int) (d : Int) : GS.least l d = d ∨ GS.least l d ∈ l := by
  cases l with
  | nil => exact .inl rfl
  | cons y l =>
    simp only [GS.least]
    by_cases q : d ≤ y
    · left; rw [Int.min_eq_left q]
    · right; rw [Int.min_eq_right (by omega)]; simp
theorem leasts : ∀ (F : List (ByteArray × List Int)) (d : Int), (∀ p ∈ F, Ris p.2) → F.foldl (fun a p => GS.least p.2 a) d ≤ d ∧ (∀ p ∈ F, ∀ x ∈ p.2, F.foldl (fun a p => GS.least p.2 a) d ≤ x) ∧ (F.foldl (fun a p => GS.least p.2 a) d = d ∨ ∃ p ∈ F, F.foldl (fun a p => GS.least p.2 a) d ∈ p.2)
  | [], d, _ => ⟨Int.le_refl _, fun p hp => (by cases hp), .inl rfl⟩
  | q :: F, d, h => by
    obtain ⟨h1, h2, h3⟩ := leasts F (GS.least q.2 d) (fun p hp => h p (by simp [hp]))
    obtain ⟨l1, l2⟩ := least_le q.2 d
    refine ⟨Int.le_trans h1 l1, fun p hp x hx => ?_, ?_⟩
    · rcases List.mem_cons.1 hp with rfl | hp
      · exact Int.le_trans h1 (l2 x hx (h _ (by simp)))
      · exact h2 p hp x hx
    · simp only [List.foldl_cons]
      rcases h3 with h3 | ⟨p, hp, hx⟩
      · rw [h3]
        rcases least_in q.2 d with e | e
        · exact .inl e
        · exact .inr ⟨q, by simp, e⟩
      · exact .inr ⟨p, by simp [hp], hx⟩
theorem Rel.ckpt (h : Rel g r) (ho : g.Ok N) : g.checkpoint = r.ckpt := by
  have hR : ∀ p ∈ g.flight, Ris p.2 := fun p hp => (ho.fl p hp).ris
  obtain ⟨a1, a2, a3⟩ := leasts g.flight (GS.least g.waiting g.next) hR
  obtain ⟨b1, b2⟩ := least_le g.waiting g.next
  have hle : ∀ x ∈ r.l, x.st ≤ 2 → g.checkpoint ≤ x.n := fun x hx hs => by
    have hp := h.pt x hx
    have h1 := hp.st.1
    by_cases e : x.st = 1
    · exact Int.le_trans a1 (b2 x.n (hp.wa.2 e) ho.wa.ris)
    · have hf := (hp.fl x.own).2 ⟨by omega, rfl⟩
      unfold GS.fl at hf
      cases hx2 : aget g.flight x.own with
      | none => rw [hx2] at hf; cases hf
      | some l => rw [hx2] at hf; exact a2 _ (aget_mem hx2) x.n hf
  have hin : g.checkpoint = g.next ∨ ∃ x ∈ r.l, x.n = g.checkpoint ∧ x.st ≤ 2 := by
    rcases a3 with a3 | ⟨p, hp, hx⟩
    · rcases least_in g.waiting g.next with e | e
      · exact .inl (a3.trans e)
      · right
        obtain ⟨x, hx, hxn⟩ := h.item (ho.wa.mem _ e)
        exact ⟨x, hx, hxn.trans a3.symm, by have := (h.pt x hx).wa.1 (by rw [hxn]; exact e); omega⟩
    · right
      obtain ⟨x, hx2, hxn⟩ := h.item ((ho.fl p hp).mem _ hx)
      have hfl : g.fl p.1 = p.2 := by unfold GS.fl; rw [aget_of_mem ho.nod (v := p.2) (by exact hp)]; rfl
      have := ((h.pt x hx2).fl p.1).1 (by rw [hfl, hxn]; exact hx)
      exact ⟨x, hx2, hxn, by omega⟩
  unfold RG.ckpt
  cases hf : r.l.find? pOpen with
  | none =>
    have hn : ∀ x ∈ r.l, ¬ x.st ≤ 2 := fun x hx => by simpa [pOpen] using List.find?_eq_none.1 hf x hx
    rcases hin with e | ⟨x, hx, _, hs⟩
    · rw [e, h.nx, h.base.1]
    · exact absurd hs (hn x hx)
  | some x =>
    show g.checkpoint = x.n
    obtain ⟨hx1, j, hj, hxj, hbef⟩ := List.find?_eq_some_iff_getElem.1 hf
    have hx : x ∈ r.l := by rw [← hxj]; exact List.getElem_mem _
    have hs : x.st ≤ 2 := by simpa [pOpen] using hx1
    have h1 := hle x hx hs
    rcases hin with e | ⟨y, hy, hyn, hys⟩
    · have := (h.lo hx).2
      omega
    · obtain ⟨k, hk, rfl⟩ := List.getElem_of_mem hy
      have hkj : ¬ k < j := fun q => by
        have := hbef k q
        simp [pOpen] at this
        omega
      have n1 := h.nums k hk
      have n2 := h.nums j hj
      rw [hxj] at n2
      omega
/-! ## Join, Leave -/
theorem bytesLt_iff {x y : ByteArray} : bytesLt x y = true ↔ x.data.toList < y.data.toList := by
  unfold bytesLt
  rw [ByteArray.toList_eq, ByteArray.toList_eq, Go.Proofs.bytesLess_eq]
  simp
theorem put_sorted {l : List ByteArray} (h : l.Pairwise (fun a b => a.data.toList < b.data.toList)) (s : ByteArray) (hs : s ∉ l) :
    (l.take (l.findIdx (fun x => !bytesLt x s)) ++ s :: l.drop (l.findIdx (fun x => !bytesLt x s))).Pairwise (fun a b => a.data.toList < b.data.toList) := by
  obtain ⟨k, hk⟩ : ∃ k, k = l.findIdx (fun x => !bytesLt x s) := ⟨_, rfl⟩
  rw [← hk]
  have h1 : ∀ x ∈ l.take k, x.data.toList < s.data.toList := fun x hx => by
    obtain ⟨j, hj, rfl⟩ := List.getElem_of_mem hx
    have hj2 : j < k := by simp at hj; omega
    rw [List.getElem_take]
    have := List.not_of_lt_findIdx (by rw [← hk]; exact hj2)
    simp at this
    exact bytesLt_iff.1 this
  have h2 : ∀ x ∈ l.drop k, s.data.toList < x.data.toList := fun x hx => by
    have hkl : k < l.length := by
      rcases Nat.lt_or_ge k l.length with q | q
      · exact q
      · rw [List.drop_of_length_le q] at hx; cases hx
    have hk0 := List.findIdx_getElem (p := fun x => !bytesLt x s) (xs := l) (w := by rw [← hk]; exact hkl)
    simp only [← hk] at hk0
    have hk1 : ¬ l[k].data.toList < s.data.toList := fun q => by
      have := bytesLt_iff.2 q
      rw [this] at hk0
      cases hk0
    have hk2 : s.data.toList < l[k].data.toList := by
      rcases List.le_iff_lt_or_eq.1 (List.not_lt.1 hk1) with q | q
      · exact q
      · exact absurd (by rw [ByteArray.ext (Array.toList_inj.1 q)]; exact List.getElem_mem _) hs
    rw [List.drop_eq_getElem_cons hkl] at hx
    rcases List.mem_cons.1 hx with rfl | hx
    · exact hk2
    · have hp := List.Pairwise.sublist (List.drop_sublist k l) h
      rw [List.drop_eq_getElem_cons hkl] at hp
      exact List.lt_trans hk2 ((List.pairwise_cons.1 hp).1 x hx)
  refine List.pairwise_append.2 ⟨List.Pairwise.sublist (List.take_sublist _ _) h, List.pairwise_cons.2 ⟨h2, List.Pairwise.sublist (List.drop_sublist _ _) h⟩, fun x hx y hy => ?_⟩
  rcases List.mem_cons.1 hy with rfl | hy
  · exact h1 x hx
  · exact List.lt_trans (h1 x hx) (h2 y hy)
theorem Rel.join (h : Rel g r) (ho : g.Ok N) (s : ByteArray) : (g.join s).1 = (r.join s).1 ∧ Rel (g.join s).2 (r.join s).2 := by
  unfold GS.join RG.join
  by_cases h1 : s.size < 1 ∨ 60 < s.size
  · rw [if_pos h1, if_pos h1]
    exact ⟨rfl, h⟩
  rw [if_neg h1, if_neg h1]
  have hix := h.ix s
  by_cases h2 : g.is s = true
  · rw [if_pos h2, if_pos (by rcases Int.lt_or_le (whoIx r.who s) 0 with q | q; (rw [hix.1 q] at h2; cases h2); exact q)]
    exact ⟨rfl, h⟩
  have h2' : g.is s = false := by simpa using h2
  have hlt := hix.2 h2'
  rw [if_neg h2, if_neg (show ¬ (0 ≤ whoIx r.who s) by omega), h.few ho]
  by_cases h3 : 20 ≤ r.who.length
  · rw [if_pos h3, if_pos h3]
    exact ⟨rfl, h⟩
  rw [if_neg h3, if_neg h3]
  refine ⟨rfl, ?_⟩
  have hs : s ∉ r.who := whoIx_neg.1 hlt
  have hfl0 : g.fl s = [] := by
    unfold GS.is at h2'
    unfold GS.fl
    cases hx : aget g.flight s with
    | none => rfl
    | some l => rw [hx] at h2'; cases h2'
  have hflE : ∀ t, (aget (aput g.flight s []) t).getD [] = g.fl t := fun t => by
    rw [fl_aput]
    split
    · rename_i e
      rw [← e, hfl0]
    · rfl
  have hputm : ∀ t, (t ∈ r.put s) ↔ t = s ∨ t ∈ r.who := fun t => by
      unfold RG.put
      rw [List.mem_append, List.mem_cons]
      constructor
      · rintro (q | q | q)
        · exact .inr (List.mem_of_mem_take q)
        · exact .inl q
        · exact .inr (List.mem_of_mem_drop q)
      · rintro (q | q)
        · exact .inr (.inl q)
        · rw [← List.take_append_drop (r.who.findIdx (fun x => !bytesLt x s)) r.who] at q
          rcases List.mem_append.1 q with q | q
          · exact .inl q
          · exact .inr (.inr q)
  have := h.map (g' := { g with flight := aput g.flight s [] }) id (fun _ _ => rfl) ⟨rfl, rfl, rfl, rfl⟩ (who' := r.put s) (put_sorted h.whoS s hs) (fun t => ?_) (fun t ht => ?_) (fun x hx => ?_) h.tr0 h.nod
  · simpa using this
  · have e := hputm t
    rw [e]
    unfold GS.is
    simp only
    rw [aget_aput]
    by_cases q : s = t
    · simp [q]
    · rw [if_neg q, h.whoM]
      exact ⟨fun z => z.resolve_left (fun y => q y.symm), .inr⟩
  · rcases (hputm t).1 ht with q | q
    · intro e
      rw [← q, e] at h1
      exact h1 (.inl (by decide))
    · exact h.whoN t q
  · have hp := h.pt x hx
    exact ⟨hp.wa, hp.pa, hp.ac, hp.sk, fun t => by show x.n ∈ (aget (aput g.flight s []) t).getD [] ↔ _; rw [hflE]; exact hp.fl t, hp.tr, hp.st⟩
theorem mem_foldl_insL : ∀ (l m : List Int) (v : Int), v ∈ l.foldl insL m ↔ v ∈ l ∨ v ∈ m
  | [], m, v => by simp
  | x :: l, m, v => by
    rw [List.foldl_cons, mem_foldl_insL l, mem_insL]
    simp only [List.mem_cons]
    constructor
    · rintro (q | q | q)
      · exact .inl (.inr q)
      · exact .inl (.inl q)
      · exact .inr q
    · rintro ((q | q) | q)
      · exact .inr (.inl q)
      · exact .inl q
      · exact .inr (.inr q)
theorem whoIx_get {l : List ByteArray} {s : ByteArray} (h : ¬ whoIx l s < 0) : ∃ k, whoIx l s = (k : Nat) ∧ ∃ hk : k < l.length, l[k] = s := by
  unfold whoIx at h ⊢
  split
  · rename_i q
    refine ⟨_, rfl, q, ?_⟩
    have := List.findIdx_getElem (w := q)
    simpa using this
  · rename_i q
    rw [if_neg q] at h
    exact absurd (by decide) h
theorem Rel.leave (h : Rel g r) (ho : g.Ok N) (s : ByteArray) : (g.leave s).1 = (r.leave s).1 ∧ Rel (g.leave s).2 (r.leave s).2 := by
  unfold GS.leave RG.leave
  have hix := h.ix s
  by_cases h2 : g.is s = true
  · have hlt : ¬ whoIx r.who s < 0 := fun q => by rw [hix.1 q] at h2; cases h2
    rw [if_pos h2, if_neg hlt]
    refine ⟨rfl, ?_⟩
    obtain ⟨k, hk, hkl, hks⟩ := whoIx_get hlt
    rw [hk]
    simp only [Int.toNat_natCast]
    have hnd : r.who.Nodup := h.whoS.imp (fun q e => by rw [e] at q; exact absurd q (List.lt_irrefl _))
    have hsp : r.who = r.who.take k ++ s :: r.who.drop (k + 1) := by
      conv => lhs; rw [← List.take_append_drop k r.who, List.drop_eq_getElem_cons hkl, hks]
    have hmem : ∀ t, t ∈ r.who.take k ++ r.who.drop (k + 1) ↔ t ∈ r.who ∧ t ≠ s := fun t => by
      have hn2 := hnd
      rw [hsp] at hn2
      obtain ⟨_, n2, n3⟩ := List.nodup_append.1 hn2
      have n4 := List.nodup_cons.1 n2
      constructor
      · intro q
        rcases List.mem_append.1 q with q | q
        · exact ⟨List.mem_of_mem_take q, fun e => n3 t q s (by simp) (by rw [e])⟩
        · exact ⟨List.mem_of_mem_drop q, fun e => n4.1 (by rw [← e]; exact q)⟩
      · rintro ⟨q, e⟩
        rw [hsp] at q
        rcases List.mem_append.1 q with q | q
        · exact List.mem_append_left _ q
        · rcases List.mem_cons.1 q with q | q
          · exact absurd q e
          · exact List.mem_append_right _ q
    have hfl : ∀ t, (aget (adel g.flight s) t).getD [] = if s = t then [] else g.fl t := fun t => by
      rw [aget_adel ho.nod]
      split
      · rfl
      · rfl
    refine h.map (g' := { g with waiting := (g.fl s).foldl insL g.waiting, flight := adel g.flight s }) (leaveI s) (fun x _ => by unfold leaveI; split <;> rfl) ⟨rfl, rfl, rfl, rfl⟩ ?_ (fun t => ?_) (fun t ht => h.whoN t ((hmem t).1 ht).1) (fun x hx => ?_) h.tr0 h.nod
    · refine List.Pairwise.sublist ?_ h.whoS
      conv => rhs; rw [hsp]
      exact List.Sublist.append (List.Sublist.refl _) (List.sublist_cons_self _ _)
    · rw [hmem, h.whoM]
      unfold GS.is
      simp only
      rw [aget_adel ho.nod]
      by_cases q : s = t
      · simp [q]
      · rw [if_neg q]
        exact ⟨fun z => z.1, fun z => ⟨z, fun y => q y.symm⟩⟩
    · have hp := h.pt x hx
      have hw : x.n ∈ (g.fl s).foldl insL g.waiting ↔ (x.st = 2 ∧ x.own = s) ∨ x.st = 1 := by rw [mem_foldl_insL, hp.fl s, hp.wa]
      have hf : ∀ t, x.n ∈ (aget (adel g.flight s) t).getD [] ↔ (s ≠ t ∧ x.st = 2 ∧ x.own = t) := fun t => by
        rw [hfl]
        split
        · rename_i e
          simp [e]
        · rename_i e
          rw [hp.fl t]
          simp [e]
      unfold leaveI
      split
      · rename_i q
        refine ⟨?_, ?_, ?_, ?_, fun t => ?_, ?_, ?_⟩
        · exact ⟨fun _ => rfl, fun _ => hw.2 (.inl q)⟩
        · exact ⟨fun z => absurd (hp.pa.1 z) (by omega), fun z => absurd z (by simp)⟩
        · exact ⟨fun z => absurd (hp.ac.1 z) (by omega), fun z => absurd z (by simp)⟩
        · exact ⟨fun z => absurd (hp.sk.1 z) (by omega), fun z => absurd z (by simp)⟩
        · exact ⟨fun z => absurd ((hf t).1 z) (fun ⟨y1, _, y3⟩ => y1 (q.2.symm.trans y3)), fun z => absurd z.1 (by simp)⟩
        · show g.tr x.n = _
          rw [hp.tr, q.1]
          simp
        · exact ⟨by simp, by simp⟩
      · rename_i q
        refine ⟨?_, hp.pa, hp.ac, hp.sk, fun t => ?_, hp.tr, hp.st⟩
        · exact hw.trans ⟨fun z => z.resolve_left q, .inr⟩
        · exact (hf t).trans ⟨fun z => z.2, fun z => ⟨fun e => q ⟨z.1, by rw [z.2, e]⟩, z⟩⟩
  · have h2' : g.is s = false := by simpa using h2
    rw [if_neg h2, if_pos (hix.2 h2')]
    exact ⟨rfl, h⟩
end
end Go.Proofs.YthjgplgfcbhihaaGreat
/- What a group does, the document's group does: Feed, Next, Replay. No program is named. -/
set_option linter.unusedVariables false
set_option linter.unusedSimpArgs false
namespace Go.Proofs.YthjgplgfcbhihaaGreat
open Go.RowKit
theorem sum_add {α : Type} (K : List α) (f g : α → Nat) : (K.map (fun s => f s + g s)).sum = (K.map f).sum + (K.map g).sum := by
  induction K with
  | nil => rfl
  | cons x K ih => simp only [List.map_cons, List.sum_cons, ih]; omega
theorem sum_zero {α : Type} (K : List α) : (K.map (fun _ : α => 0)).sum = 0 := by
  induction K with
  | nil => rfl
  | cons x K ih => simp [ih]
theorem sum_one {α : Type} [DecidableEq α] {K : List α} (hK : K.Nodup) {a : α} (ha : a ∈ K) : (K.map (fun s => if a = s then 1 else 0)).sum = 1 := by
  induction K with
  | nil => cases ha
  | cons x K ih =>
    obtain ⟨h1, h2⟩ := List.nodup_cons.1 hK
    simp only [List.map_cons, List.sum_cons]
    by_cases e : a = x
    · subst e
      have : (K.map (fun s => if a = s then 1 else 0)) = K.map (fun _ => 0) := List.map_congr_left (fun s hs => if_neg (fun q => h1 (by rw [q]; exact hs)))
      rw [this, sum_zero, if_pos rfl]
    · rw [if_neg e, ih h2 ((List.mem_cons.1 ha).resolve_left e)]
theorem sum_count {K : List ByteArray} (hK : K.Nodup) : ∀ L : List Item, (∀ x ∈ L, x.st = 2 → x.own ∈ K) → (K.map (fun s => ((L.filter (pList 2 s)).map (·.n)).length)).sum = L.countP (fun x => x.st == 2)
  | [], _ => by simpa using sum_zero K
  | x :: L, h => by
    have ih := sum_count hK L (fun y hy => h y (by simp [hy]))
    have e : (K.map (fun s => (((x :: L).filter (pList 2 s)).map (·.n)).length)) = K.map (fun s => (if x.st = 2 ∧ x.own = s then 1 else 0) + ((L.filter (pList 2 s)).map (·.n)).length) := List.map_congr_left (fun s _ => by
      rw [List.filter_cons]
      by_cases q : x.st = 2 ∧ x.own = s
      · rw [if_pos q, if_pos (by simp [pList, q.1, q.2])]
        simp only [List.map_cons, List.length_cons]
        omega
      · rw [if_neg q, if_neg (by simp [pList]; exact fun a b => q ⟨a, b⟩)]
        omega)
    rw [e, sum_add, ih, List.countP_cons]
    by_cases q : x.st = 2
    · have := sum_one hK (h x (by simp) q)
      have e2 : (K.map (fun s => if x.st = 2 ∧ x.own = s then 1 else 0)) = K.map (fun s => if x.own = s then 1 else 0) := List.map_congr_left (fun s _ => by simp [q])
      rw [e2, this]
      simp [q]
      omega
    · have e2 : (K.map (fun s => if x.st = 2 ∧ x.own = s then 1 else 0)) = K.map (fun _ => 0) := List.map_congr_left (fun s _ => by simp [q])
      rw [e2, sum_zero]
      simp [q]
theorem list_len (r : RG) (st : Int) (a : ByteArray) : (r.list st a).length = r.l.countP (pList st a) := by
  unfold RG.list
  rw [List.length_map, List.countP_eq_length_filter]
theorem count_eq {α : Type} {p q : α → Bool} {l : List α} (h : ∀ x ∈ l, p x = q x) : l.countP p = l.countP q := List.countP_congr (fun x hx => by rw [h x hx])
section
variable {g g' : GS} {r : RG} {N : Nat}
theorem Rel.ownIn (h : Rel g r) {x : Item} (hx : x ∈ r.l) (hs : x.st = 2) : g.is x.own = true := by
  have := ((h.pt x hx).fl x.own).2 ⟨hs, rfl⟩
  unfold GS.fl at this
  unfold GS.is
  cases hq : aget g.flight x.own with
  | none => rw [hq] at this; cases this
  | some l => rfl
theorem Rel.flights (h : Rel g r) (ho : g.Ok N) : (g.flight.map (fun p => p.2.length)).sum = r.l.countP (fun x => x.st == 2) := by
  have hn : (g.flight.map (·.1)).Nodup := ho.nod
  rw [← sum_count hn r.l (fun x hx hs => is_mem.1 (h.ownIn hx hs))]
  congr 1
  rw [List.map_map]
  refine List.map_congr_left (fun p hp => ?_)
  show p.2.length = (r.list 2 p.1).length
  rw [← h.fl_eq ho p.1]
  unfold GS.fl
  rw [aget_of_mem ho.nod (v := p.2) (by exact hp)]
  rfl
theorem Rel.openN (h : Rel g r) (ho : g.Ok N) : g.openN = r.l.countP pOpen := by
  unfold GS.openN
  rw [h.flights ho, h.wa_eq ho emptyB, list_len]
  have hst : ∀ x ∈ r.l, 1 ≤ x.st := fun x hx => (h.pt x hx).st.1
  generalize r.l = L at hst
  clear h
  induction L with
  | nil => rfl
  | cons x L ih =>
    have := ih (fun y hy => hst y (by simp [hy]))
    have h1 := hst x (by simp)
    rw [List.countP_cons, List.countP_cons, List.countP_cons, ← this]
    by_cases e1 : x.st = 1
    · simp [pList, pOpen, e1]; omega
    · by_cases e2 : x.st = 2
      · simp [pList, pOpen, e2]; omega
      · have : ¬ x.st ≤ 2 := by omega
        simp [pList, pOpen, e1, e2, this]
theorem addI_get : ∀ (a : Int) (k j : Nat) (h : j < (addI a k).length), (addI a k)[j] = ⟨a + j, 1, 0, emptyB⟩
  | a, 0, j, h => absurd h (Nat.not_lt_zero _)
  | a, k + 1, j, h => by
    have hl : ∀ k, (addI a k).length = k := fun k => by
      induction k with
      | zero => rfl
      | succ k ih => simp [addI, ih]
    simp only [addI]
    by_cases e : j < k
    · rw [List.getElem_append_left (by rw [hl]; exact e)]
      exact addI_get a k j _
    · have : j = k := by
        rw [hl] at h
        omega
      subst this
      rw [List.getElem_append_right (by rw [hl]; exact Nat.le_refl _)]
      simp [hl]
theorem addI_length (a : Int) (k : Nat) : (addI a k).length = k := by
  induction k with
  | zero => rfl
  | succ k ih => simp [addI, ih]
theorem Rel.feed (h : Rel g r) (ho : g.Ok N) (n : Int) : (g.feed n).1 = (r.feed n).1 ∧ Rel (g.feed n).2 (r.feed n).2 := by
  have hop := h.openN ho
  unfold GS.feed RG.feed RG.feedN
  rw [← hop]
  by_cases h1 : n < 1
  · rw [if_pos h1, show (max (min n (1000 - (g.openN : Int))) 0).toNat = 0 by omega]
    refine ⟨rfl, ?_⟩
    simpa [addI] using h
  · rw [if_neg h1]
    obtain ⟨k, hk⟩ : ∃ k, k = (max (min n (1000 - (g.openN : Int))) 0).toNat := ⟨_, rfl⟩
    dsimp only
    rw [← hk, GS.feed_wait ho]
    refine ⟨rfl, ⟨h.base, h.whoS, h.whoM, h.whoN, fun j hj => ?_, ?_, fun x hx => ?_, fun v hv => h.tr0 v (by simp only at hv; omega), h.nod⟩⟩
    · simp only
      by_cases e : j < r.l.length
      · rw [List.getElem_append_left e]
        exact h.nums j e
      · rw [List.getElem_append_right (by omega), addI_get]
        simp only
        rw [h.base.1]
        omega
    · simp only [List.length_append, addI_length]
      have := h.nx
      omega
    · simp only at hx
      rcases List.mem_append.1 hx with hx | hx
      · have hp := h.pt x hx
        have hlo := h.lo hx
        refine ⟨?_, hp.pa, hp.ac, hp.sk, hp.fl, hp.tr, hp.st⟩
        simp only [List.mem_append, rangeUp_mem]
        exact ⟨fun q => q.elim hp.wa.1 (fun z => by omega), fun q => .inl (hp.wa.2 q)⟩
      · obtain ⟨j, hj, rfl⟩ := List.getElem_of_mem hx
        rw [addI_get]
        rw [addI_length] at hj
        have hnx := h.nx
        have hb := h.base.1
        have hno : ∀ {l : List Int}, Fed g.from_ g.next l → (r.from_ + r.l.length + j) ∉ l := fun {l} hf q => by
          have := (hf.mem _ q).2
          omega
        refine ⟨?_, ?_, ?_, ?_, fun s => ?_, ?_, by simp⟩
        · simp only [List.mem_append, rangeUp_mem]
          exact ⟨fun _ => by first | rfl | trivial, fun _ => .inr (by omega)⟩
        · exact ⟨fun q => absurd q (hno ho.pa), fun q => absurd q (by simp)⟩
        · exact ⟨fun q => absurd q (hno ho.ac), fun q => absurd q (by simp)⟩
        · exact ⟨fun q => absurd q (hno ho.sk), fun q => absurd q (by simp)⟩
        · exact ⟨fun q => absurd q (hno (ho.flOf s)), fun q => absurd q.1 (by simp)⟩
        · show g.tr _ = _
          rw [h.tr0 _ (.inr (by simp only; omega))]
          simp
theorem tr_foldl : ∀ (D : List Int) (T : List (Int × Int)), ANodup T → ANodup (D.foldl adel T) ∧ ∀ v, (aget (D.foldl adel T) v).getD 0 = if v ∈ D then 0 else (aget T v).getD 0
  | [], T, h => ⟨h, fun v => by simp⟩
  | d :: D, T, h => by
    obtain ⟨h1, h2⟩ := tr_foldl D (adel T d) (adel_nodup h d)
    refine ⟨h1, fun v => ?_⟩
    rw [List.foldl_cons, h2, aget_adel h]
    by_cases e : v ∈ D
    · simp [e]
    · rw [if_neg e]
      by_cases e2 : d = v
      · simp [e2]
      · rw [if_neg e2, if_neg (by simp [e]; exact fun q => e2 q.symm)]
theorem Rel.replay (h : Rel g r) (ho : g.Ok N) : g.replay.1 = r.replay.1 ∧ Rel g.replay.2 r.replay.2 := by
  unfold GS.replay RG.replay
  refine ⟨?_, ?_⟩
  · simp only
    rw [h.pa_eq ho emptyB, list_len]
    congr 1
    exact count_eq (fun x _ => by simp [pList])
  · obtain ⟨t1, t2⟩ := tr_foldl g.parked g.tries h.nod
    refine h.map (g' := { g with parked := [], waiting := g.parked.foldl insL g.waiting, tries := g.parked.foldl adel g.tries }) replayI (fun x _ => by unfold replayI; split <;> rfl) ⟨rfl, rfl, rfl, rfl⟩ h.whoS h.whoM h.whoN (fun x hx => ?_) (fun v hv => ?_) t1
    · have hp := h.pt x hx
      have hw : x.n ∈ g.parked.foldl insL g.waiting ↔ x.st = 4 ∨ x.st = 1 := by rw [mem_foldl_insL, hp.pa, hp.wa]
      have ht : GS.tr { g with parked := [], waiting := g.parked.foldl insL g.waiting, tries := g.parked.foldl adel g.tries } x.n = if x.st = 4 then 0 else g.tr x.n := by
        show (aget (g.parked.foldl adel g.tries) x.n).getD 0 = _
        rw [t2]
        simp only [hp.pa]
        rfl
      unfold replayI
      split
      · rename_i q
        refine ⟨?_, ?_, ?_, ?_, fun t => ?_, ?_, by simp⟩
        · exact ⟨fun _ => rfl, fun _ => hw.2 (.inl q)⟩
        · exact ⟨fun z => absurd z (by simp), fun z => absurd z (by simp)⟩
        · exact ⟨fun z => absurd (hp.ac.1 z) (by omega), fun z => absurd z (by simp)⟩
        · exact ⟨fun z => absurd (hp.sk.1 z) (by omega), fun z => absurd z (by simp)⟩
        · exact ⟨fun z => absurd ((hp.fl t).1 z).1 (by omega), fun z => absurd z.1 (by simp)⟩
        · rw [show (⟨x.n, 1, 0, x.own⟩ : Item).n = x.n from rfl, ht, if_pos q]
          simp
      · rename_i q
        refine ⟨?_, ?_, hp.ac, hp.sk, hp.fl, ?_, hp.st⟩
        · exact hw.trans ⟨fun z => z.resolve_left q, .inr⟩
        · exact ⟨fun z => absurd z (by simp), fun z => absurd z q⟩
        · rw [ht, if_neg q]
          exact hp.tr
    · show (aget (g.parked.foldl adel g.tries) v).getD 0 = 0
      rw [t2]
      split
      · rfl
      · exact h.tr0 v hv
end
end Go.Proofs.YthjgplgfcbhihaaGreat
/- What a group does, the document's group does: Next, Give, Tidy. No program is named. -/
set_option linter.unusedVariables false
set_option linter.unusedSimpArgs false
namespace Go.Proofs.YthjgplgfcbhihaaGreat
open Go.RowKit
section
variable {g g' : GS} {r : RG} {N : Nat}
theorem set_map (h : Rel g r) {i : Nat} (hi : i < r.l.length) (y : Item) : r.l.set i y = r.l.map (fun z => if z.n = r.l[i].n then y else z) := by
  apply List.ext_getElem
  · simp
  · intro k h1 h2
    have hk : k < r.l.length := by simpa using h1
    rw [List.getElem_map, List.getElem_set]
    by_cases e : i = k
    · subst e
      simp
    · rw [if_neg e, if_neg]
      intro q
      rw [h.nums k hk, h.nums i hi] at q
      omega
theorem fl_none {g : GS} {s : ByteArray} (h : g.is s = false) : g.fl s = [] := by
  unfold GS.is at h
  unfold GS.fl
  cases hx : aget g.flight s with
  | none => rfl
  | some l => rw [hx] at h; cases h
theorem Rel.next (h : Rel g r) (ho : g.Ok N) (s : ByteArray) : (g.next1 s).1 = (r.next s).1 ∧ Rel (g.next1 s).2 (r.next s).2 := by
  by_cases hc : g.is s = false ∨ g.buffer ≤ (g.fl s).length
  · have e1 : g.next1 s = ((0, false), g) := by unfold GS.next1 GS.take1; rw [if_pos hc]
    have e2 : r.next s = ((0, false), r) := next_none (hc.imp (h.ix s).2 (fun q => by rw [h.base.2.1, ← h.fl_eq ho s]; exact q))
    rw [e1, e2]
    exact ⟨rfl, h⟩
  have hno : ¬ (whoIx r.who s < 0 ∨ r.buf ≤ (r.list 2 s).length) := fun q => hc (q.imp (h.ix s).1 (fun q => by rw [h.base.2.1, ← h.fl_eq ho s] at q; exact q))
  have his : g.is s = true := by
    cases q : g.is s
    · exact absurd (.inl q) hc
    · rfl
  have hwe := h.wa_eq ho emptyB
  have e1 : g.next1 s = match (match g.waiting with | [] => none | n :: w => some (n, { g with waiting := w, flight := aput g.flight s (insL (g.fl s) n), tries := aput g.tries n (g.tr n + 1) })) with | none => ((0, false), g) | some t => ((t.1, true), t.2) := by
    unfold GS.next1 GS.take1
    rw [if_neg hc]
    rfl
  cases hw : g.waiting with
  | nil =>
    rw [e1, hw]
    have e2 : r.next s = ((0, false), r) := next_end hno (fun k hl => by
      have hne : r.l[k].n ∉ g.waiting := by rw [hw]; simp
      have := (h.pt _ (List.getElem_mem hl)).wa
      rw [beq_eq_false_iff_ne]
      exact fun q => hne (this.2 q))
    rw [e2]
    exact ⟨rfl, h⟩
  | cons n w =>
    rw [e1, hw]
    have hris := ho.wa.ris
    rw [hw] at hris
    obtain ⟨hri1, hri2⟩ := List.pairwise_cons.1 hris
    have hfd : ∃ x, r.l.find? (pList 1 emptyB) = some x ∧ x.n = n := by
      rw [hw] at hwe
      unfold RG.list at hwe
      rw [← List.head?_filter]
      cases hf : r.l.filter (pList 1 emptyB) with
      | nil => rw [hf] at hwe; cases hwe
      | cons x t => rw [hf] at hwe; injection hwe with q1 q2; exact ⟨x, rfl, q1.symm⟩
    obtain ⟨x, hfx, hxn⟩ := hfd
    obtain ⟨hx1, i, hi, hxi, hbef⟩ := List.find?_eq_some_iff_getElem.1 hfx
    have hst : x.st = 1 := by simpa [pList] using hx1
    have e2 := next_hit hno hi (fun k hk hl => by
      have := hbef k hk
      simp [pList] at this
      rw [beq_eq_false_iff_ne]
      exact this) (by rw [hxi, hst]; rfl)
    rw [e2, hxi]
    refine ⟨by simp only; rw [hxn], ?_⟩
    rw [set_map h hi, hxi]
    have hxm : x ∈ r.l := by rw [← hxi]; exact List.getElem_mem _
    have hpx := h.pt x hxm
    have hlx := h.lo hxm
    rw [hxn] at hlx
    have htr : ∀ v, GS.tr { g with waiting := w, flight := aput g.flight s (insL (g.fl s) n), tries := aput g.tries n (g.tr n + 1) } v = if n = v then g.tr n + 1 else g.tr v := fun v => by
      show (aget (aput g.tries n (g.tr n + 1)) v).getD 0 = _
      rw [aget_aput]
      split <;> rfl
    have hfl : ∀ t, GS.fl { g with waiting := w, flight := aput g.flight s (insL (g.fl s) n), tries := aput g.tries n (g.tr n + 1) } t = if s = t then insL (g.fl s) n else g.fl t := fun t => fl_aput g s t _
    refine h.map (g' := { g with waiting := w, flight := aput g.flight s (insL (g.fl s) n), tries := aput g.tries n (g.tr n + 1) }) (fun z => if z.n = x.n then ⟨x.n, 2, x.tries + 1, s⟩ else z) (fun z _ => by
      by_cases q : z.n = x.n
      · rw [if_pos q]; exact q.symm
      · rw [if_neg q]) ⟨rfl, rfl, rfl, rfl⟩ h.whoS (fun t => ?_) h.whoN (fun z hz => ?_) (fun v hv => ?_) (aput_nodup h.nod _ _)
    · rw [h.whoM]
      unfold GS.is
      simp only
      rw [is_aput g s t _ his]
      rfl
    · by_cases e : z.n = x.n
      · rw [if_pos e]
        refine ⟨?_, ?_, ?_, ?_, fun t => ?_, ?_, by simp⟩
        · exact ⟨fun q => absurd (hri1 x.n q) (by omega), fun q => absurd q (by simp)⟩
        · exact ⟨fun q => absurd (hpx.pa.1 q) (by omega), fun q => absurd q (by simp)⟩
        · exact ⟨fun q => absurd (hpx.ac.1 q) (by omega), fun q => absurd q (by simp)⟩
        · exact ⟨fun q => absurd (hpx.sk.1 q) (by omega), fun q => absurd q (by simp)⟩
        · rw [hfl]
          split
          · rename_i q
            exact ⟨fun _ => ⟨rfl, q⟩, fun _ => mem_insL.2 (.inl hxn)⟩
          · rename_i q
            exact ⟨fun y => absurd ((hpx.fl t).1 y).1 (by omega), fun y => absurd y.2 q⟩
        · rw [htr]
          simp only
          rw [if_pos hxn.symm, ← hxn, hpx.tr, hst]
          simp
      · rw [if_neg e]
        have hp := h.pt z hz
        have hzn : z.n ≠ n := by rw [← hxn]; exact e
        refine ⟨?_, hp.pa, hp.ac, hp.sk, fun t => ?_, ?_, hp.st⟩
        · rw [← hp.wa, hw]
          simp [hzn]
        · rw [hfl, ← hp.fl t]
          split
          · rename_i q
            rw [← q, mem_insL]
            exact ⟨fun y => y.resolve_left hzn, .inr⟩
          · rfl
        · rw [htr, if_neg (fun q => hzn q.symm)]
          exact hp.tr
    · rw [htr, if_neg (by omega)]
      exact h.tr0 v hv
/-! ## what is given back -/
theorem takeGo_mem : ∀ (l f : List Int), Ris f → (∀ v, v ∈ (GS.takeGo f l).2 ↔ v ∈ l ∧ v ∈ f) ∧ (∀ v, v ∈ (GS.takeGo f l).1 ↔ v ∈ f ∧ v ∉ l)
  | [], f, _ => ⟨fun v => by simp [GS.takeGo], fun v => by simp [GS.takeGo]⟩
  | n :: l, f, hf => by
    unfold GS.takeGo
    split
    · rename_i hc
      have hn : n ∈ f := by simpa using hc
      obtain ⟨h1, h2⟩ := takeGo_mem l (remL f n) (ris_remL hf)
      refine ⟨fun v => ?_, fun v => ?_⟩
      · simp only [List.mem_cons, h1, mem_remL hf]
        by_cases e : v = n
        · simp [e, hn]
        · simp [e]
      · simp only [h2, List.mem_cons, mem_remL hf]
        constructor
        · rintro ⟨⟨q1, q2⟩, q3⟩
          exact ⟨q1, fun q => q.elim q2 q3⟩
        · rintro ⟨q1, q2⟩
          exact ⟨⟨q1, fun q => q2 (.inl q)⟩, fun q => q2 (.inr q)⟩
    · rename_i hc
      have hn : n ∉ f := by simpa using hc
      obtain ⟨h1, h2⟩ := takeGo_mem l f hf
      refine ⟨fun v => ?_, fun v => ?_⟩
      · rw [h1]
        simp only [List.mem_cons]
        exact ⟨fun q => ⟨.inr q.1, q.2⟩, fun q => ⟨q.1.resolve_left (fun e => hn (by rw [← e]; exact q.2)), q.2⟩⟩
      · rw [h2]
        simp only [List.mem_cons]
        exact ⟨fun q => ⟨q.1, fun y => y.elim (fun e => hn (by rw [← e]; exact q.1)) q.2⟩, fun q => ⟨q.1, fun y => q.2 (.inr y)⟩⟩
theorem giveI_st (ret how : Int) (x : Item) : (giveI ret how x).st ≠ 2 := by
  unfold giveI
  simp only
  split
  · decide
  split
  · decide
  split
  · decide
  split <;> decide
/-- Moved by a list of numbers at s. -/
def moved (ret how : Int) (s : ByteArray) (l : List Int) (x : Item) : Item := if x.n ∈ l ∧ x.st = 2 ∧ x.own = s then giveI ret how x else x
theorem giveGo_is (ret how : Int) (s : ByteArray) (hs : s ≠ emptyB) : ∀ (l f : List Int) (L : List Item), Ris f → L.Pairwise (fun x y => x.n < y.n) → (∀ x ∈ L, x.n ∈ f ↔ x.st = 2 ∧ x.own = s) → (∀ v ∈ f, ∃ x ∈ L, x.n = v) →
    (giveGo ret how s l L).1 = (GS.takeGo f l).2.length ∧ (giveGo ret how s l L).2 = L.map (moved ret how s l)
  | [], f, L, _, _, _, _ => ⟨rfl, by simp only [giveGo]; exact (List.map_id'' (fun x => by simp [moved]) L).symm⟩
  | v :: l, f, L, hf, hL, hm, he => by
    have hhit : ∀ x ∈ L, pHit v s x = true ↔ x.n = v ∧ x.n ∈ f := fun x hx => by
      rw [hm x hx]
      simp [pHit, hs, and_assoc]
    have hmv : ∀ x ∈ L, moved ret how s l (giveAt ret how v s x) = moved ret how s (v :: l) x := fun x hx => by
      unfold giveAt
      by_cases q : pHit v s x = true
      · have q2 := (hhit x hx).1 q
        have q3 := (hm x hx).1 q2.2
        rw [if_pos q]
        unfold moved
        rw [if_neg (fun z => giveI_st ret how x z.2.1), if_pos ⟨by simp [q2.1], q3⟩]
      · rw [if_neg q]
        unfold moved
        by_cases q3 : x.st = 2 ∧ x.own = s
        · have hnv : x.n ≠ v := fun e => q ((hhit x hx).2 ⟨e, (hm x hx).2 q3⟩)
          simp [q3, hnv]
        · rw [if_neg (fun z => q3 z.2), if_neg (fun z => q3 z.2)]
    unfold GS.takeGo
    split
    · rename_i hc
      have hv : v ∈ f := by simpa using hc
      obtain ⟨x0, hx0, hxv⟩ := he v hv
      have hn1 : ∀ x, (giveAt ret how v s x).n = x.n := fun x => by unfold giveAt; split <;> rfl
      have ih := giveGo_is ret how s hs l (remL f v) (L.map (giveAt ret how v s)) (ris_remL hf) (by rw [List.pairwise_map]; exact hL.imp (fun q => by rw [hn1, hn1]; exact q)) (fun y hy => by
        obtain ⟨x, hx, rfl⟩ := List.mem_map.1 hy
        rw [hn1, mem_remL hf]
        unfold giveAt
        by_cases q : pHit v s x = true
        · rw [if_pos q]
          have := ((hhit x hx).1 q).1
          exact ⟨fun z => absurd this z.2, fun z => absurd z.1 (giveI_st ret how x)⟩
        · rw [if_neg q, hm x hx]
          exact ⟨fun z => z.1, fun z => ⟨z, fun e => q ((hhit x hx).2 ⟨e, (hm x hx).2 z⟩)⟩⟩) (fun u hu => by
        obtain ⟨x, hx, hxu⟩ := he u ((mem_remL hf).1 hu).1
        exact ⟨_, List.mem_map_of_mem hx, by rw [hn1]; exact hxu⟩)
      have hcnt : L.countP (pHit v s) = 1 := by
        rw [List.countP_eq_length_filter]
        have hsub : ∀ x ∈ L.filter (pHit v s), x = x0 := fun x hx => by
          obtain ⟨q1, q2⟩ := List.mem_filter.1 hx
          have q3 := ((hhit x q1).1 q2).1
          obtain ⟨i, hi, rfl⟩ := List.getElem_of_mem q1
          obtain ⟨j, hj, rfl⟩ := List.getElem_of_mem hx0
          rcases Nat.lt_trichotomy i j with z | z | z
          · have := List.pairwise_iff_getElem.1 hL i j hi hj z
            omega
          · subst z; rfl
          · have := List.pairwise_iff_getElem.1 hL j i hj hi z
            omega
        have hmem : x0 ∈ L.filter (pHit v s) := List.mem_filter.2 ⟨hx0, (hhit x0 hx0).2 ⟨hxv, by rw [hxv]; exact hv⟩⟩
        have hp := List.Pairwise.sublist (List.filter_sublist (p := pHit v s)) hL
        match hfl : L.filter (pHit v s) with
        | [] => rw [hfl] at hmem; cases hmem
        | [y] => rfl
        | y :: z :: t =>
          rw [hfl] at hsub hp
          have e1 := hsub y (by simp)
          have e2 := hsub z (by simp)
          have := (List.pairwise_cons.1 hp).1 z (by simp)
          rw [e1, e2] at this
          omega
      refine ⟨?_, ?_⟩
      · simp only [giveGo, hcnt, ih.1, List.length_cons]
        omega
      · simp only [giveGo, ih.2, List.map_map]
        exact List.map_congr_left (fun x hx => hmv x hx)
    · rename_i hc
      have hv : v ∉ f := by simpa using hc
      have hno : ∀ x ∈ L, pHit v s x = false := fun x hx => by
        cases q : pHit v s x
        · rfl
        · have := (hhit x hx).1 q
          exact absurd (by rw [← this.1]; exact this.2) hv
      have hid : L.map (giveAt ret how v s) = L := by
        conv => rhs; rw [← List.map_id L]
        exact List.map_congr_left (fun x hx => by unfold giveAt; rw [hno x hx]; rfl)
      have ih := giveGo_is ret how s hs l f L hf hL hm he
      refine ⟨?_, ?_⟩
      · simp only [giveGo, hid, ih.1]
        rw [List.countP_eq_zero.2 (fun x hx => by rw [hno x hx]; simp)]
        omega
      · simp only [giveGo, hid, ih.2]
        exact List.map_congr_left (fun x hx => by rw [← hmv x hx]; unfold giveAt; rw [hno x hx]; rfl)
end
end Go.Proofs.YthjgplgfcbhihaaGreat
