/- Contract: Nak. -/
import Derived.Test.YthjgplgfcbhihaaGc13
set_option linter.unusedVariables false
set_option linter.unusedSimpArgs false
namespace Go.Proofs.Ythjgplgfcbhihaa
open Go.RowKit Go Go.Sort Go.Lib
def nakI (how : Int) (T : GS) (D : List Int) (i : Nat) : GS := (D.take i).foldl (GS.nak1 how) T
theorem nakI_succ (how : Int) (T : GS) (D : List Int) {i : Nat} (h : i < D.length) : nakI how T D (i + 1) = GS.nak1 how (nakI how T D i) D[i] := foldl_take_succ _ _ _ _ h
theorem nakI_ok {how : Int} {T : GS} {N : Nat} {D : List Int} (h : T.Ok N) (hD : ∀ x ∈ D, T.from_ ≤ x ∧ x < T.next) (i : Nat) : (nakI how T D i).Ok N :=
  GS.nakAll_ok how _ h (fun x hx => hD x (List.mem_of_mem_take hx))
section
variable {w : World} {gb fb tb N : Nat} {vw vp va vs : Value} {pf : ByteArray → Value} {g : GS}
theorem kept_mapT {b : Nat} {kv : List (Int × Value)} (h : MapIs (Value.int .i64) w b kv) (p : Kept w [] w) : MapIs (Value.int .i64) p.W b kv := by
  obtain ⟨S, h1, h2⟩ := p.h
  exact h.only h1 (fun q => by have := (h2 b q).1; have := h.lt; omega)
theorem lookT (h : GAt w gb fb tb vw vp va vs pf g) (n : Int) (p : Kept w [] w) : (Instr.lookup 51 (.map (some tb)) (.int .i64 n) false).run Try.prog p.W = .ok (.int .i64 (g.tr n)) p.W := by
  have := (kept_mapT h.tries p).lookup (P := Try.prog) (keyEnc_int .i64) Try.underlying51 Try.underlying3 (zeroInt _) n false
  rw [triesOf] at this
  exact this
set_option maxRecDepth 100000 in
set_option maxHeartbeats 2000000 in
theorem nak3_any (h : GAt w gb fb tb vw vp va vs pf g) (hok : g.Ok N) (hN : N ≤ 10000) (who : ByteArray) {lv : Value} {l : List Int} (hl : Slc w 1 lv l.length (ints l)) (hlb : ∀ b, lv.ownBlock = some b → b ∉ hG gb fb tb (rowsOf vw vp va vs pf g) ∨ l = []) (hll : l.length ≤ 1000000) :
    Calls Try.prog 20 #[.pointer (some ⟨gb, 0, none⟩), .string who, .int .i64 3, lv] w fun e w' => e = .returned (.int .i64 (g.nak who 3 l).1) ∧ GOut w (hG gb fb tb (rowsOf vw vp va vs pf g)) gb fb tb (g.nak who 3 l).2 w' := by
  have HT := Lib.hid (take_any h hok hN who hl hlb hll)
  obtain ⟨hTok, hTm, hTf, hTn⟩ := GS.take_ok hok who l
  rw [← hTf, ← hTn] at hTm
  have hTl := take_len (g := g) who l
  have hack : g.nak who 3 l = (((g.take who l).1.length : Int), if (g.take who l).1 = [] then nakI 3 (g.take who l).2 (g.take who l).1 (g.take who l).1.length else (nakI 3 (g.take who l).2 (g.take who l).1 (g.take who l).1.length).forget) := by
    unfold GS.nak nakI
    rw [List.take_length, if_neg (by decide)]
  rw [hack]
  obtain ⟨R, hR⟩ : ∃ R, R = g.take who l := ⟨_, rfl⟩
  rw [← hR] at HT hTok hTm hTl ⊢
  obtain ⟨D, T⟩ := R
  dsimp only at HT hTok hTm hTl ⊢
  obtain ⟨H, hH⟩ : ∃ H, H = hG gb fb tb (rowsOf vw vp va vs pf g) := ⟨_, rfl⟩
  rw [← hH] at HT ⊢
  obtain ⟨Z, hZ⟩ : ∃ Z, Z = (if D = [] then nakI 3 T D D.length else (nakI 3 T D D.length).forget) := ⟨_, rfl⟩
  rw [← hZ]
  have HZ := Lib.hid hZ
  clear hack hR hH hTf hTn hZ
  go_enter Try.func20, Try.ntmps20
  go_wp2_with (go_at_call 37; refine HT.out.mono ?_; rintro e w1 ⟨ov, vw1, vp1, va1, vs1, pf1, rfl, hO1, hA1, hSt1, hob1⟩; obtain ⟨Ao, co, rfl, _, _⟩ := own_form hO1)
  go_loopw [28] (fun iv wr => ∃ (i : Nat) (vw' vp' va' vs' : Value) (pf' : ByteArray → Value), i ≤ D.length ∧ iv = .int .i64 i ∧ GAt wr gb fb tb vw' vp' va' vs' pf' (nakI 3 T D i) ∧ Stepped w wr H (hG gb fb tb (rowsOf vw' vp' va' vs' pf' (nakI 3 T D i))) ∧ Beside wr (.slice Ao D.length co) D (hG gb fb tb (rowsOf vw' vp' va' vs' pf' (nakI 3 T D i)))) (fun iv _ => D.length - (intOf iv).toNat)
  case atStart => exact ⟨0, vw1, vp1, va1, vs1, pf1, Nat.zero_le _, rfl, hA1, hSt1, hO1, fun b hb => (hob1 b hb).2⟩
  case round =>
    obtain ⟨i, vw', vp', va', vs', pf', hil, rfl, hA, hSt, hBs⟩ := hrel
    have hGok := nakI_ok (how := 3) hTok hTm i
    by_cases hlt : i < D.length
    · have hnext := nakI_succ 3 T D hlt
      obtain ⟨A2, c2, e2, _, _, hel⟩ := hBs.own.slc.openI
      cases e2
      obtain ⟨bl, ol, rfl, hbl, hcl⟩ := hel i hlt
      obtain ⟨n, hn⟩ : ∃ n, n = D[i] := ⟨_, rfl⟩
      rw [← hn] at hnext hcl
      obtain ⟨G, hGe⟩ : ∃ G, G = nakI 3 T D i := ⟨_, rfl⟩
      rw [← hGe] at hnext hA hSt hBs hGok
      have hal := hGok.len hGok.sk
      have hAd := hA.only0 (Only.refl [] wr)
      have hown := hAd.ownS
      have hin := insert_any hown hGok.sk.ris (by omega) n
      have hset := fun (w4 : World) (v4 : Value) (kr : RowTo _ vs' w4 v4 (insL G.skipped n)) => hAd.setS kr
      have hgS : gb ∉ vs'.ownBlock.toList := fun q => (hAd.rowne gb (mem_blocksOf.2 ⟨(vs', G.skipped), by simp [rowsOf], by simpa using q⟩)).1 rfl
      have hB := hAd.blk
      have HIn := Lib.hid hin
      have HSet := Lib.hid hset
      have HSt := Lib.hid (hSt.then0 (Only.refl [] wr))
      have HBs := Lib.hid (hBs.step (Stepped.of (Only.refl [] wr) (by simp) (fun b hb => .inl hb) : Stepped _ _ (hG gb fb tb (rowsOf vw' vp' va' vs' pf' G)) (hG gb fb tb (rowsOf vw' vp' va' vs' pf' G))))
      have c8 : wr.cell? ⟨gb, 8, none⟩ = some vs' := hA.blk.cell 8
      obtain ⟨Aa, ca, rfl, _, _⟩ := own_form hown
      have HNext := Lib.hid hnext
      clear hnext hel hn hGe hin hset hown
      go_wp2_with (first
        | (
           go_at_call 35; refine HIn.out.mono ?_; rintro e w4 ⟨v4, rfl, kr4⟩
           obtain ⟨A4, c4', rfl, _, _⟩ := own_form kr4.own
           have q3 := HSet.out w4 _ kr4
           have hB4 := kr4.only.blk hB hgS
           have e4 : w4.cell? ⟨gb, 8, none⟩ = some (.slice Aa G.skipped.length ca) := hB4.cell 8
           have e9 : w4.cell? ⟨gb, 9, none⟩ = some (.map (some tb)) := hB4.cell 9
           have ef := fun j => hB4.free j
           have Q3 := Lib.hid q3
           clear q3
           have hm4 : MapIs (Value.int .i64) (w4.setCell ⟨gb, 8, none⟩ (.slice A4 (insL G.skipped n).length c4')) tb (G.tries.map fun p => (p.1, Value.int .i64 p.2)) := Q3.out.1.tries)
        | (at_delete; refine wpList_delete_is rfl 51 3 rfl (keyEnc_int .i64) Try.underlying51 Try.underlying3 n rfl rfl hm4 ?_; intro w5 hm5 hk5))
      rw [adel_mapk (fun _ k => Value.int .i64 k)] at hm5
      obtain ⟨h4, st4⟩ := Q3.out
      obtain ⟨h5, st5⟩ := h4.setT hk5 hm5
      go_wp2
      refine ⟨⟨i + 1, vw', vp', va', .slice A4 (insL G.skipped n).length c4', pf', hlt, by simp, ?_⟩, by simp [intOf]; omega⟩
      rw [HNext.out]
      exact ⟨h5, HSt.out.trans (st4.trans st5), (HBs.out.step st4).step st5⟩
    · have hie : i = D.length := by omega
      subst hie
      have hF := forget_any hA hGok hN
      have HF := Lib.hid hF
      clear hF
      by_cases hD0 : D = []
      · have hz := HZ.out
        rw [if_pos hD0] at hz
        have HZ2 := Lib.hid hz
        subst hD0
        clear hz
        go_wp2
        go_ret
        rw [HZ2.out]
        exact ⟨rfl, _, _, _, _, _, hA, hSt⟩
      · have hz := HZ.out
        rw [if_neg hD0] at hz
        have HZ2 := Lib.hid hz
        have hlp : 0 < D.length := List.length_pos_iff.2 hD0
        clear hD0 hz
        go_wp2_with (go_at_call 38; refine HF.out.mono ?_; rintro e w6 ⟨rfl, hout⟩)
        go_ret
        obtain ⟨a1, a2, a3, a4, a5, k1, k2⟩ := hout
        rw [HZ2.out]
        exact ⟨rfl, _, _, _, _, _, k1, hSt.trans k2⟩
set_option maxRecDepth 100000 in
set_option maxHeartbeats 2000000 in
theorem nak1_any (h : GAt w gb fb tb vw vp va vs pf g) (hok : g.Ok N) (hN : N ≤ 10000) (who : ByteArray) {lv : Value} {l : List Int} (hl : Slc w 1 lv l.length (ints l)) (hlb : ∀ b, lv.ownBlock = some b → b ∉ hG gb fb tb (rowsOf vw vp va vs pf g) ∨ l = []) (hll : l.length ≤ 1000000) :
    Calls Try.prog 20 #[.pointer (some ⟨gb, 0, none⟩), .string who, .int .i64 1, lv] w fun e w' => e = .returned (.int .i64 (g.nak who 1 l).1) ∧ GOut w (hG gb fb tb (rowsOf vw vp va vs pf g)) gb fb tb (g.nak who 1 l).2 w' := by
  have HT := Lib.hid (take_any h hok hN who hl hlb hll)
  obtain ⟨hTok, hTm, hTf, hTn⟩ := GS.take_ok hok who l
  rw [← hTf, ← hTn] at hTm
  have hTl := take_len (g := g) who l
  have hack : g.nak who 1 l = (((g.take who l).1.length : Int), if (g.take who l).1 = [] then nakI 1 (g.take who l).2 (g.take who l).1 (g.take who l).1.length else (nakI 1 (g.take who l).2 (g.take who l).1 (g.take who l).1.length).forget) := by
    unfold GS.nak nakI
    rw [List.take_length, if_neg (by decide)]
  rw [hack]
  obtain ⟨R, hR⟩ : ∃ R, R = g.take who l := ⟨_, rfl⟩
  rw [← hR] at HT hTok hTm hTl ⊢
  obtain ⟨D, T⟩ := R
  dsimp only at HT hTok hTm hTl ⊢
  obtain ⟨H, hH⟩ : ∃ H, H = hG gb fb tb (rowsOf vw vp va vs pf g) := ⟨_, rfl⟩
  rw [← hH] at HT ⊢
  obtain ⟨Z, hZ⟩ : ∃ Z, Z = (if D = [] then nakI 1 T D D.length else (nakI 1 T D D.length).forget) := ⟨_, rfl⟩
  rw [← hZ]
  have HZ := Lib.hid hZ
  clear hack hR hH hTf hTn hZ
  go_enter Try.func20, Try.ntmps20
  go_wp2_with (go_at_call 37; refine HT.out.mono ?_; rintro e w1 ⟨ov, vw1, vp1, va1, vs1, pf1, rfl, hO1, hA1, hSt1, hob1⟩; obtain ⟨Ao, co, rfl, _, _⟩ := own_form hO1)
  go_loopw [28] (fun iv wr => ∃ (i : Nat) (vw' vp' va' vs' : Value) (pf' : ByteArray → Value), i ≤ D.length ∧ iv = .int .i64 i ∧ GAt wr gb fb tb vw' vp' va' vs' pf' (nakI 1 T D i) ∧ Stepped w wr H (hG gb fb tb (rowsOf vw' vp' va' vs' pf' (nakI 1 T D i))) ∧ Beside wr (.slice Ao D.length co) D (hG gb fb tb (rowsOf vw' vp' va' vs' pf' (nakI 1 T D i)))) (fun iv _ => D.length - (intOf iv).toNat)
  case atStart => exact ⟨0, vw1, vp1, va1, vs1, pf1, Nat.zero_le _, rfl, hA1, hSt1, hO1, fun b hb => (hob1 b hb).2⟩
  case round =>
    obtain ⟨i, vw', vp', va', vs', pf', hil, rfl, hA, hSt, hBs⟩ := hrel
    have hGok := nakI_ok (how := 1) hTok hTm i
    by_cases hlt : i < D.length
    · have hnext := nakI_succ 1 T D hlt
      obtain ⟨A2, c2, e2, _, _, hel⟩ := hBs.own.slc.openI
      cases e2
      obtain ⟨bl, ol, rfl, hbl, hcl⟩ := hel i hlt
      obtain ⟨n, hn⟩ : ∃ n, n = D[i] := ⟨_, rfl⟩
      rw [← hn] at hnext hcl
      obtain ⟨G, hGe⟩ : ∃ G, G = nakI 1 T D i := ⟨_, rfl⟩
      rw [← hGe] at hnext hA hSt hBs hGok
      have hD : Only [] wr wr.drew := (Only.refl [] wr).drew
      have hal := hGok.len hGok.pa
      have hAd := hA.only0 hD
      have hown := hAd.ownP
      have hin := insert_any hown hGok.pa.ris (by omega) n
      have hset := fun (w4 : World) (v4 : Value) (kr : RowTo _ vp' w4 v4 (insL G.parked n)) => hAd.setP kr
      have hgS : gb ∉ vp'.ownBlock.toList := fun q => (hAd.rowne gb (mem_blocksOf.2 ⟨(vp', G.parked), by simp [rowsOf], by simpa using q⟩)).1 rfl
      have hB := hAd.blk
      have HIn := Lib.hid hin
      have HSet := Lib.hid hset
      have HSt := Lib.hid (hSt.then0 hD)
      have HBs := Lib.hid (hBs.step (Stepped.of hD (by simp) (fun b hb => .inl hb) : Stepped _ _ (hG gb fb tb (rowsOf vw' vp' va' vs' pf' G)) (hG gb fb tb (rowsOf vw' vp' va' vs' pf' G))))
      have c6 : wr.drew.cell? ⟨gb, 6, none⟩ = some vp' := hA.blk.cell 6
      obtain ⟨Aa, ca, rfl, _, _⟩ := own_form hown
      have HNext := Lib.hid hnext
      clear hnext hel hn hGe hin hset hown
      go_wp2_with fail
      refine wp_region_stages (C := fun W => ∃ p : Kept wr [] wr, W = p.W) [([0, 1, 2, 3, 4, 5, 6, 7, 8, 9, 10, 11, 12, 13, 14, 15, 16], [])] [] (by kernel_rfl) (by kernel_rfl) (by intro c d u a w h; cases d <;> exact h) ⟨⟨_, (Keeps.refl _ _ _).drew⟩, rfl⟩ ?_
      refine stagesFirst ?_
      show wpQuiet _ _ _ _ [_, _, _, _, _, _, _, _, _, _, _, _, _, _, _, _, _] _
      repeat (go_big_quiet_step (fail))
      refine wpQuiet_nil ?_
      refine stagesDone ?_
      go_wp2_with (
        go_at_call 35; refine HIn.out.mono ?_; rintro e w4 ⟨v4, rfl, kr4⟩
        obtain ⟨A4, c4', rfl, _, _⟩ := own_form kr4.own
        have q3 := HSet.out w4 _ kr4
        have hB4 := kr4.only.blk hB hgS
        have e4 : w4.cell? ⟨gb, 6, none⟩ = some (.slice Aa G.parked.length ca) := hB4.cell 6
        have e9 : w4.cell? ⟨gb, 9, none⟩ = some (.map (some tb)) := hB4.cell 9
        have ef := fun j => hB4.free j
        have Q3 := Lib.hid q3
        clear q3
        )
      obtain ⟨h4, st4⟩ := Q3.out
      go_wp2
      refine ⟨⟨i + 1, vw', .slice A4 (insL G.parked n).length c4', va', vs', pf', hlt, by simp, ?_⟩, by simp [intOf]; omega⟩
      rw [HNext.out]
      exact ⟨h4, HSt.out.trans st4, HBs.out.step st4⟩
    · have hie : i = D.length := by omega
      subst hie
      have hF := forget_any hA hGok hN
      have HF := Lib.hid hF
      clear hF
      by_cases hD0 : D = []
      · have hz := HZ.out
        rw [if_pos hD0] at hz
        have HZ2 := Lib.hid hz
        subst hD0
        clear hz
        go_wp2
        go_ret
        rw [HZ2.out]
        exact ⟨rfl, _, _, _, _, _, hA, hSt⟩
      · have hz := HZ.out
        rw [if_neg hD0] at hz
        have HZ2 := Lib.hid hz
        have hlp : 0 < D.length := List.length_pos_iff.2 hD0
        clear hD0 hz
        go_wp2_with (go_at_call 38; refine HF.out.mono ?_; rintro e w6 ⟨rfl, hout⟩)
        go_ret
        obtain ⟨a1, a2, a3, a4, a5, k1, k2⟩ := hout
        rw [HZ2.out]
        exact ⟨rfl, _, _, _, _, _, k1, hSt.trans k2⟩
set_option maxRecDepth 100000 in
set_option maxHeartbeats 2000000 in
theorem nak2_any (h : GAt w gb fb tb vw vp va vs pf g) (hok : g.Ok N) (hN : N ≤ 10000) (who : ByteArray) {lv : Value} {l : List Int} (hl : Slc w 1 lv l.length (ints l)) (hlb : ∀ b, lv.ownBlock = some b → b ∉ hG gb fb tb (rowsOf vw vp va vs pf g) ∨ l = []) (hll : l.length ≤ 1000000) :
    Calls Try.prog 20 #[.pointer (some ⟨gb, 0, none⟩), .string who, .int .i64 2, lv] w fun e w' => e = .returned (.int .i64 (g.nak who 2 l).1) ∧ GOut w (hG gb fb tb (rowsOf vw vp va vs pf g)) gb fb tb (g.nak who 2 l).2 w' := by
  have HT := Lib.hid (take_any h hok hN who hl hlb hll)
  obtain ⟨hTok, hTm, hTf, hTn⟩ := GS.take_ok hok who l
  rw [← hTf, ← hTn] at hTm
  have hTl := take_len (g := g) who l
  have hack : g.nak who 2 l = (((g.take who l).1.length : Int), if (g.take who l).1 = [] then nakI 2 (g.take who l).2 (g.take who l).1 (g.take who l).1.length else (nakI 2 (g.take who l).2 (g.take who l).1 (g.take who l).1.length).forget) := by
    unfold GS.nak nakI
    rw [List.take_length, if_neg (by decide)]
  rw [hack]
  obtain ⟨R, hR⟩ : ∃ R, R = g.take who l := ⟨_, rfl⟩
  rw [← hR] at HT hTok hTm hTl ⊢
  obtain ⟨D, T⟩ := R
  dsimp only at HT hTok hTm hTl ⊢
  obtain ⟨H, hH⟩ : ∃ H, H = hG gb fb tb (rowsOf vw vp va vs pf g) := ⟨_, rfl⟩
  rw [← hH] at HT ⊢
  obtain ⟨Z, hZ⟩ : ∃ Z, Z = (if D = [] then nakI 2 T D D.length else (nakI 2 T D D.length).forget) := ⟨_, rfl⟩
  rw [← hZ]
  have HZ := Lib.hid hZ
  clear hack hR hH hTf hTn hZ
  go_enter Try.func20, Try.ntmps20
  go_wp2_with (go_at_call 37; refine HT.out.mono ?_; rintro e w1 ⟨ov, vw1, vp1, va1, vs1, pf1, rfl, hO1, hA1, hSt1, hob1⟩; obtain ⟨Ao, co, rfl, _, _⟩ := own_form hO1)
  go_loopw [28] (fun iv wr => ∃ (i : Nat) (vw' vp' va' vs' : Value) (pf' : ByteArray → Value), i ≤ D.length ∧ iv = .int .i64 i ∧ GAt wr gb fb tb vw' vp' va' vs' pf' (nakI 2 T D i) ∧ Stepped w wr H (hG gb fb tb (rowsOf vw' vp' va' vs' pf' (nakI 2 T D i))) ∧ Beside wr (.slice Ao D.length co) D (hG gb fb tb (rowsOf vw' vp' va' vs' pf' (nakI 2 T D i)))) (fun iv _ => D.length - (intOf iv).toNat)
  case atStart => exact ⟨0, vw1, vp1, va1, vs1, pf1, Nat.zero_le _, rfl, hA1, hSt1, hO1, fun b hb => (hob1 b hb).2⟩
  case round =>
    obtain ⟨i, vw', vp', va', vs', pf', hil, rfl, hA, hSt, hBs⟩ := hrel
    have hGok := nakI_ok (how := 2) hTok hTm i
    by_cases hlt : i < D.length
    · have hnext := nakI_succ 2 T D hlt
      obtain ⟨A2, c2, e2, _, _, hel⟩ := hBs.own.slc.openI
      cases e2
      obtain ⟨bl, ol, rfl, hbl, hcl⟩ := hel i hlt
      obtain ⟨n, hn⟩ : ∃ n, n = D[i] := ⟨_, rfl⟩
      rw [← hn] at hnext hcl
      obtain ⟨G, hGe⟩ : ∃ G, G = nakI 2 T D i := ⟨_, rfl⟩
      rw [← hGe] at hnext hA hSt hBs hGok
      have hD : Only [] wr wr.drew := (Only.refl [] wr).drew
      have hgl := hA.blk.lt
      have c2 : wr.cell? ⟨gb, 2, none⟩ = some (.int .i64 G.retries) := hA.blk.cell 2
      have c9 : wr.cell? ⟨gb, 9, none⟩ = some (.map (some tb)) := hA.blk.cell 9
      have k2 := Kept.cell (a := wr) (R := []) c2 (.inl hgl)
      have k9 := Kept.cell (a := wr) (R := []) c9 (.inl hgl)
      have klk := lookT hA n
      obtain ⟨t, ht⟩ : ∃ t, t = G.tr n := ⟨_, rfl⟩
      obtain ⟨r, hr⟩ : ∃ r, r = G.retries := ⟨_, rfl⟩
      rw [← ht] at klk
      rw [← hr] at k2
      by_cases htr : t ≤ r
      · have hstep : GS.nak1 2 G n = { G with waiting := insL G.waiting n } := by
          unfold GS.nak1
          rw [if_neg (by decide), if_pos ⟨rfl, by rw [← ht, ← hr]; exact htr⟩]
        rw [hstep] at hnext
        have hal := hGok.len hGok.wa
        have hAd := hA.only0 hD
        have hown := hAd.ownW
        have hin := insert_any hown hGok.wa.ris (by omega) n
        have hset := fun (w4 : World) (v4 : Value) (kr : RowTo _ vw' w4 v4 (insL G.waiting n)) => hAd.setW kr
        have hgS : gb ∉ vw'.ownBlock.toList := fun q => (hAd.rowne gb (mem_blocksOf.2 ⟨(vw', G.waiting), by simp [rowsOf], by simpa using q⟩)).1 rfl
        have hB := hAd.blk
        have HIn := Lib.hid hin
        have HSet := Lib.hid hset
        have HSt := Lib.hid (hSt.then0 hD)
        have HBs := Lib.hid (hBs.step (Stepped.of hD (by simp) (fun b hb => .inl hb) : Stepped _ _ (hG gb fb tb (rowsOf vw' vp' va' vs' pf' G)) (hG gb fb tb (rowsOf vw' vp' va' vs' pf' G))))
        have c4 : wr.drew.cell? ⟨gb, 4, none⟩ = some vw' := hA.blk.cell 4
        obtain ⟨Aa, ca, rfl, _, _⟩ := own_form hown
        have HNext := Lib.hid hnext
        clear hnext hel hn hGe hin hset hown hstep ht hr c2 c9
        go_wp2_with fail
        refine wp_region_stages (C := fun W => ∃ p : Kept wr [] wr, W = p.W) [([0, 1, 2, 3, 4, 5, 6, 7, 8, 9, 10, 11, 12, 13, 14, 15, 16], [])] [] (by kernel_rfl) (by kernel_rfl) (by intro c d u a w h; cases d <;> exact h) ⟨⟨_, (Keeps.refl _ _ _).drew⟩, rfl⟩ ?_
        refine stagesFirst ?_
        show wpQuiet _ _ _ _ [_, _, _, _, _, _, _, _, _, _, _, _, _, _, _, _, _] _
        repeat (go_big_quiet_step (fail))
        refine wpQuiet_nil ?_
        refine stagesDone ?_
        go_wp2_with (
          go_at_call 35; refine HIn.out.mono ?_; rintro e w4 ⟨v4, rfl, kr4⟩
          obtain ⟨A4, c4', rfl, _, _⟩ := own_form kr4.own
          have q3 := HSet.out w4 _ kr4
          have hB4 := kr4.only.blk hB hgS
          have e4 : w4.cell? ⟨gb, 4, none⟩ = some (.slice Aa G.waiting.length ca) := hB4.cell 4
          have e9 : w4.cell? ⟨gb, 9, none⟩ = some (.map (some tb)) := hB4.cell 9
          have ef := fun j => hB4.free j
          have Q3 := Lib.hid q3
          clear q3
          )
        obtain ⟨h4, st4⟩ := Q3.out
        go_wp2
        refine ⟨⟨i + 1, .slice A4 (insL G.waiting n).length c4', vp', va', vs', pf', hlt, by simp, ?_⟩, by simp [intOf]; omega⟩
        rw [HNext.out]
        exact ⟨h4, HSt.out.trans st4, HBs.out.step st4⟩
      · have hstep : GS.nak1 2 G n = { G with parked := insL G.parked n } := by
          unfold GS.nak1
          rw [if_neg (by decide), if_neg (fun q => htr (by rw [ht, hr]; exact q.2))]
        rw [hstep] at hnext
        have hal := hGok.len hGok.pa
        have hAd := hA.only0 hD
        have hown := hAd.ownP
        have hin := insert_any hown hGok.pa.ris (by omega) n
        have hset := fun (w4 : World) (v4 : Value) (kr : RowTo _ vp' w4 v4 (insL G.parked n)) => hAd.setP kr
        have hgS : gb ∉ vp'.ownBlock.toList := fun q => (hAd.rowne gb (mem_blocksOf.2 ⟨(vp', G.parked), by simp [rowsOf], by simpa using q⟩)).1 rfl
        have hB := hAd.blk
        have HIn := Lib.hid hin
        have HSet := Lib.hid hset
        have HSt := Lib.hid (hSt.then0 hD)
        have HBs := Lib.hid (hBs.step (Stepped.of hD (by simp) (fun b hb => .inl hb) : Stepped _ _ (hG gb fb tb (rowsOf vw' vp' va' vs' pf' G)) (hG gb fb tb (rowsOf vw' vp' va' vs' pf' G))))
        have c6 : wr.drew.cell? ⟨gb, 6, none⟩ = some vp' := hA.blk.cell 6
        obtain ⟨Aa, ca, rfl, _, _⟩ := own_form hown
        have HNext := Lib.hid hnext
        clear hnext hel hn hGe hin hset hown hstep ht hr c2 c9
        go_wp2_with fail
        refine wp_region_stages (C := fun W => ∃ p : Kept wr [] wr, W = p.W) [([0, 1, 2, 3, 4, 5, 6, 7, 8, 9, 10, 11, 12, 13, 14, 15, 16], [])] [] (by kernel_rfl) (by kernel_rfl) (by intro c d u a w h; cases d <;> exact h) ⟨⟨_, (Keeps.refl _ _ _).drew⟩, rfl⟩ ?_
        refine stagesFirst ?_
        show wpQuiet _ _ _ _ [_, _, _, _, _, _, _, _, _, _, _, _, _, _, _, _, _] _
        repeat (go_big_quiet_step (fail))
        refine wpQuiet_nil ?_
        refine stagesDone ?_
        go_wp2_with (
          go_at_call 35; refine HIn.out.mono ?_; rintro e w4 ⟨v4, rfl, kr4⟩
          obtain ⟨A4, c4', rfl, _, _⟩ := own_form kr4.own
          have q3 := HSet.out w4 _ kr4
          have hB4 := kr4.only.blk hB hgS
          have e4 : w4.cell? ⟨gb, 6, none⟩ = some (.slice Aa G.parked.length ca) := hB4.cell 6
          have e9 : w4.cell? ⟨gb, 9, none⟩ = some (.map (some tb)) := hB4.cell 9
          have ef := fun j => hB4.free j
          have Q3 := Lib.hid q3
          clear q3
          )
        obtain ⟨h4, st4⟩ := Q3.out
        go_wp2
        refine ⟨⟨i + 1, vw', .slice A4 (insL G.parked n).length c4', va', vs', pf', hlt, by simp, ?_⟩, by simp [intOf]; omega⟩
        rw [HNext.out]
        exact ⟨h4, HSt.out.trans st4, HBs.out.step st4⟩
    · have hie : i = D.length := by omega
      subst hie
      have hF := forget_any hA hGok hN
      have HF := Lib.hid hF
      clear hF
      by_cases hD0 : D = []
      · have hz := HZ.out
        rw [if_pos hD0] at hz
        have HZ2 := Lib.hid hz
        subst hD0
        clear hz
        go_wp2
        go_ret
        rw [HZ2.out]
        exact ⟨rfl, _, _, _, _, _, hA, hSt⟩
      · have hz := HZ.out
        rw [if_neg hD0] at hz
        have HZ2 := Lib.hid hz
        have hlp : 0 < D.length := List.length_pos_iff.2 hD0
        clear hD0 hz
        go_wp2_with (go_at_call 38; refine HF.out.mono ?_; rintro e w6 ⟨rfl, hout⟩)
        go_ret
        obtain ⟨a1, a2, a3, a4, a5, k1, k2⟩ := hout
        rw [HZ2.out]
        exact ⟨rfl, _, _, _, _, _, k1, hSt.trans k2⟩
end
set_option maxRecDepth 100000 in
theorem nakNo_any {w : World} {p lv : Value} (who : ByteArray) {how : Int} (hh : how ≠ 1 ∧ how ≠ 2 ∧ how ≠ 3) :
    Calls Try.prog 20 #[p, .string who, .int .i64 how, lv] w fun e w' => e = .returned (.int .i64 0) ∧ Only [] w w' := by
  obtain ⟨h1, h2, h3⟩ := hh
  have d1 : (how != 1) = true := by rw [bne_iff_ne]; exact h1
  have d2 : (how != 2) = true := by rw [bne_iff_ne]; exact h2
  have d3 : (how != 3) = true := by rw [bne_iff_ne]; exact h3
  clear h1 h2 h3
  go_enter Try.func20, Try.ntmps20
  go_wp2
  go_ret
  exact ⟨rfl, Only.refl _ _⟩
section
variable {w : World} {gb fb tb N : Nat} {vw vp va vs : Value} {pf : ByteArray → Value} {g : GS}
theorem nak_any (h : GAt w gb fb tb vw vp va vs pf g) (hok : g.Ok N) (hN : N ≤ 10000) (who : ByteArray) (how : Int) {lv : Value} {l : List Int} (hl : Slc w 1 lv l.length (ints l)) (hlb : ∀ b, lv.ownBlock = some b → b ∉ hG gb fb tb (rowsOf vw vp va vs pf g) ∨ l = []) (hll : l.length ≤ 1000000) :
    Calls Try.prog 20 #[.pointer (some ⟨gb, 0, none⟩), .string who, .int .i64 how, lv] w fun e w' => e = .returned (.int .i64 (g.nak who how l).1) ∧ GOut w (hG gb fb tb (rowsOf vw vp va vs pf g)) gb fb tb (g.nak who how l).2 w' := by
  by_cases h1 : how = 1
  · subst h1
    exact nak1_any h hok hN who hl hlb hll
  by_cases h2 : how = 2
  · subst h2
    exact nak2_any h hok hN who hl hlb hll
  by_cases h3 : how = 3
  · subst h3
    exact nak3_any h hok hN who hl hlb hll
  have hR : g.nak who how l = (0, g) := by unfold GS.nak; rw [if_pos ⟨h1, h2, h3⟩]
  rw [hR]
  exact (nakNo_any who ⟨h1, h2, h3⟩).mono fun e w' ⟨e1, e2⟩ => ⟨e1, GOut.refl h e2⟩
end
end Go.Proofs.Ythjgplgfcbhihaa
