/- Contract: Ack. -/
import Derived.Test.YthjgplgfcbhihaaGc11
set_option linter.unusedVariables false
set_option linter.unusedSimpArgs false
namespace Go.Proofs.Ythjgplgfcbhihaa
open Go.RowKit Go Go.Sort Go.Lib
/-- A row that lies beside the group. -/
structure Beside (w : World) (v : Value) (xs : List Int) (H : List Nat) : Prop where
  own : Own w v xs
  out : ∀ b, v.ownBlock = some b → b ∉ H
theorem Beside.step {w w' : World} {v : Value} {xs : List Int} {H H' : List Nat} (h : Beside w v xs H) (k : Stepped w w' H H') : Beside w' v xs H' := by
  obtain ⟨⟨S, k1, k2⟩, k3⟩ := k
  refine ⟨h.own.only k1 (fun b hb q => h.out b hb (k2 b q)), fun b hb q => ?_⟩
  rcases k3 b q with q2 | q2
  · exact h.out b hb q2
  · have := h.own.lt b hb
    omega
theorem foldl_take_succ {α β : Type} (f : β → α → β) (l : List α) (b : β) (i : Nat) (h : i < l.length) : (l.take (i + 1)).foldl f b = f ((l.take i).foldl f b) l[i] := by
  rw [List.take_succ_eq_append_getElem h, List.foldl_append]
  rfl
/-- Ack behind i of those that were taken. -/
def ackI (T : GS) (D : List Int) (i : Nat) : GS := { T with acked := (D.take i).foldl insL T.acked, tries := (D.take i).foldl adel T.tries }
theorem ackI_zero (T : GS) (D : List Int) : ackI T D 0 = T := by
  cases T
  simp [ackI]
theorem ackI_succ (T : GS) (D : List Int) {i : Nat} (h : i < D.length) : ackI T D (i + 1) = { ackI T D i with acked := insL (ackI T D i).acked D[i], tries := adel (ackI T D i).tries D[i] } := by
  unfold ackI
  simp only [foldl_take_succ _ _ _ _ h]
theorem ackI_ok {T : GS} {N : Nat} {D : List Int} (h : T.Ok N) (hD : ∀ x ∈ D, T.from_ ≤ x ∧ x < T.next) (i : Nat) : (ackI T D i).Ok N :=
  ⟨h.fr, h.bu, h.re, h.nx, h.wa, h.pa, Fed.fold _ _ h.ac (fun x hx => hD x (List.mem_of_mem_take hx)), h.sk, h.fl, h.few, h.nod, GS.adel_tr _ h.tr⟩
section
variable {w : World} {gb fb tb N : Nat} {vw vp va vs : Value} {pf : ByteArray → Value} {g : GS}
set_option maxRecDepth 100000 in
set_option maxHeartbeats 2000000 in
theorem ack_any (h : GAt w gb fb tb vw vp va vs pf g) (hok : g.Ok N) (hN : N ≤ 10000) (who : ByteArray) {lv : Value} {l : List Int} (hl : Slc w 1 lv l.length (ints l)) (hlb : ∀ b, lv.ownBlock = some b → b ∉ hG gb fb tb (rowsOf vw vp va vs pf g) ∨ l = []) (hll : l.length ≤ 1000000) :
    Calls Try.prog 13 #[.pointer (some ⟨gb, 0, none⟩), .string who, lv] w fun e w' => e = .returned (.int .i64 (g.ack who l).1) ∧ GOut w (hG gb fb tb (rowsOf vw vp va vs pf g)) gb fb tb (g.ack who l).2 w' := by
  have HT := Lib.hid (take_any h hok hN who hl hlb hll)
  obtain ⟨hTok, hTm, hTf, hTn⟩ := GS.take_ok hok who l
  rw [← hTf, ← hTn] at hTm
  have hTl := take_len (g := g) who l
  have hack : g.ack who l = (((g.take who l).1.length : Int), if (g.take who l).1 = [] then ackI (g.take who l).2 (g.take who l).1 (g.take who l).1.length else (ackI (g.take who l).2 (g.take who l).1 (g.take who l).1.length).forget) := by
    unfold GS.ack ackI
    rw [List.take_length]
  rw [hack]
  obtain ⟨R, hR⟩ : ∃ R, R = g.take who l := ⟨_, rfl⟩
  rw [← hR] at HT hTok hTm hTl ⊢
  obtain ⟨D, T⟩ := R
  dsimp only at HT hTok hTm hTl ⊢
  obtain ⟨H, hH⟩ : ∃ H, H = hG gb fb tb (rowsOf vw vp va vs pf g) := ⟨_, rfl⟩
  rw [← hH] at HT ⊢
  obtain ⟨Z, hZ⟩ : ∃ Z, Z = (if D = [] then ackI T D D.length else (ackI T D D.length).forget) := ⟨_, rfl⟩
  rw [← hZ]
  have HZ := Lib.hid hZ
  clear hack hR hH hTf hTn hZ
  go_enter Try.func13, Try.ntmps13
  go_wp2_with (go_at_call 37; refine HT.out.mono ?_; rintro e w1 ⟨ov, vw1, vp1, va1, vs1, pf1, rfl, hO1, hA1, hSt1, hob1⟩; obtain ⟨Ao, co, rfl, _, _⟩ := own_form hO1)
  go_loopw [16] (fun iv wr => ∃ (i : Nat) (vw' vp' va' vs' : Value) (pf' : ByteArray → Value), i ≤ D.length ∧ iv = .int .i64 i ∧ GAt wr gb fb tb vw' vp' va' vs' pf' (ackI T D i) ∧ Stepped w wr H (hG gb fb tb (rowsOf vw' vp' va' vs' pf' (ackI T D i))) ∧ Beside wr (.slice Ao D.length co) D (hG gb fb tb (rowsOf vw' vp' va' vs' pf' (ackI T D i)))) (fun iv _ => D.length - (intOf iv).toNat)
  case atStart =>
    refine ⟨0, vw1, vp1, va1, vs1, pf1, Nat.zero_le _, rfl, ?_⟩
    rw [ackI_zero]
    exact ⟨hA1, hSt1, hO1, fun b hb => (hob1 b hb).2⟩
  case round =>
    obtain ⟨i, vw', vp', va', vs', pf', hil, rfl, hA, hSt, hBs⟩ := hrel
    have hGok := ackI_ok hTok hTm i
    by_cases hlt : i < D.length
    · have hnext := ackI_succ T D hlt
      obtain ⟨A2, c2, e2, _, _, hel⟩ := hBs.own.slc.openI
      cases e2
      obtain ⟨bl, ol, rfl, hbl, hcl⟩ := hel i hlt
      obtain ⟨n, hn⟩ : ∃ n, n = D[i] := ⟨_, rfl⟩
      rw [← hn] at hnext hcl
      obtain ⟨G, hG⟩ : ∃ G, G = ackI T D i := ⟨_, rfl⟩
      rw [← hG] at hnext hA hSt hBs hGok
      have hal := hGok.len hGok.ac
      have hown := hA.ownA
      have hin := insert_any hown hGok.ac.ris (by omega) n
      have c7 : wr.cell? ⟨gb, 7, none⟩ = some va' := hA.blk.cell 7
      have hset := fun (w4 : World) (v4 : Value) (kr : RowTo wr va' w4 v4 (insL G.acked n)) => hA.setA kr
      have hgS : gb ∉ va'.ownBlock.toList := fun q => (hA.rowne gb (mem_blocksOf.2 ⟨(va', G.acked), by simp [rowsOf], by simpa using q⟩)).1 rfl
      have hB := hA.blk
      have HNext := Lib.hid hnext
      have HIn := Lib.hid hin
      have HSet := Lib.hid hset
      obtain ⟨Aa, ca, rfl, _, _⟩ := own_form hown
      clear hnext hel hn hG hin hset hown
      go_wp2_with (first
        | (go_at_call 35; refine HIn.out.mono ?_; rintro e w4 ⟨v4, rfl, kr4⟩
           obtain ⟨A4, c4, rfl, _, _⟩ := own_form kr4.own
           have q3 := HSet.out w4 _ kr4
           have hB4 := kr4.only.blk hB hgS
           have e7 : w4.cell? ⟨gb, 7, none⟩ = some (.slice Aa G.acked.length ca) := hB4.cell 7
           have e9 : w4.cell? ⟨gb, 9, none⟩ = some (.map (some tb)) := hB4.cell 9
           have ef := fun j => hB4.free j
           have hm4 : MapIs (Value.int .i64) (w4.setCell ⟨gb, 7, none⟩ (.slice A4 (insL G.acked n).length c4)) tb (G.tries.map fun p => (p.1, Value.int .i64 p.2)) := q3.1.tries
           have Q3 := Lib.hid q3
           clear q3)
        | (at_delete; refine wpList_delete_is rfl 51 3 rfl (keyEnc_int .i64) Try.underlying51 Try.underlying3 n rfl rfl hm4 ?_; intro w5 hm5 hk5))
      rw [adel_mapk (fun _ k => Value.int .i64 k)] at hm5
      obtain ⟨h4, st4⟩ := Q3.out
      obtain ⟨h5, st5⟩ := h4.setT hk5 hm5
      go_wp2
      refine ⟨⟨i + 1, vw', vp', .slice A4 (insL G.acked n).length c4, vs', pf', hlt, by simp, ?_⟩, by simp [intOf]; omega⟩
      rw [HNext.out]
      exact ⟨h5, hSt.trans (st4.trans st5), (hBs.step st4).step st5⟩
    · have hie : i = D.length := by omega
      subst hie
      have hF := forget_any hA hGok hN
      have HF := Lib.hid hF
      clear hF
      by_cases hD0 : D = []
      · have hz := HZ.out
        rw [if_pos hD0] at hz
        have HZ2 := Lib.hid hz
        subst hD0
        clear hz
        go_wp2
        go_ret
        rw [HZ2.out]
        exact ⟨rfl, _, _, _, _, _, hA, hSt⟩
      · have hz := HZ.out
        rw [if_neg hD0] at hz
        have HZ2 := Lib.hid hz
        have hlp : 0 < D.length := List.length_pos_iff.2 hD0
        clear hD0 hz
        go_wp2_with (go_at_call 38; refine HF.out.mono ?_; rintro e w6 ⟨rfl, hout⟩)
        go_ret
        obtain ⟨a1, a2, a3, a4, a5, k1, k2⟩ := hout
        rw [HZ2.out]
        exact ⟨rfl, _, _, _, _, _, k1, hSt.trans k2⟩
end
end Go.Proofs.Ythjgplgfcbhihaa
