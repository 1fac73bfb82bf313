/- Contracts: Replay, Leave. -/
import Derived.Test.YthjgplgfcbhihaaGc12
set_option linter.unusedVariables false
set_option linter.unusedSimpArgs false
namespace Go.Proofs.Ythjgplgfcbhihaa
open Go.RowKit Go Go.Sort Go.Lib
def repI (T : GS) (D : List Int) (i : Nat) : GS := { T with waiting := (D.take i).foldl insL T.waiting, tries := (D.take i).foldl adel T.tries }
theorem repI_zero (T : GS) (D : List Int) : repI T D 0 = T := by
  cases T
  simp [repI]
theorem repI_succ (T : GS) (D : List Int) {i : Nat} (h : i < D.length) : repI T D (i + 1) = { repI T D i with waiting := insL (repI T D i).waiting D[i], tries := adel (repI T D i).tries D[i] } := by
  unfold repI
  simp only [foldl_take_succ _ _ _ _ h]
theorem repI_ok {T : GS} {N : Nat} {D : List Int} (h : T.Ok N) (hD : ∀ x ∈ D, T.from_ ≤ x ∧ x < T.next) (i : Nat) : (repI T D i).Ok N :=
  ⟨h.fr, h.bu, h.re, h.nx, Fed.fold _ _ h.wa (fun x hx => hD x (List.mem_of_mem_take hx)), h.pa, h.ac, h.sk, h.fl, h.few, h.nod, GS.adel_tr _ h.tr⟩
def levI (T : GS) (D : List Int) (i : Nat) : GS := { T with waiting := (D.take i).foldl insL T.waiting }
theorem levI_zero (T : GS) (D : List Int) : levI T D 0 = T := by
  cases T
  simp [levI]
theorem levI_succ (T : GS) (D : List Int) {i : Nat} (h : i < D.length) : levI T D (i + 1) = { levI T D i with waiting := insL (levI T D i).waiting D[i] } := by
  unfold levI
  simp only [foldl_take_succ _ _ _ _ h]
theorem levI_ok {T : GS} {N : Nat} {D : List Int} (h : T.Ok N) (hD : ∀ x ∈ D, T.from_ ≤ x ∧ x < T.next) (i : Nat) : (levI T D i).Ok N :=
  ⟨h.fr, h.bu, h.re, h.nx, Fed.fold _ _ h.wa (fun x hx => hD x (List.mem_of_mem_take hx)), h.pa, h.ac, h.sk, h.fl, h.few, h.nod, h.tr⟩
section
variable {w : World} {gb fb tb N : Nat} {vw vp va vs : Value} {pf : ByteArray → Value} {g : GS}
/-- The parked ones put aside. -/
theorem GAt.asideP (h : GAt w gb fb tb vw vp va vs pf g) :
    GAt (w.setCell ⟨gb, 6, none⟩ (.slice none 0 0)) gb fb tb vw (.slice none 0 0) va vs pf { g with parked := [] } ∧
      Stepped w (w.setCell ⟨gb, 6, none⟩ (.slice none 0 0)) (hG gb fb tb (rowsOf vw vp va vs pf g)) (hG gb fb tb (rowsOf vw (.slice none 0 0) va vs pf { g with parked := [] })) ∧
      Beside (w.setCell ⟨gb, 6, none⟩ (.slice none 0 0)) vp g.parked (hG gb fb tb (rowsOf vw (.slice none 0 0) va vs pf { g with parked := [] })) := by
  obtain ⟨h1, h2⟩ := h.setP (⟨Own.nil w, (Only.refl [] w).of_nil, fun b hb => by cases hb⟩ : RowTo w vp w (.slice none 0 0) [])
  have hv : ∀ b, vp.ownBlock = some b → b ∈ blocksOf (rowsOf vw vp va vs pf g) := fun b hb => mem_blocksOf.2 ⟨(vp, g.parked), by simp [rowsOf], hb⟩
  refine ⟨h1, h2, h.ownP.only ((Only.refl [gb] w).setCell (.inl (by simp)) _) (fun b hb q => (h.rowne b (hv b hb)).1 (by simpa using q)), fun b hb q => ?_⟩
  have hne := h.rowne b (hv b hb)
  rcases mem_hG.1 q with q | q | q | q
  · exact hne.1 q
  · exact hne.2.1 q
  · exact hne.2.2 q
  · have ha := (h.rows.perm (swap2 _ _ _)).apart b hb
    refine ha ?_
    obtain ⟨p, hp, hq⟩ := mem_blocksOf.1 q
    simp only [rowsOf, List.mem_cons] at hp
    refine mem_blocksOf.2 ⟨p, ?_, hq⟩
    simp only [List.mem_cons]
    rcases hp with hp | hp | hp | hp | hp
    · exact .inl hp
    · subst hp; cases hq
    · exact .inr (.inl hp)
    · exact .inr (.inr (.inl hp))
    · exact .inr (.inr (.inr hp))
set_option maxRecDepth 100000 in
set_option maxHeartbeats 2000000 in
theorem replay_any (h : GAt w gb fb tb vw vp va vs pf g) (hok : g.Ok N) (hN : N ≤ 10000) :
    Calls Try.prog 21 #[.pointer (some ⟨gb, 0, none⟩)] w fun e w' => e = .returned (.int .i64 g.replay.1) ∧ GOut w (hG gb fb tb (rowsOf vw vp va vs pf g)) gb fb tb g.replay.2 w' := by
  have HN := Lib.hid (none_any h)
  have c6 : w.cell? ⟨gb, 6, none⟩ = some vp := h.blk.cell 6
  have cf := fun j => h.blk.free j
  obtain ⟨hA1, hSt1, hB1⟩ := h.asideP
  obtain ⟨D, hD⟩ : ∃ D, D = g.parked := ⟨_, rfl⟩
  obtain ⟨T, hT⟩ : ∃ T : GS, T = { g with parked := [] } := ⟨_, rfl⟩
  have hTm : ∀ x ∈ D, T.from_ ≤ x ∧ x < T.next := by rw [hD, hT]; exact hok.pa.mem
  have hTok : T.Ok N := by rw [hT]; exact ⟨hok.fr, hok.bu, hok.re, hok.nx, hok.wa, Fed.nil _ _, hok.ac, hok.sk, hok.fl, hok.few, hok.nod, hok.tr⟩
  have hrep : g.replay = ((D.length : Int), repI T D D.length) := by
    unfold GS.replay repI
    rw [List.take_length, hD, hT]
  rw [hrep]
  have hDl : D.length ≤ 1000 * N := by rw [hD]; exact hok.len hok.pa
  have hown := h.ownP
  rw [← hT] at hA1 hSt1 hB1
  rw [← hD] at hB1 hown
  obtain ⟨H, hH⟩ : ∃ H, H = hG gb fb tb (rowsOf vw vp va vs pf g) := ⟨_, rfl⟩
  rw [← hH] at hSt1 ⊢
  obtain ⟨Ao, co, rfl, _, _⟩ := own_form hown
  have HA1 := Lib.hid hA1
  have HSt1 := Lib.hid hSt1
  have HB1 := Lib.hid hB1
  clear hrep hD hT hH hA1 hSt1 hB1 hown h
  go_enter Try.func21, Try.ntmps21
  go_wp2_with (go_at_call 29; refine HN.out.mono ?_; rintro e w1 ⟨rfl, rfl⟩)
  go_loopw [17] (fun iv wr => ∃ (i : Nat) (vw' vp' va' vs' : Value) (pf' : ByteArray → Value), i ≤ D.length ∧ iv = .int .i64 i ∧ GAt wr gb fb tb vw' vp' va' vs' pf' (repI T D i) ∧ Stepped w wr H (hG gb fb tb (rowsOf vw' vp' va' vs' pf' (repI T D i))) ∧ Beside wr (.slice Ao D.length co) D (hG gb fb tb (rowsOf vw' vp' va' vs' pf' (repI T D i)))) (fun iv _ => D.length - (intOf iv).toNat)
  case atStart =>
    refine ⟨0, vw, .slice none 0 0, va, vs, pf, Nat.zero_le _, rfl, ?_⟩
    rw [repI_zero]
    exact ⟨HA1.out, HSt1.out, HB1.out⟩
  case round =>
    obtain ⟨i, vw', vp', va', vs', pf', hil, rfl, hA, hSt, hBs⟩ := hrel
    have hGok := repI_ok hTok hTm i
    by_cases hlt : i < D.length
    · have hnext := repI_succ T D hlt
      obtain ⟨A2, c2, e2, _, _, hel⟩ := hBs.own.slc.openI
      cases e2
      obtain ⟨bl, ol, rfl, hbl, hcl⟩ := hel i hlt
      obtain ⟨n, hn⟩ : ∃ n, n = D[i] := ⟨_, rfl⟩
      rw [← hn] at hnext hcl
      obtain ⟨G, hG⟩ : ∃ G, G = repI T D i := ⟨_, rfl⟩
      rw [← hG] at hnext hA hSt hBs hGok
      have hal := hGok.len hGok.wa
      have hown := hA.ownW
      have hin := insert_any hown hGok.wa.ris (by omega) n
      have c4 : wr.cell? ⟨gb, 4, none⟩ = some vw' := hA.blk.cell 4
      have hset := fun (w4 : World) (v4 : Value) (kr : RowTo wr vw' w4 v4 (insL G.waiting n)) => hA.setW kr
      have hgS : gb ∉ vw'.ownBlock.toList := fun q => (hA.rowne gb (mem_blocksOf.2 ⟨(vw', G.waiting), by simp [rowsOf], by simpa using q⟩)).1 rfl
      have hB := hA.blk
      have HNext := Lib.hid hnext
      have HIn := Lib.hid hin
      have HSet := Lib.hid hset
      obtain ⟨Aa, ca, rfl, _, _⟩ := own_form hown
      clear hnext hel hn hG hin hset hown
      go_wp2_with (first
        | (go_at_call 35; refine HIn.out.mono ?_; rintro e w4 ⟨v4, rfl, kr4⟩
           obtain ⟨A4, c4', rfl, _, _⟩ := own_form kr4.own
           have q3 := HSet.out w4 _ kr4
           have hB4 := kr4.only.blk hB hgS
           have e4 : w4.cell? ⟨gb, 4, none⟩ = some (.slice Aa G.waiting.length ca) := hB4.cell 4
           have e9 : w4.cell? ⟨gb, 9, none⟩ = some (.map (some tb)) := hB4.cell 9
           have ef := fun j => hB4.free j
           have hm4 : MapIs (Value.int .i64) (w4.setCell ⟨gb, 4, none⟩ (.slice A4 (insL G.waiting n).length c4')) tb (G.tries.map fun p => (p.1, Value.int .i64 p.2)) := q3.1.tries
           have Q3 := Lib.hid q3
           clear q3)
        | (at_delete; refine wpList_delete_is rfl 51 3 rfl (keyEnc_int .i64) Try.underlying51 Try.underlying3 n rfl rfl hm4 ?_; intro w5 hm5 hk5))
      rw [adel_mapk (fun _ k => Value.int .i64 k)] at hm5
      obtain ⟨h4, st4⟩ := Q3.out
      obtain ⟨h5, st5⟩ := h4.setT hk5 hm5
      go_wp2
      refine ⟨⟨i + 1, .slice A4 (insL G.waiting n).length c4', vp', va', vs', pf', hlt, by simp, ?_⟩, by simp [intOf]; omega⟩
      rw [HNext.out]
      exact ⟨h5, hSt.trans (st4.trans st5), (hBs.step st4).step st5⟩
    · have hie : i = D.length := by omega
      subst hie
      go_wp2
      go_ret
      exact ⟨rfl, _, _, _, _, _, hA, hSt⟩
set_option maxRecDepth 100000 in
set_option maxHeartbeats 2000000 in
theorem leave_any (h : GAt w gb fb tb vw vp va vs pf g) (hok : g.Ok N) (hN : N ≤ 10000) (who : ByteArray) :
    Calls Try.prog 26 #[.pointer (some ⟨gb, 0, none⟩), .string who] w fun e w' => e = .returned (.int .i64 (g.leave who).1) ∧ GOut w (hG gb fb tb (rowsOf vw vp va vs pf g)) gb fb tb (g.leave who).2 w' := by
  have HN := Lib.hid (none_any h)
  have HI := Lib.hid (is_any h who)
  cases hi : g.is who with
  | false =>
    have hR : g.leave who = (8, g) := by unfold GS.leave; rw [hi]; rfl
    rw [hR]
    rw [hi] at HI
    go_enter Try.func26, Try.ntmps26
    go_wp2_with (first
      | (go_at_call 29; refine HN.out.mono ?_; rintro e w1 ⟨rfl, rfl⟩)
      | (go_at_call 30; refine HI.out.mono ?_; rintro e w1 ⟨rfl, rfl⟩))
    go_ret
    exact ⟨rfl, GOut.refl h (Only.refl _ _)⟩
  | true =>
    rw [hi] at HI
    have c5 : w.cell? ⟨gb, 5, none⟩ = some (.map (some fb)) := h.blk.cell 5
    obtain ⟨D, hD⟩ : ∃ D, D = g.fl who := ⟨_, rfl⟩
    have hTm : ∀ x ∈ D, g.from_ ≤ x ∧ x < g.next := by rw [hD]; exact (hok.flOf who).mem
    have hDl : D.length ≤ 1000 * N := by rw [hD]; exact hok.len (hok.flOf who)
    have hlev : g.leave who = (0, { levI g D D.length with flight := adel g.flight who }) := by
      unfold GS.leave levI
      rw [hi, List.take_length, hD]
      rfl
    rw [hlev]
    have hlk := flightOf g pf who
    have hF := h.fl who
    have hfvE : ∀ i, fv pf (levI g D i) who = fv pf g who ∧ (levI g D i).fl who = D := fun i => ⟨rfl, by rw [hD]; rfl⟩
    obtain ⟨fo, hfo⟩ : ∃ fo, fo = fv pf g who := ⟨_, rfl⟩
    rw [← hfo] at hlk hF hfvE
    rw [← hD] at hF
    obtain ⟨Ao, co, rfl, _, _⟩ := own_form hF
    have HLk := Lib.hid hlk
    have HE := Lib.hid hfvE
    obtain ⟨H, hH⟩ : ∃ H, H = hG gb fb tb (rowsOf vw vp va vs pf g) := ⟨_, rfl⟩
    have HSt0 := Lib.hid (show Stepped w w H (hG gb fb tb (rowsOf vw vp va vs pf g)) by rw [hH]; exact Stepped.refl _ _)
    rw [← hH]
    have hm5 := h.flight
    have HA0 := Lib.hid h
    clear hlev hD hlk hF hfvE hfo hH hi h
    go_enter Try.func26, Try.ntmps26
    go_wp2_with (first
      | (go_at_call 29; refine HN.out.mono ?_; rintro e w1 ⟨rfl, rfl⟩)
      | (go_at_call 30; refine HI.out.mono ?_; rintro e w1 ⟨rfl, rfl⟩)
      | (refine wpList_lookup_is rfl 50 rfl keyEnc_string Try.underlying50 Try.underlying9 (zeroInts _) who rfl rfl hm5 _ HLk.out ?_))
    go_loopw [20] (fun iv wr => ∃ (i : Nat) (vw' : Value), i ≤ D.length ∧ iv = .int .i64 i ∧ GAt wr gb fb tb vw' vp va vs pf (levI g D i) ∧ Stepped w wr H (hG gb fb tb (rowsOf vw' vp va vs pf (levI g D i)))) (fun iv _ => D.length - (intOf iv).toNat)
    case atStart =>
      refine ⟨0, vw, Nat.zero_le _, rfl, ?_⟩
      rw [levI_zero]
      exact ⟨HA0.out, HSt0.out⟩
    case round =>
      obtain ⟨i, vw', hil, rfl, hA, hSt⟩ := hrel
      have hGok := levI_ok hok hTm i
      by_cases hlt : i < D.length
      · have hnext := levI_succ g D hlt
        have hfl := hA.fl who
        rw [(HE.out i).1, (HE.out i).2] at hfl
        obtain ⟨A2, c2, e2, _, _, hel⟩ := hfl.slc.openI
        cases e2
        obtain ⟨bl, ol, rfl, hbl, hcl⟩ := hel i hlt
        obtain ⟨n, hn⟩ : ∃ n, n = D[i] := ⟨_, rfl⟩
        rw [← hn] at hnext hcl
        obtain ⟨G, hG⟩ : ∃ G, G = levI g D i := ⟨_, rfl⟩
        rw [← hG] at hnext hA hSt hGok
        have hal := hGok.len hGok.wa
        have hown := hA.ownW
        have hin := insert_any hown hGok.wa.ris (by omega) n
        have c4 : wr.cell? ⟨gb, 4, none⟩ = some vw' := hA.blk.cell 4
        have hset := fun (w4 : World) (v4 : Value) (kr : RowTo wr vw' w4 v4 (insL G.waiting n)) => hA.setW kr
        have hgS : gb ∉ vw'.ownBlock.toList := fun q => (hA.rowne gb (mem_blocksOf.2 ⟨(vw', G.waiting), by simp [rowsOf], by simpa using q⟩)).1 rfl
        have hB := hA.blk
        have HNext := Lib.hid hnext
        have HIn := Lib.hid hin
        have HSet := Lib.hid hset
        obtain ⟨Aa, ca, rfl, _, _⟩ := own_form hown
        clear hnext hel hn hG hin hset hown
        go_wp2_with (go_at_call 35; refine HIn.out.mono ?_; rintro e w4 ⟨v4, rfl, kr4⟩
                     obtain ⟨A4, c4', rfl, _, _⟩ := own_form kr4.own
                     have q3 := HSet.out w4 _ kr4
                     have hB4 := kr4.only.blk hB hgS
                     have e4 : w4.cell? ⟨gb, 4, none⟩ = some (.slice Aa G.waiting.length ca) := hB4.cell 4
                     have ef := fun j => hB4.free j
                     have Q3 := Lib.hid q3
                     clear q3)
        obtain ⟨h4, st4⟩ := Q3.out
        refine ⟨⟨i + 1, .slice A4 (insL G.waiting n).length c4', hlt, by simp, ?_⟩, by simp [intOf]; omega⟩
        rw [HNext.out]
        exact ⟨h4, hSt.trans st4⟩
      · have hie : i = D.length := by omega
        subst hie
        have d5 : wr.cell? ⟨gb, 5, none⟩ = some (.map (some fb)) := hA.blk.cell 5
        have hmf : MapIs Value.string wr fb (g.flight.map fun p => (p.1, pf p.1)) := hA.flight
        go_wp2_with (at_delete; refine wpList_delete_is rfl 50 9 rfl keyEnc_string Try.underlying50 Try.underlying9 who rfl rfl hmf ?_; intro w5 hm5 hk5)
        go_ret
        obtain ⟨h5, st5⟩ := hA.delF hk5 hm5
        exact ⟨rfl, _, _, _, _, _, h5, hSt.trans st5⟩
end
end Go.Proofs.Ythjgplgfcbhihaa
