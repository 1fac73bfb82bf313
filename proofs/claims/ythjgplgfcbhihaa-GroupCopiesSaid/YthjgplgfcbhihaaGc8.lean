/- Contract: take. -/
import Derived.Test.YthjgplgfcbhihaaGc7
set_option linter.unusedVariables false
set_option linter.unusedSimpArgs false
namespace Go.Proofs.Ythjgplgfcbhihaa
open Go.RowKit Go Go.Sort Go.Lib
theorem takeGo_snoc : ∀ (l f : List Int) (n : Int), GS.takeGo f (l ++ [n]) = if (GS.takeGo f l).1.contains n then (remL (GS.takeGo f l).1 n, (GS.takeGo f l).2 ++ [n]) else GS.takeGo f l
  | [], f, n => by
    show GS.takeGo f [n] = if f.contains n then (remL f n, [n]) else (f, [])
    unfold GS.takeGo
    by_cases h : f.contains n = true
    · rw [if_pos h, if_pos h]
      rfl
    · rw [if_neg h, if_neg h]
      rfl
  | y :: l, f, n => by
    rw [List.cons_append]
    by_cases h : f.contains y = true
    · have e1 : ∀ m, GS.takeGo f (y :: m) = ((GS.takeGo (remL f y) m).1, y :: (GS.takeGo (remL f y) m).2) := fun m => by rw [GS.takeGo, if_pos h]
      have ih := takeGo_snoc l (remL f y) n
      simp only [e1]
      by_cases hc : (GS.takeGo (remL f y) l).1.contains n = true
      · rw [if_pos hc] at ih
        rw [ih, if_pos hc]
        rfl
      · rw [if_neg hc] at ih
        rw [ih, if_neg hc]
    · have e1 : ∀ m, GS.takeGo f (y :: m) = GS.takeGo f m := fun m => by rw [GS.takeGo, if_neg h]
      rw [e1, e1]
      exact takeGo_snoc l f n
theorem takeGo_none : ∀ (l f : List Int), (GS.takeGo f l).2 = [] → (GS.takeGo f l).1 = f
  | [], _, _ => rfl
  | y :: l, f, h => by
    unfold GS.takeGo at h ⊢
    split
    · rename_i hc
      rw [if_pos hc] at h
      cases h
    · rename_i hc
      rw [if_neg hc] at h
      exact takeGo_none l f h
theorem aput_aput {κ ν : Type} [DecidableEq κ] (l : List (κ × ν)) (k : κ) (v u : ν) : aput (aput l k v) k u = aput l k u := by
  induction l with
  | nil => simp [aput]
  | cons p l ih =>
    obtain ⟨a, b⟩ := p
    simp only [aput]
    by_cases h : a = k
    · subst h; simp [aput]
    · rw [if_neg h, if_neg h]
      simp only [aput, if_neg h, ih]
theorem take_fl (g : GS) (who : ByteArray) (l : List Int) (hi : g.is who = true) : (g.take who l).2.fl who = (GS.takeGo (g.fl who) l).1 ∧ (g.take who l).2.is who = true := by
  unfold GS.take
  rw [if_pos hi]
  dsimp only
  split
  · rename_i h
    exact ⟨(takeGo_none l _ h).symm, hi⟩
  · unfold GS.fl GS.is
    simp only [aget_aput, if_pos]
    exact ⟨rfl, rfl⟩
theorem take_succ (g : GS) (who : ByteArray) (l : List Int) (hi : g.is who = true) (n : Int) :
    g.take who (l ++ [n]) = if ((g.take who l).2.fl who).contains n then ((g.take who l).1 ++ [n], { (g.take who l).2 with flight := aput (g.take who l).2.flight who (remL ((g.take who l).2.fl who) n) }) else g.take who l := by
  rw [(take_fl g who l hi).1]
  unfold GS.take
  rw [if_pos hi]
  dsimp only
  rw [takeGo_snoc]
  split
  · dsimp only
    rw [if_neg (by simp)]
    split
    · rename_i h
      rw [h]
    · simp only [aput_aput]
  · rfl
set_option maxRecDepth 100000 in
theorem remove_out {w : World} {v : Value} {xs : List Int} (h : Own w v xs) (hr : Ris xs) (hb : xs.length ≤ 1000000000) (n : Int) (hc : xs.contains n = false) :
    Calls Try.prog 50 #[v, .int .i64 n] w fun e w' => e = .returned (.tuple #[v, .bool false]) ∧ Only [] w w' := by
  have hB := bsearch_any h.slc hr hb n
  obtain ⟨A, cap, rfl, _, _⟩ := own_form h
  rw [hc] at hB
  have HB := Lib.hid hB
  clear hB hc
  go_enter Try.func50, Try.ntmps50
  go_wp2_with (go_at_call 48; refine HB.out.mono ?_; rintro e w1 ⟨rfl, ho1⟩)
  go_ret2
  exact ⟨rfl, ho1⟩
section
variable {w : World} {gb fb tb N : Nat} {vw vp va vs : Value} {pf : ByteArray → Value} {g : GS}
/-- What take leaves: the group, and a row of those that were taken. -/
def TakeOut (w : World) (H : List Nat) (gb fb tb : Nat) (r : List Int × GS) (e : Ending) (w' : World) : Prop :=
  ∃ ov vw vp va vs pf, e = .returned ov ∧ Own w' ov r.1 ∧ GAt w' gb fb tb vw vp va vs pf r.2 ∧ Stepped w w' H (hG gb fb tb (rowsOf vw vp va vs pf r.2)) ∧ ∀ b, ov.ownBlock = some b → w.heap.size ≤ b ∧ b ∉ hG gb fb tb (rowsOf vw vp va vs pf r.2)
theorem fv_in {w : World} (h : GAt w gb fb tb vw vp va vs pf g) (who : ByteArray) : ∀ b, (fv pf g who).ownBlock = some b → b ∈ blocksOf (rowsOf vw vp va vs pf g) := fun b hb => by
  unfold fv GS.is at hb
  cases hx : aget g.flight who with
  | none => rw [hx] at hb; cases hb
  | some l =>
    rw [hx] at hb
    refine mem_blocksOf.2 ⟨(pf who, l), ?_, hb⟩
    simp only [rowsOf, List.mem_cons]
    exact .inr (.inr (.inr (.inr (List.mem_map.2 ⟨(who, l), aget_mem hx, rfl⟩))))
theorem take_len {g : GS} (who : ByteArray) (l : List Int) : (g.take who l).1.length ≤ l.length := by
  have h : ∀ (l f : List Int), (GS.takeGo f l).2.length ≤ l.length := by
    intro l
    induction l with
    | nil => intro f; simp [GS.takeGo]
    | cons y l ih =>
      intro f
      unfold GS.takeGo
      split
      · have := ih (remL f y); simp; omega
      · have := ih f; simp; omega
  unfold GS.take
  split
  · exact h l _
  · simp
set_option maxRecDepth 100000 in
set_option maxHeartbeats 2000000 in
theorem take_any (h : GAt w gb fb tb vw vp va vs pf g) (hok : g.Ok N) (hN : N ≤ 10000) (who : ByteArray) {lv : Value} {l : List Int} (hl : Slc w 1 lv l.length (ints l)) (hlb : ∀ b, lv.ownBlock = some b → b ∉ hG gb fb tb (rowsOf vw vp va vs pf g) ∨ l = []) (hll : l.length ≤ 1000000) :
    Calls Try.prog 37 #[.pointer (some ⟨gb, 0, none⟩), .string who, lv] w (TakeOut w (hG gb fb tb (rowsOf vw vp va vs pf g)) gb fb tb (g.take who l)) := by
  have HI := Lib.hid (is_any h who)
  obtain ⟨Al, cl, rfl, hln, hlm, hel⟩ := hl.openI
  unfold maxLen at hlm
  cases hi : g.is who with
  | false =>
    have hR : g.take who l = ([], g) := by unfold GS.take; rw [if_neg (by rw [hi]; decide)]
    rw [hR]
    rw [hi] at HI
    clear hel hR hi
    go_enter Try.func37, Try.ntmps37
    go_wp2_with (go_at_call 30; refine HI.out.mono ?_; rintro e w1 ⟨rfl, rfl⟩)
    go_ret
    exact ⟨_, _, _, _, _, _, rfl, Own.nil _, h, Stepped.refl _ _, fun b hb => by cases hb⟩
  | true =>
    rw [hi] at HI
    obtain ⟨i0, hi0, hz0, hz1, hz2⟩ := info_parts infoI
    obtain ⟨H, hH⟩ : ∃ H, H = hG gb fb tb (rowsOf vw vp va vs pf g) := ⟨_, rfl⟩
    have hltH := h.lt
    rw [← hH] at hlb hltH ⊢
    have HSt0 := Lib.hid (show Stepped w w H (hG gb fb tb (rowsOf vw vp va vs pf g)) by rw [hH]; exact Stepped.refl _ _)
    have HIs := Lib.hid hi
    have htake0 : g.take who [] = ([], g) := by unfold GS.take; rw [if_pos hi]; rfl
    clear hH hi
    go_enter Try.func37, Try.ntmps37
    go_wp2_with (go_at_call 30; refine HI.out.mono ?_; rintro e w1 ⟨rfl, rfl⟩)
    go_loopw [7, 18] (fun o iv wr => ∃ (i : Nat) (vw' vp' va' vs' : Value) (pf' : ByteArray → Value), i ≤ l.length ∧ iv = .int .i64 i ∧ Own wr o (g.take who (l.take i)).1 ∧ GAt wr gb fb tb vw' vp' va' vs' pf' (g.take who (l.take i)).2 ∧ Stepped w wr H (hG gb fb tb (rowsOf vw' vp' va' vs' pf' (g.take who (l.take i)).2)) ∧ ∀ b, o.ownBlock = some b → w.heap.size ≤ b ∧ b ∉ hG gb fb tb (rowsOf vw' vp' va' vs' pf' (g.take who (l.take i)).2)) (fun _ iv _ => l.length - (intOf iv).toNat)
    case atStart =>
      refine ⟨0, vw, vp, va, vs, pf, Nat.zero_le _, rfl, ?_, ?_, ?_, fun b hb => by cases hb⟩
      · rw [List.take_zero, htake0]
        exact Own.nil _
      · rw [List.take_zero, htake0]
        exact h
      · rw [List.take_zero, htake0]
        exact HSt0.out
    case round =>
      obtain ⟨i, vw', vp', va', vs', pf', hil, rfl, hO, hA, hSt, hob⟩ := hrel
      by_cases hlt : i < l.length
      · obtain ⟨bl, ol, rfl, hbl, hcl⟩ := hel i hlt
        have hts := take_succ g who (l.take i) HIs.out l[i]
        rw [← List.take_succ_eq_append_getElem hlt] at hts
        have hfi := (take_fl g who (l.take i) HIs.out).2
        have hGok := (GS.take_ok hok who (l.take i)).1
        have hol := take_len (g := g) who (l.take i)
        have hol2 : (l.take i).length ≤ 1000000 := by simp; omega
        obtain ⟨n, hn⟩ : ∃ n, n = l[i] := ⟨_, rfl⟩
        obtain ⟨r, hr⟩ : ∃ r, r = g.take who (l.take i) := ⟨_, rfl⟩
        rw [← hn] at hcl hts
        rw [← hr] at hts hO hA hSt hob hfi hGok hol
        obtain ⟨o, G⟩ := r
        dsimp only at hts hO hA hSt hob hfi hGok hol
        have c0 : wr.cell? ⟨bl, ol + i, none⟩ = some (.int .i64 n) := by
          obtain ⟨S, k1, k2⟩ := hSt.only
          exact (k1.cell hbl (fun q => (hlb bl rfl).resolve_right (fun e => by rw [e] at hlt; simp at hlt) (k2 bl q))).trans hcl
        have hFo := hA.fl who
        have hFok := hGok.flOf who
        have hFl := hGok.len hFok
        have hfin := fv_in hA who
        have hlk := flightOf G pf' who
        have c5 : wr.cell? ⟨gb, 5, none⟩ = some (.map (some fb)) := hA.blk.cell 5
        have hmF := hA.flight
        obtain ⟨F, hF⟩ : ∃ F, F = G.fl who := ⟨_, rfl⟩
        rw [← hF] at hts hFo hFok hFl
        obtain ⟨Ao, co, rfl, hao1, hao2⟩ := own_form hO
        clear hn hr hcl hel
        cases hc : F.contains n with
        | false =>
          rw [hc, if_neg (by decide)] at hts
          have hrm := remove_out hFo hFok.ris (by omega) n hc
          obtain ⟨fo, hfo⟩ : ∃ fo, fo = fv pf' G who := ⟨_, rfl⟩
          rw [← hfo] at hrm hlk
          have HRm := Lib.hid hrm
          have HLk := Lib.hid hlk
          have HMF := Lib.hid hmF
          have HTs := Lib.hid hts
          clear hrm hlk hmF hts hc hFo hF hfo hfin
          go_wp2_with (first
            | (refine wpList_lookup_is rfl 50 rfl keyEnc_string Try.underlying50 Try.underlying9 (zeroInts _) who rfl rfl HMF.out _ HLk.out ?_)
            | (go_at_call 50; refine HRm.out.mono ?_; rintro e w4 ⟨rfl, ho4⟩))
          refine ⟨⟨i + 1, vw', vp', va', vs', pf', hlt, by simp, ?_⟩, by simp [intOf]; omega⟩
          rw [HTs.out]
          exact ⟨hO.only0 ho4, hA.only0 ho4, hSt.then0 ho4, hob⟩
        | true =>
          rw [hc, if_pos rfl] at hts
          have hrm := remove_any hFo hFok.ris (by omega) n
          rw [hc] at hrm
          obtain ⟨fo, hfo⟩ : ∃ fo, fo = fv pf' G who := ⟨_, rfl⟩
          have hput := fun (w4 w5 : World) (v4 : Value) (kr : RowTo wr fo w4 v4 (remL F n)) (k2 : Only [fb] w4 w5) (hm : MapIs Value.string w5 fb (aput (G.flight.map fun p => (p.1, pf' p.1)) who v4)) => hA.putF (who := who) (by rw [← hfo]; exact kr) k2 hm
          rw [← hfo] at hrm hlk hfin
          have hnb : ∀ b, fo.ownBlock = some b → b ≠ gb ∧ b ≠ fb ∧ b ≠ tb := fun b hb => hA.rowne b (hfin b hb)
          have HRm := Lib.hid hrm
          have HLk := Lib.hid hlk
          have HMF := Lib.hid hmF
          have HTs := Lib.hid hts
          have HPut := Lib.hid hput
          have hnet := hA.nef
          have hltA := hA.lt
          have hfS : fb ∉ fo.ownBlock.toList := fun q => (hnb fb (by simpa using q)).2.1 rfl
          have hgS : gb ∉ fo.ownBlock.toList := fun q => (hnb gb (by simpa using q)).1 rfl
          have hob2 : ∀ b, (Value.slice Ao o.length co).ownBlock = some b → b ∉ fo.ownBlock.toList := fun b hb q => (hob b hb).2 (mem_hG.2 (.inr (.inr (.inr (hfin b (by simpa using q))))))
          have hob3 : ∀ b, (Value.slice Ao o.length co).ownBlock = some b → b ≠ fb := fun b hb q => (hob b hb).2 (mem_hG.2 (.inr (.inl q)))
          have hB := hA.blk
          clear hrm hlk hmF hts hc hFo hF hfo hput hfin
          go_wp2_with (first
            | (refine wpList_lookup_is rfl 50 rfl keyEnc_string Try.underlying50 Try.underlying9 (zeroInts _) who rfl rfl HMF.out _ HLk.out ?_)
            | (go_at_call 50; refine HRm.out.mono ?_; rintro e w4 ⟨v4, rfl, kr4⟩
               have hB4 := kr4.only.blk hB hgS
               have e5 : w4.cell? ⟨gb, 5, none⟩ = some (.map (some fb)) := hB4.cell 5)
            | (refine wpList_update_is rfl 50 rfl keyEnc_string Try.underlying50 Try.underlying9 who v4 rfl rfl rfl (HMF.out.only kr4.only hfS) ?_; intro w5 hm5 hk5
               have hO5 := (hO.only kr4.only hob2).only hk5 (fun b hb q => hob3 b hb (by simpa using q)))
            | (at_builtin; refine wpList_append_lies _ rfl (.tmp 40) (.tmp 42) 22 rfl 0 3 i0 (.int .i64 0) 1 8 Try.underlying22 hi0 hz0 hz1 hz2 rfl (by decide) (.slice Ao o.length co) o.length _ rfl (hO5.only0 ((Only.refl [] w5).alloc _)) ⟨w5.heap.size, 0, none⟩ 1 1 [.int .i64 n] rfl rfl (news_blk (Blk.new w5 3 _)) ?c2 (by decide) ?c3 ?c4 (Nat.zero_le _) _ rfl ?_))
          case c2 => simp [Value.oneCell']
          case c3 => unfold maxLen; omega
          case c4 => omega
          intro g6 cap6 w6 hown6 hgrow6 hlie6 hg6
          obtain ⟨h5, st5⟩ := HPut.out w4 w5 v4 kr4 hk5 hm5
          have hOut : Only (Value.slice Ao o.length co).ownBlock.toList w5 w6 := (((Only.refl [] w5).alloc _).of_nil).grown hgrow6 (fun b hb => .inl (by simp [hb]))
          have hzw : wr.heap.size ≤ w5.heap.size := st5.size
          have hOlt := hO.lt
          have hnotH : ∀ b, (Value.slice Ao o.length co).ownBlock = some b → b ∉ hG gb fb tb (rowsOf vw' vp' va' vs' (fun a => if a = who then v4 else pf' a) { G with flight := aput G.flight who (remL F n) }) := fun b hb q => by
            rcases st5.blk b q with q2 | q2
            · exact (hob b hb).2 q2
            · have := hOlt b hb
              omega
          have h6 := h5.only hOut (fun b hb q => hnotH b (by simpa using q) hb)
          have hlt5 := h5.lt
          have hown7 : Own w6 (.slice (some ⟨g6, 0, none⟩) (o.length + 1) cap6) (o ++ [n]) := by
            unfold Own
            rw [show ints (o ++ [n]) = ints o ++ [.int .i64 n] by simp [ints], List.length_append]
            exact hown6
          have hst6 : Stepped w w6 H (hG gb fb tb (rowsOf vw' vp' va' vs' (fun a => if a = who then v4 else pf' a) { G with flight := aput G.flight who (remL F n) })) := by
            have st := hSt.trans st5
            have hzs := hSt.size
            obtain ⟨⟨S, s1, s2⟩, s3⟩ := st
            exact ⟨⟨S, s1.step hOut (fun b hb => .inr (hob b (by simpa using hb)).1), s2⟩, s3⟩
          have hob6 : ∀ b, (Value.slice (some ⟨g6, 0, none⟩) (o.length + 1) cap6).ownBlock = some b → w.heap.size ≤ b ∧ b ∉ hG gb fb tb (rowsOf vw' vp' va' vs' (fun a => if a = who then v4 else pf' a) { G with flight := aput G.flight who (remL F n) }) := fun b hb => by
            have e : g6 = b := by cases hb; rfl
            subst e
            rcases hlie6 with q | q
            · exact ⟨(hob g6 q).1, hnotH g6 q⟩
            · have hz0 := hSt.size
              have e2 : g6 = w5.heap.size + 1 := by simpa using q
              refine ⟨by omega, fun q2 => ?_⟩
              have := hlt5 g6 q2
              omega
          clear hgrow6 hlie6 hown6 HPut hk5 hm5 kr4
          go_wp2
          refine ⟨⟨i + 1, vw', vp', va', vs', (fun a => if a = who then v4 else pf' a), hlt, by simp, ?_⟩, by simp [intOf]; omega⟩
          rw [HTs.out]
          exact ⟨hown7, h6, hst6, hob6⟩
      · have hie : i = l.length := by omega
        subst hie
        rw [List.take_length] at hO hA hSt hob
        clear hel
        obtain ⟨Ao, co, rfl, _, _⟩ := own_form hO
        go_wp2
        go_ret
        exact ⟨_, _, _, _, _, _, rfl, hO, hA, hSt, hob⟩
end
end Go.Proofs.Ythjgplgfcbhihaa
