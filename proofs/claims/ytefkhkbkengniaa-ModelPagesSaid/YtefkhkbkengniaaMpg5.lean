/- ModelPages: pages one behind the other are all that is seen; the walk. -/
import Derived.Test.YtefkhkbkengniaaMpg4
import Derived.Test.YtefkhkbkengniaaMl2
import Derived.Test.YtefkhkbkengniaaMe3
set_option linter.unusedVariables false
set_option linter.unusedSimpArgs false
namespace Go.Proofs.Ytefkhkbkengniaa
open Go.RowKit
theorem bytes_inj {a b : ByteArray} (h : a.toList = b.toList) : a = b := by
  rw [ByteArray.toList_eq, ByteArray.toList_eq] at h
  cases a
  cases b
  simp only [ByteArray.mk.injEq]
  exact Array.toList_inj.1 h
theorem inv2_run : ∀ (l : List CmdV) (s : MS), s.Inv → s.Inv2 → (runS s l).Inv2
  | [], _, _, h2 => h2
  | x :: l, s, h1, h2 => inv2_run l (s.do x.c).2 (inv_do h1 x.c) (inv2_do h1 h2 x.c)
theorem readF_bad (s : MS) (n : ByteArray) (f k : Int) (h : (s.find n).deleted = true ∨ (s.find n).places.length = 0) : (s.readF n f k).2 ≠ 0 := by
  unfold MS.readF
  split
  · decide
  split
  · decide
  · rename_i h1
    rw [if_pos (h.resolve_left h1)]
    decide
section
variable {a w : World} {R E : List Nat} {sb mb N : Nat} {s : MS}
theorem has_walkAll (h : HasS a w R E sb mb s N) (hN : N ≤ 100000) (hf : s.all.length < 300) (n : Int) (hn : 1 ≤ n ∧ n ≤ 100) :
    Calls Try.prog 26 #[.pointer (some ⟨sb, 0, none⟩), .string ⟨#[]⟩, .int .i64 n] w fun e w' => ∃ v, e = .returned v ∧ w'.ownsRow w.heap.size 48 8 v s.seenAll.length (s.seenAll.flatMap StoredR.cells) ∧ Only [] w w' := by
  have hw := walk_any h hN ⟨#[]⟩ (Nat.zero_le _) n
  have e1 : s.pageOf ⟨#[]⟩ n = fun a => forwardBy StoredR.position s.seenAll a n := by
    funext a
    unfold MS.pageOf
    rw [if_pos (by rw [ByteArray.toList_eq])]
  have hsl : s.seenAll.length ≤ s.all.length := List.length_filter_le _ _
  rw [e1, walkP_all hn (rising_all h.inv) (fun e he => by
    obtain ⟨i, hi, rfl⟩ := List.mem_iff_getElem.1 (List.mem_filter.1 he).1
    rw [h.inv.pos i hi]
    omega) (by omega)] at hw
  exact hw
theorem has_walkS (h : HasS a w R E sb mb s N) (hN : N ≤ 100000) (hf : s.all.length < 300) (h2 : s.Inv2) (stream : ByteArray) (hst : stream.size ≤ maxLen) (n : Int) (hn : 1 ≤ n ∧ n ≤ 100) (hd : (s.find stream).deleted = false) (h0 : (s.find stream).places.length ≠ 0) :
    Calls Try.prog 26 #[.pointer (some ⟨sb, 0, none⟩), .string stream, .int .i64 n] w fun e w' => ∃ v, e = .returned v ∧ w'.ownsRow w.heap.size 48 8 v (s.seenL stream).length ((s.seenL stream).flatMap StoredR.cells) ∧ Only [] w w' := by
  have hw := walk_any h hN stream hst n
  have hnm := name_of h.inv h2 stream h0
  have hne : stream.toList ≠ [] := by
    intro q
    have h1 : stream.data.toList = [] := by rw [← ByteArray.toList_eq]; exact q
    have h3 : stream.size = 0 := by
      have : stream.data.toList.length = 0 := by rw [h1]; rfl
      simpa using this
    simp [nameOk, h3] at hnm
  have hsl : (s.seenL stream).length ≤ s.all.length := by
    rw [seenL_filter h.inv h2 stream]
    exact Nat.le_trans (List.length_filter_le _ _) (List.length_filter_le _ _)
  have e2 : ∀ k f, walkP (s.pageOf stream n) k f = walkP (fun a => if 0 ≤ a then forwardBy StoredR.version (s.seenL stream) a n else s.readF stream a n) k f := fun k f => by
    congr 1
    funext a
    unfold MS.pageOf
    rw [if_neg hne]
    split
    · rename_i ha
      unfold MS.readF
      rw [if_neg (by simp [MS.readOk, hnm, ha, hn.1, hn.2]), if_neg (by simp [hd]), if_neg h0]
    · rfl
  have e3 : ∀ k f, walkP (s.pageOf stream n) k f = walkP (fun a => forwardBy StoredR.version (s.seenL stream) a n) k f := fun k f => by
    congr 1
    funext a
    unfold MS.pageOf
    rw [if_neg hne]
    by_cases ha : 0 ≤ a
    · unfold MS.readF
      rw [if_neg (by simp [MS.readOk, hnm, ha, hn.1, hn.2]), if_neg (by simp [hd]), if_neg h0]
    · unfold MS.readF forwardBy
      rw [if_pos (by simp [MS.readOk, ha]), if_pos (by simp [wrongP]; omega)]
  rw [e3, walkP_all hn (rising_stream h.inv h2 stream) (fun e he => (seenL_vers h.inv h.ok hN stream e he).1) (by omega)] at hw
  exact hw
end
set_option maxRecDepth 100000 in
set_option maxHeartbeats 4000000 in
theorem pages_go (w : World) (v1 : Value) (l : List CmdV) (stream : ByteArray) (n : Int) (h1 : CmdsAt w w v1 l) (hst : stream.size ≤ maxLen) :
    Calls Try.prog 7 #[v1, .string stream, .int .i64 n] w fun e w' => e = .returned (.bool true) ∧ Only [] w w' := by
  obtain ⟨A, cap, rfl, hnc, hcm, hel⟩ := h1.cells
  unfold maxLen at hcm
  have HL1 := Lib.hid (fun (W : World) (hw : Only [] w W) => show Calls Try.prog 10 #[.int .i64 25, .slice A l.length cap] W fun e w' => RetB e (fun b => b = true → l.length ≤ 25) ∧ Only [] W w' from light_any (h1.keep0 hw) 25 (by omega))
  by_cases g1 : stream.size > 60
  · go_enter Try.func7, Try.ntmps7
    go_wp2_with fail
    refine (HL1.out _ (Only.refl _ _)).mono ?_
    rintro e w1 ⟨⟨b1, rfl, hl1⟩, ho1⟩
    clear hl1
    cases b1
    · go_wp2_with (go_at_call 11; refine (alive_any _).mono ?_; rintro e w3 ⟨rfl, ho3⟩)
      go_ret
      exact ⟨rfl, ho1.trans ho3⟩
    · go_wp2_with (go_at_call 11; refine (alive_any _).mono ?_; rintro e w3 ⟨rfl, ho3⟩)
      go_ret
      exact ⟨rfl, ho1.trans ho3⟩
  by_cases g2 : n < 1
  · go_enter Try.func7, Try.ntmps7
    go_wp2_with fail
    refine (HL1.out _ (Only.refl _ _)).mono ?_
    rintro e w1 ⟨⟨b1, rfl, hl1⟩, ho1⟩
    clear hl1
    cases b1
    · go_wp2_with (go_at_call 11; refine (alive_any _).mono ?_; rintro e w3 ⟨rfl, ho3⟩)
      go_ret
      exact ⟨rfl, ho1.trans ho3⟩
    · go_wp2_with (go_at_call 11; refine (alive_any _).mono ?_; rintro e w3 ⟨rfl, ho3⟩)
      go_ret
      exact ⟨rfl, ho1.trans ho3⟩
  by_cases g3 : n > 30
  · go_enter Try.func7, Try.ntmps7
    go_wp2_with fail
    refine (HL1.out _ (Only.refl _ _)).mono ?_
    rintro e w1 ⟨⟨b1, rfl, hl1⟩, ho1⟩
    clear hl1
    cases b1
    · go_wp2_with (go_at_call 11; refine (alive_any _).mono ?_; rintro e w3 ⟨rfl, ho3⟩)
      go_ret
      exact ⟨rfl, ho1.trans ho3⟩
    · go_wp2_with (go_at_call 11; refine (alive_any _).mono ?_; rintro e w3 ⟨rfl, ho3⟩)
      go_ret
      exact ⟨rfl, ho1.trans ho3⟩
  obtain ⟨j0, hj, hy0, hy1, hy2⟩ := info_parts infoSt
  go_enter Try.func7, Try.ntmps7
  go_wp2_with fail
  refine (HL1.out _ (Only.refl _ _)).mono ?_
  rintro e w1 ⟨⟨b1, rfl, hl1⟩, ho1⟩
  cases b1
  · go_wp2_with (go_at_call 11; refine (alive_any _).mono ?_; rintro e w3 ⟨rfl, ho3⟩)
    go_ret
    exact ⟨rfl, ho1.trans ho3⟩
  have hl25 : l.length ≤ 25 := hl1 rfl
  clear hl1
  go_wp2_with (first
    | (go_at_call 12; refine (has_newS w _ ho1 [] (by simp)).mono ?_; rintro e w4 ⟨rfl, hh4, ho4⟩)
    | (go_at_call 16; refine (run_any hh4 ((h1.keep0 ho1).keep0 ho4) (by omega)).mono ?_; rintro e w5 ⟨rfl, hh5, hk5⟩)
    | (go_at_call 26; refine (has_walkAll hh5 (by omega) (by have := hh5.ok.all; omega) n (by omega)).mono ?_; rintro e w6 ⟨v6, rfl, hown6, ho6⟩)
    | (go_at_call 19; refine (has_every (hh5.keep ho6) (by omega)).mono ?_; rintro e w7 ⟨v7, rfl, hown7, ho7⟩))
  have hh7 := (hh5.keep ho6).keep ho7
  have hsz7 : w6.heap.size ≤ w7.heap.size := ho7.size
  have hs6 := Slc.only0 (Slc.of_own hown6).1 ho7
  have hs7 := (Slc.of_own hown7).1
  obtain ⟨A6, cap6, rfl, _⟩ := own_form hown6
  obtain ⟨A7, cap7, rfl, _⟩ := own_form hown7
  have hinv2 := inv2_run l MS.new inv_new inv2_new
  obtain ⟨sb, hsb⟩ : ∃ sb, sb = w1.heap.size + 1 := ⟨_, rfl⟩
  obtain ⟨mb, hmb⟩ : ∃ mb, mb = w1.heap.size := ⟨_, rfl⟩
  rw [← hsb, ← hmb] at hh7
  have HSB := Lib.hid hsb
  clear hsb hmb hh4 hh5 hown6 hown7 hk5 ho6 ho7 ho4
  obtain ⟨S0, hS0⟩ : ∃ S0, S0 = runS MS.new l := ⟨_, rfl⟩
  rw [← hS0] at hh7 hs6 hs7 hinv2 ⊢
  clear hS0
  have hal : S0.all.length ≤ 200 := by have := hh7.ok.all; omega
  have hts : S0.seenAll.length ≤ S0.all.length := List.length_filter_le _ _
  obtain ⟨_, _, e7, hnc7, hcm7, hel7⟩ := hs7.openE StoredR.cells (fun _ => rfl)
  injection e7 with e71 e72 e73
  subst e71 e73
  unfold maxLen at hcm7
  clear hs7
  rw [← HSB.out]
  go_loopw [9, 11] (fun o i wr => ∃ k : Nat, k ≤ S0.all.length ∧ i = .int .i64 k ∧ Only [] w7 wr ∧ wr.ownsRow w7.heap.size 48 8 o ((S0.all.take k).filter (fun e => S0.seenAt e.position)).length (((S0.all.take k).filter (fun e => S0.seenAt e.position)).flatMap StoredR.cells)) (fun _ i _ => S0.all.length - (intOf i).toNat)
  case atStart => exact ⟨0, Nat.zero_le _, rfl, Only.refl _ _, World.ownsRow_nil _ _ _ _⟩
  case round =>
    obtain ⟨k, hk, rfl, hO, hown⟩ := hrel
    by_cases hlt : k < S0.all.length
    · obtain ⟨b, off, rfl, hbb, hcc⟩ := hel7 k hlt
      have hsn := has_seen (hh7.keep hO) (by omega) k
      have hstep : (S0.all.take (k + 1)).filter (fun e => S0.seenAt e.position) = (S0.all.take k).filter (fun e => S0.seenAt e.position) ++ (if S0.seenAt k then [S0.all[k]] else []) := by
        rw [List.take_succ_eq_append_getElem hlt, List.filter_append]
        congr 1
        simp only [List.filter_cons, List.filter_nil]
        rw [hh7.inv.pos k hlt]
      have hacl : ((S0.all.take k).filter (fun e => S0.seenAt e.position)).length ≤ 200 := by
        have := List.length_filter_le (fun e => S0.seenAt e.position) (S0.all.take k)
        simp at this
        omega
      obtain ⟨acc, hacc⟩ : ∃ acc, acc = (S0.all.take k).filter (fun e => S0.seenAt e.position) := ⟨_, rfl⟩
      rw [← hacc] at hown hstep hacl
      obtain ⟨z, hz⟩ : ∃ z, z = S0.all[k] := ⟨_, rfl⟩
      rw [← hz] at hstep hcc
      clear hacc hz
      cases hq : S0.seenAt k with
      | true =>
        rw [hq, if_pos rfl] at hstep
        rw [hq] at hsn
        have HSn := Lib.hid hsn
        have HSt := Lib.hid hstep
        have HC := Lib.hid (fun (W : World) (hW : Only [] w7 W) (r : Nat) (hr : r < 8) => (hW.cell (p := ⟨b, off + k * 8 + r, none⟩) hbb (by simp)).trans (hcc r hr))
        have hsf := stF
        clear hsn hstep hq hcc hel7
        go_wp2_with fail
        refine HSn.out.mono ?_
        rintro e w9 ⟨rfl, ho9⟩
        have hO9 := hO.trans ho9
        have hown9 := own_only hown ho9 (by simp)
        have d0 : w9.cell? ⟨b, off + k * 8, none⟩ = some (.int .i64 z.ev.id) := HC.out w9 hO9 0 (by omega)
        have d1 : w9.cell? ⟨b, off + k * 8 + 1, none⟩ = some (.string z.ev.type) := HC.out w9 hO9 1 (by omega)
        have d2 : w9.cell? ⟨b, off + k * 8 + 2, none⟩ = some (.string z.ev.data) := HC.out w9 hO9 2 (by omega)
        have d3 : w9.cell? ⟨b, off + k * 8 + 3, none⟩ = some (.float .f64 z.ev.value) := HC.out w9 hO9 3 (by omega)
        have d4 : w9.cell? ⟨b, off + k * 8 + 4, none⟩ = some (.string z.stream) := HC.out w9 hO9 4 (by omega)
        have d5 : w9.cell? ⟨b, off + k * 8 + 5, none⟩ = some (.int .i64 z.version) := HC.out w9 hO9 5 (by omega)
        have d6 : w9.cell? ⟨b, off + k * 8 + 6, none⟩ = some (.int .i64 z.position) := HC.out w9 hO9 6 (by omega)
        have d7 : w9.cell? ⟨b, off + k * 8 + 7, none⟩ = some (.int .i64 z.time) := HC.out w9 hO9 7 (by omega)
        go_wp2_with (at_builtin; refine wpList_append_own _ rfl (.tmp 53) (.tmp 58) 45 rfl w7.heap.size 48 j0 (.agg #[.int .i64 0, .string ⟨#[]⟩, .string ⟨#[]⟩, .float .f64 0, .string ⟨#[]⟩, .int .i64 0, .int .i64 0, .int .i64 0]) 8 88 Try.underlying45 hj hy0 hy1 hy2 rfl (by decide) _ _ _ rfl (World.ownsRow.alloc hown9 _) ⟨w9.heap.size, 0, none⟩ 1 1 [.int .i64 z.ev.id, .string z.ev.type, .string z.ev.data, .float .f64 z.ev.value, .string z.stream, .int .i64 z.version, .int .i64 z.position, .int .i64 z.time] rfl rfl (news_blk (Blk.new w9 48 _)) ?c2 ?c3 ?c4 ?c5 ?_)
        case c2 => simp [Value.oneCell']
        case c3 => unfold maxLen; omega
        case c4 => omega
        case c5 => have := hO9.size; simp; omega
        intro v' w4 hown' hgrow _
        have ho4 : Only [] w7 w4 := (hO9.alloc _).grown hgrow (fun k hk => .inr (hown9.lt k hk).1)
        clear hgrow
        have hown2 : w4.ownsRow w7.heap.size 48 8 v' ((S0.all.take (k + 1)).filter (fun e => S0.seenAt e.position)).length (((S0.all.take (k + 1)).filter (fun e => S0.seenAt e.position)).flatMap StoredR.cells) := by
          rw [HSt.out, flat_snoc, List.length_append]
          exact hown'
        have HO2 := Lib.hid hown2
        clear hown' hown2
        go_wp2
        exact ⟨⟨k + 1, hlt, by simp, ho4, HO2.out⟩, by simp [intOf]; omega⟩
      | false =>
        rw [hq, if_neg (by simp), List.append_nil] at hstep
        rw [hq] at hsn
        have HSn := Lib.hid hsn
        have HSt := Lib.hid hstep
        clear hsn hstep hq hcc hel7
        go_wp2_with (go_at_call 24; refine HSn.out.mono ?_; rintro e w9 ⟨rfl, ho9⟩)
        exact ⟨⟨k + 1, hlt, by simp, hO.trans ho9, by rw [HSt.out]; exact own_only hown ho9 (by simp)⟩, by simp [intOf]; omega⟩
    · have hke : k = S0.all.length := by omega
      have hwant : wr.ownsRow w7.heap.size 48 8 u9 S0.seenAll.length (S0.seenAll.flatMap StoredR.cells) := by
        rw [hke, List.take_length] at hown
        exact hown
      obtain ⟨A8, cap8, rfl, hn8, hc8⟩ := own_form hwant
      have hsw := (Slc.of_own hwant).1
      have hsm := sameL_any (hs6.only0 hO) hsw (by omega) (by omega)
      rw [sameL_refl] at hsm
      have HSm := Lib.hid hsm
      have hhr := hh7.keep hO
      have hdl := fun (W : World) (hW : Only [] wr W) => has_deleted (hhr.keep hW) stream
      have hct := fun (W : World) (hW : Only [] wr W) => has_count (hhr.keep hW) stream
      have hrd := fun (W : World) (hW : Only [] wr W) => has_read (hhr.keep hW) (by omega) stream hst 0 n
      have hfl := fun (W : World) (hW : Only [] wr W) => has_floor (hhr.keep hW) (by omega) stream
      have hbad := readF_bad S0 stream 0 n
      have hgood := fun (W : World) (hW : Only [] wr W) hd h0 => has_walkS (hhr.keep hW) (by omega) (by omega) hinv2 stream hst n (by omega) hd h0
      have hsf := seenL_filter hh7.inv hinv2 stream
      have hlen := seenL_length (s := S0) stream
      have hfb := floorS_bd S0 stream
      have hpl : (S0.find stream).places.length ≤ 200 := Nat.le_trans (hh7.ok.xok stream).few hal
      have hOw := hh7.only.trans hO
      obtain ⟨c, hc⟩ : ∃ c, c = (S0.find stream).places.length := ⟨_, rfl⟩
      obtain ⟨fo, hfo⟩ : ∃ fo, fo = S0.floorS stream := ⟨_, rfl⟩
      obtain ⟨r, hr⟩ : ∃ r, r = S0.readF stream 0 n := ⟨_, rfl⟩
      obtain ⟨T, hT⟩ : ∃ T, T = S0.seenAll := ⟨_, rfl⟩
      obtain ⟨U, hU⟩ : ∃ U, U = S0.seenL stream := ⟨_, rfl⟩
      rw [← hc] at hct hbad hgood hlen hfb hpl
      rw [← hfo] at hfl hlen hfb
      rw [← hr] at hrd hbad
      rw [← hU] at hgood hsf hlen
      rw [← hT] at hsf hwant hsw hts HSm hn8 ⊢
      obtain ⟨⟨evs, nx, en⟩, err⟩ := r
      dsimp only at hrd hbad
      clear hr hT hU hfo hc hown hke hel7 hs6 hsm hhr hh7 hinv2 hk
      have HRd := Lib.hid hrd
      have HFl := Lib.hid hfl
      have HCt := Lib.hid hct
      have HGood := Lib.hid hgood
      have HSf := Lib.hid hsf
      have HLen := Lib.hid hlen
      clear hrd hfl hct hgood hsf hlen
      cases hd : (S0.find stream).deleted with
      | true =>
        have herr := hbad (.inl hd)
        have herb : (err != 0) = true := by rw [bne_iff_ne]; exact herr
        rw [hd] at hdl
        have HDl := Lib.hid hdl
        clear hdl hd hbad HGood HLen hsw
        go_wp2_with (first
          | (go_at_call 23; refine HSm.out.mono ?_; rintro e wa ⟨rfl, hoa⟩)
          | (go_at_call 15; refine (HDl.out _ hoa).mono ?_; rintro e wb ⟨rfl, hob⟩)
          | (go_at_call 27; refine (HRd.out _ (hoa.trans hob)).mono ?_; rintro e wd ⟨vd, rfl, hownd, hod⟩; obtain ⟨Ad, capd, rfl, _, _⟩ := own_form hownd)
          | (go_at_call 11; refine (alive_any _).mono ?_; rintro e we ⟨rfl, hoe⟩))
        go_ret
        exact ⟨rfl, (((((hOw.trans hoa).trans hob).trans hod).alloc _).trans hoe)⟩
      | false =>
        rw [hd] at hdl
        have HDl := Lib.hid hdl
        by_cases h0 : c = 0
        · have herr := hbad (.inr h0)
          have herb : (err != 0) = true := by rw [bne_iff_ne]; exact herr
          rw [h0] at HCt
          clear hdl hd hbad HGood HLen hsw hfb hpl h0
          go_wp2_with (first
            | (go_at_call 23; refine HSm.out.mono ?_; rintro e wa ⟨rfl, hoa⟩)
            | (go_at_call 15; refine (HDl.out _ hoa).mono ?_; rintro e wb ⟨rfl, hob⟩)
            | (go_at_call 20; refine (HCt.out _ (hoa.trans hob)).mono ?_; rintro e wc ⟨rfl, hoc⟩)
            | (go_at_call 27; refine (HRd.out _ ((hoa.trans hob).trans hoc)).mono ?_; rintro e wd ⟨vd, rfl, hownd, hod⟩; obtain ⟨Ad, capd, rfl, _, _⟩ := own_form hownd)
            | (go_at_call 11; refine (alive_any _).mono ?_; rintro e we ⟨rfl, hoe⟩))
          go_ret
          exact ⟨rfl, (((((hOw.trans hoa).trans hob).trans hoc).trans hod).alloc _).trans hoe⟩
        · have hcb : ((c : Int) == 0) = false := by rw [beq_eq_false_iff_ne]; omega
          have HWk := Lib.hid (fun (W : World) (hW : Only [] wr W) => HGood.out W hW hd h0)
          have hUl := HLen.out hd
          have HUl := Lib.hid hUl
          clear hdl hd hbad HGood HLen h0 hUl
          go_wp2_with (first
            | (go_at_call 23; refine HSm.out.mono ?_; rintro e wa ⟨rfl, hoa⟩)
            | (go_at_call 15; refine (HDl.out _ hoa).mono ?_; rintro e wb ⟨rfl, hob⟩)
            | (go_at_call 20; refine (HCt.out _ (hoa.trans hob)).mono ?_; rintro e w8 ⟨rfl, hoc⟩))
          have hO8 := (hoa.trans hob).trans hoc
          have hs8 := hsw.only0 hO8
          obtain ⟨_, _, e8, hnc8, hcm8, hel8⟩ := hs8.openE StoredR.cells (fun _ => rfl)
          injection e8 with e81 e82 e83
          subst e81 e83
          unfold maxLen at hcm8
          clear hs8 hsw hoa hob hoc
          go_loopw [14, 15] (fun o i wx => ∃ k : Nat, k ≤ T.length ∧ i = .int .i64 k ∧ Only [] w8 wx ∧ wx.ownsRow w8.heap.size 48 8 o ((T.take k).filter (fun e => decide (e.stream = stream))).length (((T.take k).filter (fun e => decide (e.stream = stream))).flatMap StoredR.cells)) (fun _ i _ => T.length - (intOf i).toNat)
          case atStart => exact ⟨0, Nat.zero_le _, rfl, Only.refl _ _, World.ownsRow_nil _ _ _ _⟩
          case round =>
            obtain ⟨k, hk, rfl, hO9, hown⟩ := hrel
            by_cases hlt : k < T.length
            · obtain ⟨b, off, rfl, hbb, hcc⟩ := hel8 k hlt
              have hstep : (T.take (k + 1)).filter (fun e => decide (e.stream = stream)) = (T.take k).filter (fun e => decide (e.stream = stream)) ++ (if T[k].stream = stream then [T[k]] else []) := by
                rw [List.take_succ_eq_append_getElem hlt, List.filter_append]
                congr 1
                simp only [List.filter_cons, List.filter_nil, decide_eq_true_eq]
              have hacl : ((T.take k).filter (fun e => decide (e.stream = stream))).length ≤ 200 := by
                have := List.length_filter_le (fun e => decide (e.stream = stream)) (T.take k)
                simp at this
                omega
              obtain ⟨acc, hacc⟩ : ∃ acc, acc = (T.take k).filter (fun e => decide (e.stream = stream)) := ⟨_, rfl⟩
              rw [← hacc] at hown hstep hacl
              obtain ⟨z, hz⟩ : ∃ z, z = T[k] := ⟨_, rfl⟩
              rw [← hz] at hstep hcc
              have d0 : wr.cell? ⟨b, off + k * 8, none⟩ = some (.int .i64 z.ev.id) := (hO9.cell hbb (by simp)).trans (hcc 0 (by omega))
              have d1 : wr.cell? ⟨b, off + k * 8 + 1, none⟩ = some (.string z.ev.type) := (hO9.cell hbb (by simp)).trans (hcc 1 (by omega))
              have d2 : wr.cell? ⟨b, off + k * 8 + 2, none⟩ = some (.string z.ev.data) := (hO9.cell hbb (by simp)).trans (hcc 2 (by omega))
              have d3 : wr.cell? ⟨b, off + k * 8 + 3, none⟩ = some (.float .f64 z.ev.value) := (hO9.cell hbb (by simp)).trans (hcc 3 (by omega))
              have d4 : wr.cell? ⟨b, off + k * 8 + 4, none⟩ = some (.string z.stream) := (hO9.cell hbb (by simp)).trans (hcc 4 (by omega))
              have d5 : wr.cell? ⟨b, off + k * 8 + 5, none⟩ = some (.int .i64 z.version) := (hO9.cell hbb (by simp)).trans (hcc 5 (by omega))
              have d6 : wr.cell? ⟨b, off + k * 8 + 6, none⟩ = some (.int .i64 z.position) := (hO9.cell hbb (by simp)).trans (hcc 6 (by omega))
              have d7 : wr.cell? ⟨b, off + k * 8 + 7, none⟩ = some (.int .i64 z.time) := (hO9.cell hbb (by simp)).trans (hcc 7 (by omega))
              have hsf := stF
              clear hacc hz hcc hel8
              by_cases q : z.stream.toList = stream.toList
              · have qb : (z.stream.toList == stream.toList) = true := by rw [beq_iff_eq]; exact q
                rw [if_pos (bytes_inj q)] at hstep
                have HSt := Lib.hid hstep
                clear hstep q
                go_wp2_with (at_builtin; refine wpList_append_own _ rfl (.tmp 98) (.tmp 103) 45 rfl w8.heap.size 48 j0 (.agg #[.int .i64 0, .string ⟨#[]⟩, .string ⟨#[]⟩, .float .f64 0, .string ⟨#[]⟩, .int .i64 0, .int .i64 0, .int .i64 0]) 8 88 Try.underlying45 hj hy0 hy1 hy2 rfl (by decide) _ _ _ rfl (World.ownsRow.alloc hown _) ⟨wr.heap.size, 0, none⟩ 1 1 [.int .i64 z.ev.id, .string z.ev.type, .string z.ev.data, .float .f64 z.ev.value, .string z.stream, .int .i64 z.version, .int .i64 z.position, .int .i64 z.time] rfl rfl (news_blk (Blk.new wr 48 _)) ?c2 ?c3 ?c4 ?c5 ?_)
                case c2 => simp [Value.oneCell']
                case c3 => unfold maxLen; omega
                case c4 => omega
                case c5 => have := hO9.size; simp; omega
                intro v' w4 hown' hgrow _
                have ho4 : Only [] w8 w4 := (hO9.alloc _).grown hgrow (fun k hk => .inr (hown.lt k hk).1)
                clear hgrow
                have hown2 : w4.ownsRow w8.heap.size 48 8 v' ((T.take (k + 1)).filter (fun e => decide (e.stream = stream))).length (((T.take (k + 1)).filter (fun e => decide (e.stream = stream))).flatMap StoredR.cells) := by
                  rw [HSt.out, flat_snoc, List.length_append]
                  exact hown'
                have HO2 := Lib.hid hown2
                clear hown' hown2
                go_wp2
                exact ⟨⟨k + 1, hlt, by simp, ho4, HO2.out⟩, by simp [intOf]; omega⟩
              · have qb : (z.stream.toList == stream.toList) = false := by rw [beq_eq_false_iff_ne]; exact q
                rw [if_neg (fun e => q (by rw [e])), List.append_nil] at hstep
                have HSt := Lib.hid hstep
                clear hstep q
                go_wp2
                exact ⟨⟨k + 1, hlt, by simp, hO9, by rw [HSt.out]; exact hown⟩, by simp [intOf]; omega⟩
            · have hke : k = T.length := by omega
              rw [hke, List.take_length, ← HSf.out] at hown
              obtain ⟨Ao, capo, rfl, hno, hco⟩ := own_form hown
              have hsu := (Slc.of_own hown).1
              have hOx := hO8.trans hO9
              have hsm := fun (W : World) (v : Value) (hv : Slc W 8 v U.length (U.flatMap StoredR.cells)) (hW : Only [] wr W) => sameL_any hv (hsu.only0 hW) (by have := HUl.out; omega) (by have := HUl.out; omega)
              rw [sameL_refl] at hsm
              have HSm2 := Lib.hid hsm
              have hUc : (U.length : Int) = c - fo := HUl.out
              have hUb : ((U.length : Int) == c - fo) = true := by rw [beq_iff_eq]; exact hUc
              have hOww := hOw.trans hOx
              clear hel8 hk hke hown hsu hsm hUc HUl HSf HRd HSm HDl hO9 hwant
              go_wp2_with (first
                | (go_at_call 11; refine (alive_any _).mono ?_; rintro e we ⟨rfl, hoe⟩)
                | (go_at_call 26; refine (HWk.out _ (hOx.trans hoe)).mono ?_; rintro e wf ⟨vf, rfl, hownf, hof⟩)
                | (go_at_call 23; refine (HSm2.out _ _ (Slc.of_own hownf).1 (hoe.trans hof)).mono ?_; rintro e wg ⟨rfl, hog⟩)
                | (go_at_call 20; refine (HCt.out _ (((hOx.trans hoe).trans hof).trans hog)).mono ?_; rintro e wh ⟨rfl, hoh⟩)
                | (go_at_call 28; refine (HFl.out _ ((((hOx.trans hoe).trans hof).trans hog).trans hoh)).mono ?_; rintro e wi ⟨rfl, hoi⟩))
              go_ret
              exact ⟨rfl, ((((hOww.trans hoe).trans hof).trans hog).trans hoh).trans hoi⟩
/-- What the row asks for. -/
theorem pagesW (v1 : Value) (l : List CmdV) (stream : ByteArray) (hst : stream.size ≤ maxLen) (n : Int) (hn : (Lit.int .i64 n).wf = true) (W : World)
    (x0 : Slc W 8 v1 l.length (l.flatMap CmdV.cells)) (y0 : ∀ o ∈ l, o.Ok W ∧ o.cells.length = 8) (z0 : ∀ g, v1.ownBlock = some g → g < W.heap.size ∨ l = []) :
    Calls Try.prog 7 #[v1, .string stream, .int .i64 n] W fun e W' => e = .returned (.bool true) ∧ Only [] W W' :=
  pages_go W v1 l stream n (CmdsAt.of x0 y0 z0) hst
end Go.Proofs.Ytefkhkbkengniaa
