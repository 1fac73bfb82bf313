/- Contracts: seen, Read. -/
import Derived.Test.YtefkhkbkengniaaMv1
set_option linter.unusedVariables false
set_option linter.unusedSimpArgs false
namespace Go.Proofs.Ytefkhkbkengniaa
open Go.RowKit
def StoredR.zero : StoredR := ⟨⟨0, ⟨#[]⟩, ⟨#[]⟩, 0⟩, ⟨#[]⟩, 0, 0, 0⟩
def evAt (all : List StoredR) (p : Int) : StoredR := (all[p.toNat]?).getD StoredR.zero
def MS.seenL (s : MS) (n : ByteArray) : List StoredR := if (s.find n).deleted then [] else ((s.find n).places.drop (s.floorS n).toNat).map (evAt s.all)
theorem evAt_nat {all : List StoredR} {q : Nat} (h : q < all.length) : evAt all (q : Int) = all[q] := by simp [evAt, h]
section
variable {w : World} {M : List Nat} {sb mb N : Nat} {av : Value} {pf : ByteArray → Value} {s : MS}
set_option maxRecDepth 100000 in
set_option maxHeartbeats 4000000 in
theorem seenL_any (h : StAt w M sb mb av pf s) (hs : s.Ok N) (hN : N ≤ 100000) (n : ByteArray) :
    Calls Try.prog 49 #[.pointer (some ⟨sb, 0, none⟩), .string n] w fun e w' => ∃ pv, e = .returned pv ∧ w'.ownsRow w.heap.size 48 8 pv (s.seenL n).length ((s.seenL n).flatMap StoredR.cells) ∧ Only [] w w' := by
  obtain ⟨A, cap, hpv, hcm, hf⟩ := findv h n
  obtain ⟨A2, cap2, hav, hnc2, hcm2, hel2⟩ := h.cell
  obtain ⟨j0, hj, hy0, hy1, hy2⟩ := info_parts infoSt
  have hx := hs.xok n
  have hal := hs.all
  have hfb : 0 ≤ s.floorS n ∧ s.floorS n ≤ (s.find n).places.length := floorOf_bd s (s.find n)
  have hrd := (h.rd n).1
  rw [hpv] at hrd
  obtain ⟨_, _, e0, hnc1, _, hel⟩ := hrd.openI
  injection e0 with e1 _ e3
  subst e1 e3
  have hfl := Lib.hid (fun (W : World) (hw : Only [] w W) => floorS_any (h.only0 hw) hs hN n)
  have HF := Lib.hid hf
  have hsq : s.seenL n = if (s.find n).deleted then [] else ((s.find n).places.drop (s.floorS n).toNat).map (evAt s.all) := rfl
  have hxp := hx.pl
  have hfew := hx.few
  obtain ⟨x, hxe⟩ : ∃ x, x = s.find n := ⟨_, rfl⟩
  rw [← hxe] at HF hfb hel hnc1 hsq hxp hfew
  clear hf hpv hx hrd hxe
  unfold maxLen at hcm hcm2
  rw [hsq]
  clear hsq
  obtain ⟨fo, hfo⟩ : ∃ fo, fo = s.floorS n := ⟨_, rfl⟩
  rw [← hfo] at hfl hfb ⊢
  clear hfo
  cases hd : x.deleted with
  | true =>
    rw [hd] at HF
    simp only [if_true]
    clear hel hel2 hd
    go_enter Try.func49, Try.ntmps49
    go_wp2_with (go_at_call 37; refine (HF.out _ (Only.refl _ _)).mono ?_; rintro e w1 ⟨rfl, ho1⟩)
    go_ret
    exact ⟨_, rfl, World.ownsRow_nil _ _ _ _, ho1.alloc _⟩
  | false =>
    rw [hd] at HF
    simp only [Bool.false_eq_true, if_false]
    clear hd
    obtain ⟨fn, rfl⟩ := Int.eq_ofNat_of_zero_le hfb.1
    have hfn : fn ≤ x.places.length := by omega
    simp only [Int.toNat_natCast]
    go_enter Try.func49, Try.ntmps49
    go_wp2_with (go_at_call 37; refine (HF.out _ (Only.refl _ _)).mono ?_; rintro e w1 ⟨rfl, ho1⟩)
    have hb1 := Blk.new w1 77 #[.slice A x.places.length cap, .int .i64 x.mt.maxCount, .int .i64 x.mt.maxAge, .int .i64 x.mt.before, .int .i64 x.floor, .bool false]
    have F0 := Within.cell (S := []) (hb1.cell 0) (by simp)
    refine wp_region_in [] [0, 1, 2, 3, 7] [4, 5, 6] [] (by kernel_rfl) (by kernel_rfl) (by intro c d u a w h; cases d <;> exact h) ?_
    show wpQuiet _ _ _ _ [_, _, _, _, _] _
    repeat (go_big_quiet_step (fail))
    refine wpQuiet_nil ?_
    show wpList _ _ _ [_] _ _
    go_wp2_with (go_at_call 28; refine (hfl.out _ ((ho1.alloc _).drew)).mono ?_; rintro e w2 ⟨rfl, ho2⟩)
    refine check_of (S := []) ((Only.refl [] _).drew.trans ho2) ?_
    show wpList _ _ _ [_] _ _
    have hO2 : Only [] w w2 := ((ho1.alloc _).drew).trans ho2
    clear F0
    by_cases hlt : fn < x.places.length
    · obtain ⟨b, off, rfl, hb, hc00⟩ := hel 0 (by omega)
      have hcf : ¬ cap = fn := by omega
      have hel' : ∀ j (hj : fn + j < x.places.length), w.cell? ⟨b, off + fn + j, none⟩ = some (.int .i64 x.places[fn + j]) := fun j hj => by
        obtain ⟨_, _, q1, _, q2⟩ := hel (fn + j) hj
        cases q1
        rw [Nat.add_assoc]
        exact q2
      obtain ⟨L, hL⟩ : ∃ L, L = x.places.length - fn := ⟨_, rfl⟩
      have hLs : x.places.length = fn + L := by omega
      obtain ⟨T, hT⟩ : ∃ T : Nat → List StoredR, T = fun j => ((x.places.drop fn).take j).map (evAt s.all) := ⟨_, rfl⟩
      have hdrop : ∀ j (hj : fn + j < x.places.length), T (j + 1) = T j ++ [evAt s.all x.places[fn + j]] := fun j hj => by
        rw [hT]
        dsimp only
        rw [List.take_succ_eq_append_getElem (by simp; omega), List.map_append]
        simp
      have ht0 : T 0 = [] := by rw [hT]; rfl
      have hlen : (x.places.drop fn).map (evAt s.all) = T L ∧ (T L).length = L := by
        rw [hT]
        dsimp only
        rw [List.take_of_length_le (by simp; omega)]
        exact ⟨rfl, by simp; omega⟩
      have HDr := Lib.hid hdrop
      have HLn := Lib.hid hlen
      have HT0 := Lib.hid ht0
      have HEl := Lib.hid hel'
      have HLs := Lib.hid hLs
      have hLb : L ≤ 800000 := by omega
      have HL0 := Lib.hid hL
      clear hdrop hlen ht0 hT hel' hel hL hLs
      go_wp2_with fail
      rw [← HL0.out]
      clear hc00 hlt
      refine check_of (S := []) ((Only.refl [] _).drew.trans ho2) ?_
      show wpList _ _ _ [_] _ _
      go_wp2_with fail
      refine check_last (S := []) ((Only.refl [] _).drew.trans ho2) (fun _ _ q => q) ?_
      have c0 : w.cell? ⟨sb, 0, none⟩ = some (.slice A2 s.all.length cap2) := by rw [← hav]; exact h.blk.cell 0
      have hbb := h.blk.lt
      have C0 := Lib.hid c0
      clear c0
      go_wp2
      go_loopw [6, 21] (fun u i wr => ∃ k : Nat, k ≤ L ∧ i = .int .i64 k ∧ wr.ownsRow w.heap.size 48 8 u k ((T k).flatMap StoredR.cells) ∧ Only [] w wr) (fun _ i _ => L - (intOf i).toNat)
      case atStart => exact ⟨0, Nat.zero_le _, rfl, by rw [HT0.out]; exact World.ownsRow_nil _ _ _ _, hO2⟩
      case round =>
        obtain ⟨k, hk, rfl, hown, hO⟩ := hrel
        by_cases hkl : k < L
        · have hlt : fn + k < x.places.length := by have := HLs.out; omega
          have hc1 := HEl.out k hlt
          have ht := HDr.out k hlt
          obtain ⟨hp0, hp1⟩ := hxp _ (List.getElem_mem hlt)
          obtain ⟨q, hq⟩ := Int.eq_ofNat_of_zero_le hp0
          have hqa : q < s.all.length := by omega
          obtain ⟨b2, rfl, hb2, hc2⟩ := hel2 q hqa
          rw [hq, ← hO.cell hb (by simp)] at hc1
          rw [hq, evAt_nat hqa] at ht
          obtain ⟨z, hz⟩ : ∃ z, z = s.all[q] := ⟨_, rfl⟩
          rw [← hz] at hc2 ht
          have d0 : wr.cell? ⟨b2, q * 8, none⟩ = some (.int .i64 z.ev.id) := (hO.cell hb2 (by simp)).trans (hc2 0 (by omega))
          have d1 : wr.cell? ⟨b2, q * 8 + 1, none⟩ = some (.string z.ev.type) := (hO.cell hb2 (by simp)).trans (hc2 1 (by omega))
          have d2 : wr.cell? ⟨b2, q * 8 + 2, none⟩ = some (.string z.ev.data) := (hO.cell hb2 (by simp)).trans (hc2 2 (by omega))
          have d3 : wr.cell? ⟨b2, q * 8 + 3, none⟩ = some (.float .f64 z.ev.value) := (hO.cell hb2 (by simp)).trans (hc2 3 (by omega))
          have d4 : wr.cell? ⟨b2, q * 8 + 4, none⟩ = some (.string z.stream) := (hO.cell hb2 (by simp)).trans (hc2 4 (by omega))
          have d5 : wr.cell? ⟨b2, q * 8 + 5, none⟩ = some (.int .i64 z.version) := (hO.cell hb2 (by simp)).trans (hc2 5 (by omega))
          have d6 : wr.cell? ⟨b2, q * 8 + 6, none⟩ = some (.int .i64 z.position) := (hO.cell hb2 (by simp)).trans (hc2 6 (by omega))
          have d7 : wr.cell? ⟨b2, q * 8 + 7, none⟩ = some (.int .i64 z.time) := (hO.cell hb2 (by simp)).trans (hc2 7 (by omega))
          have c0 : wr.cell? ⟨sb, 0, none⟩ = some (.slice (some ⟨b2, 0, none⟩) s.all.length cap2) := (hO.cell hbb (by simp)).trans C0.out
          have hqi : (q : Int) < s.all.length := by omega
          have HT := Lib.hid ht
          have hsf := stF
          clear hel2 hc2 hz ht hq hlt hp0 hp1
          go_wp2_with (at_builtin; refine wpList_append_own _ rfl (.tmp 25) (.tmp 33) 45 rfl w.heap.size 48 j0 (.agg #[.int .i64 0, .string ⟨#[]⟩, .string ⟨#[]⟩, .float .f64 0, .string ⟨#[]⟩, .int .i64 0, .int .i64 0, .int .i64 0]) 8 88 Try.underlying45 hj hy0 hy1 hy2 rfl (by decide) _ _ _ rfl (World.ownsRow.alloc hown _) ⟨wr.heap.size, 0, none⟩ 1 1 [.int .i64 z.ev.id, .string z.ev.type, .string z.ev.data, .float .f64 z.ev.value, .string z.stream, .int .i64 z.version, .int .i64 z.position, .int .i64 z.time] rfl rfl (news_blk (Blk.new wr 48 _)) ?c2 ?c3 ?c4 ?c5 ?_)
          case c2 => simp [Value.oneCell']
          case c3 => unfold maxLen; omega
          case c4 => omega
          case c5 => have := hO.size; simp; omega
          intro v' w4 hown' hgrow _
          have hown2 : w4.ownsRow w.heap.size 48 8 v' (k + 1) ((T (k + 1)).flatMap StoredR.cells) := by
            rw [HT.out, flat_snoc]
            exact hown'
          have ho4 : Only [] w w4 := (hO.alloc _).grown hgrow (fun k hk => .inr (hown.lt k hk).1)
          have HO2 := Lib.hid hown2
          clear hgrow hown' hown2
          go_wp2
          exact ⟨⟨k + 1, hkl, by simp, HO2.out, ho4⟩, by simp [intOf]; omega⟩
        · have hkn : k = L := by omega
          have hfin : wr.ownsRow w.heap.size 48 8 u6 ((x.places.drop fn).map (evAt s.all)).length (((x.places.drop fn).map (evAt s.all)).flatMap StoredR.cells) := by
            rw [HLn.out.1, HLn.out.2]
            rw [hkn] at hown
            exact hown
          have HF2 := Lib.hid hfin
          clear hfin hkn hown
          go_wp2
          go_ret
          exact ⟨_, rfl, HF2.out, hO⟩
    · have h0 : (x.places.drop fn).map (evAt s.all) = [] := by rw [List.drop_of_length_le (by omega)]; rfl
      obtain rfl : fn = x.places.length := by omega
      have H0 := Lib.hid h0
      clear h0 hel hel2
      cases A with
      | none => 
        go_wp2_with fail
        refine check_of (S := []) ((Only.refl [] _).drew.trans ho2) ?_
        show wpList _ _ _ [_] _ _
        go_wp2_with fail
        refine check_last (S := []) ((Only.refl [] _).drew.trans ho2) (fun _ _ q => q) ?_
        go_wp2
        go_loopw [6, 21] (fun u i wr => u = .slice none 0 0 ∧ i = .int .i64 0 ∧ Only [] w wr) (fun _ _ _ => 0)
        case atStart => exact ⟨rfl, rfl, hO2⟩
        case round =>
          obtain ⟨rfl, rfl, hO⟩ := hrel
          go_wp2
          go_ret
          exact ⟨_, rfl, by rw [H0.out]; exact World.ownsRow_nil _ _ _ _, hO⟩
      | some ad =>
        by_cases hcf : cap = x.places.length
        · go_wp2_with fail
          refine check_of (S := []) ((Only.refl [] _).drew.trans ho2) ?_
          show wpList _ _ _ [_] _ _
          go_wp2_with fail
          refine check_last (S := []) ((Only.refl [] _).drew.trans ho2) (fun _ _ q => q) ?_
          go_wp2
          go_loopw [6, 21] (fun u i wr => u = .slice none 0 0 ∧ i = .int .i64 0 ∧ Only [] w wr) (fun _ _ _ => 0)
          case atStart => exact ⟨rfl, rfl, hO2⟩
          case round =>
            obtain ⟨rfl, rfl, hO⟩ := hrel
            go_wp2
            go_ret
            exact ⟨_, rfl, by rw [H0.out]; exact World.ownsRow_nil _ _ _ _, hO⟩
        · go_wp2_with fail
          refine check_of (S := []) ((Only.refl [] _).drew.trans ho2) ?_
          show wpList _ _ _ [_] _ _
          go_wp2_with fail
          refine check_last (S := []) ((Only.refl [] _).drew.trans ho2) (fun _ _ q => q) ?_
          go_wp2
          go_loopw [6, 21] (fun u i wr => u = .slice none 0 0 ∧ i = .int .i64 0 ∧ Only [] w wr) (fun _ _ _ => 0)
          case atStart => exact ⟨rfl, rfl, hO2⟩
          case round =>
            obtain ⟨rfl, rfl, hO⟩ := hrel
            go_wp2
            go_ret
            exact ⟨_, rfl, by rw [H0.out]; exact World.ownsRow_nil _ _ _ _, hO⟩
end
end Go.Proofs.Ytefkhkbkengniaa
