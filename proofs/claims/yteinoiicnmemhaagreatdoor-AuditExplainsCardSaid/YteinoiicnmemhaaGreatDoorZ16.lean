/- Proved here: contracts of functions and plain laws, part 16 of one proof. Conditions: each theorem names its own. -/
import Derived.Test.YteinoiicnmemhaaGreatDoorZ8
import Derived.Test.YteinoiicnmemhaaGreatDoorZ15
set_option linter.unusedSimpArgs false
set_option linter.unusedVariables false
namespace Go.Proofs.YteinoiicnmemhaaGreatDoor
section
open Go.RowKit
def StoredR.zero : StoredR := ⟨⟨0, ⟨#[]⟩, ⟨#[]⟩, 0⟩, ⟨#[]⟩, 0, 0, 0⟩
def evAt (all : List StoredR) (p : Int) : StoredR := (all[p.toNat]?).getD StoredR.zero
def MS.seenL (s : MS) (n : ByteArray) : List StoredR := if (s.find n).deleted then [] else ((s.find n).places.drop (s.floorS n).toNat).map (evAt s.all)
theorem evAt_nat {all : List StoredR} {q : Nat} (h : q < all.length) : evAt all (q : Int) = all[q] := by simp [evAt, h]
section
variable {w : World} {M : List Nat} {sb mb N : Nat} {av : Value} {pf : ByteArray → Value} {s : MS}
set_option maxRecDepth 100000 in
set_option maxHeartbeats 4000000 in
theorem seenL_any (h : StAt w M sb mb av pf s) (hs : s.Ok N) (hN : N ≤ 100000) (n : ByteArray) :
    Calls Tryz.prog 116 #[.pointer (some ⟨sb, 0, none⟩), .string n] w fun e w' => ∃ pv, e = .returned pv ∧ w'.ownsRow w.heap.size 92 8 pv (s.seenL n).length ((s.seenL n).flatMap StoredR.cells) ∧ Only [] w w' := by
  obtain ⟨A, cap, hpv, hcm, hf⟩ := findv h n
  obtain ⟨A2, cap2, hav, hnc2, hcm2, hel2⟩ := h.cell
  obtain ⟨j0, hj, hy0, hy1, hy2⟩ := info_parts infoSt
  have hx := hs.xok n
  have hal := hs.all
  have hfb : 0 ≤ s.floorS n ∧ s.floorS n ≤ (s.find n).places.length := floorOf_bd s (s.find n)
  have hrd := (h.rd n).1
  rw [hpv] at hrd
  obtain ⟨_, _, e0, hnc1, _, hel⟩ := hrd.openI
  injection e0 with e1 _ e3
  subst e1 e3
  have hfl := Lib.hid (fun (W : World) (hw : Only [] w W) => floorS_any (h.only0 hw) hs hN n)
  have HF := Lib.hid hf
  have hsq : s.seenL n = if (s.find n).deleted then [] else ((s.find n).places.drop (s.floorS n).toNat).map (evAt s.all) := rfl
  have hxp := hx.pl
  have hfew := hx.few
  obtain ⟨x, hxe⟩ : ∃ x, x = s.find n := ⟨_, rfl⟩
  rw [← hxe] at HF hfb hel hnc1 hsq hxp hfew
  clear hf hpv hx hrd hxe
  unfold maxLen at hcm hcm2
  rw [hsq]
  clear hsq
  obtain ⟨fo, hfo⟩ : ∃ fo, fo = s.floorS n := ⟨_, rfl⟩
  rw [← hfo] at hfl hfb ⊢
  clear hfo
  cases hd : x.deleted with
  | true =>
    rw [hd] at HF
    simp only [if_true]
    clear hel hel2 hd
    go_enter Tryz.func116, Tryz.ntmps116
    go_wp2_with (go_at_call 21; refine (HF.out _ (Only.refl _ _)).mono ?_; rintro e w1 ⟨rfl, ho1⟩)
    go_ret
    exact ⟨_, rfl, World.ownsRow_nil _ _ _ _, ho1.alloc _⟩
  | false =>
    rw [hd] at HF
    simp only [Bool.false_eq_true, if_false]
    clear hd
    obtain ⟨fn, rfl⟩ := Int.eq_ofNat_of_zero_le hfb.1
    have hfn : fn ≤ x.places.length := by omega
    simp only [Int.toNat_natCast]
    go_enter Tryz.func116, Tryz.ntmps116
    go_wp2_with (go_at_call 21; refine (HF.out _ (Only.refl _ _)).mono ?_; rintro e w1 ⟨rfl, ho1⟩)
    have hb1 := Blk.new w1 75 #[.slice A x.places.length cap, .int .i64 x.mt.maxCount, .int .i64 x.mt.maxAge, .int .i64 x.mt.before, .int .i64 x.floor, .bool false]
    have F0 := Within.cell (S := []) (hb1.cell 0) (by simp)
    refine wp_region_in [] [0, 1, 2, 3, 7] [4, 5, 6] [] (by kernel_rfl) (by kernel_rfl) (by intro c d u a w h; cases d <;> exact h) ?_
    show wpQuiet _ _ _ _ [_, _, _, _, _] _
    repeat (go_big_quiet_step (fail))
    refine wpQuiet_nil ?_
    show wpList _ _ _ [_] _ _
    go_wp2_with (go_at_call 37; refine (hfl.out _ ((ho1.alloc _).drew)).mono ?_; rintro e w2 ⟨rfl, ho2⟩)
    refine check_of (S := []) ((Only.refl [] _).drew.trans ho2) ?_
    show wpList _ _ _ [_] _ _
    have hO2 : Only [] w w2 := ((ho1.alloc _).drew).trans ho2
    clear F0
    by_cases hlt : fn < x.places.length
    · obtain ⟨b, off, rfl, hb, hc00⟩ := hel 0 (by omega)
      have hcf : ¬ cap = fn := by omega
      have hel' : ∀ j (hj : fn + j < x.places.length), w.cell? ⟨b, off + fn + j, none⟩ = some (.int .i64 x.places[fn + j]) := fun j hj => by
        obtain ⟨_, _, q1, _, q2⟩ := hel (fn + j) hj
        cases q1
        rw [Nat.add_assoc]
        exact q2
      obtain ⟨L, hL⟩ : ∃ L, L = x.places.length - fn := ⟨_, rfl⟩
      have hLs : x.places.length = fn + L := by omega
      obtain ⟨T, hT⟩ : ∃ T : Nat → List StoredR, T = fun j => ((x.places.drop fn).take j).map (evAt s.all) := ⟨_, rfl⟩
      have hdrop : ∀ j (hj : fn + j < x.places.length), T (j + 1) = T j ++ [evAt s.all x.places[fn + j]] := fun j hj => by
        rw [hT]
        dsimp only
        rw [List.take_succ_eq_append_getElem (by simp; omega), List.map_append]
        simp
      have ht0 : T 0 = [] := by rw [hT]; rfl
      have hlen : (x.places.drop fn).map (evAt s.all) = T L ∧ (T L).length = L := by
        rw [hT]
        dsimp only
        rw [List.take_of_length_le (by simp; omega)]
        exact ⟨rfl, by simp; omega⟩
      have HDr := Lib.hid hdrop
      have HLn := Lib.hid hlen
      have HT0 := Lib.hid ht0
      have HEl := Lib.hid hel'
      have HLs := Lib.hid hLs
      have hLb : L ≤ 800000 := by omega
      have HL0 := Lib.hid hL
      clear hdrop hlen ht0 hT hel' hel hL hLs
      go_wp2_with fail
      rw [← HL0.out]
      clear hc00 hlt
      refine check_of (S := []) ((Only.refl [] _).drew.trans ho2) ?_
      show wpList _ _ _ [_] _ _
      go_wp2_with fail
      refine check_last (S := []) ((Only.refl [] _).drew.trans ho2) (fun _ _ q => q) ?_
      have c0 : w.cell? ⟨sb, 0, none⟩ = some (.slice A2 s.all.length cap2) := by rw [← hav]; exact h.blk.cell 0
      have hbb := h.blk.lt
      have C0 := Lib.hid c0
      clear c0
      go_wp2
      go_loopw [6, 21] (fun u i wr => ∃ k : Nat, k ≤ L ∧ i = .int .i64 k ∧ wr.ownsRow w.heap.size 92 8 u k ((T k).flatMap StoredR.cells) ∧ Only [] w wr) (fun _ i _ => L - (intOf i).toNat)
      case atStart => exact ⟨0, Nat.zero_le _, rfl, by rw [HT0.out]; exact World.ownsRow_nil _ _ _ _, hO2⟩
      case round =>
        obtain ⟨k, hk, rfl, hown, hO⟩ := hrel
        by_cases hkl : k < L
        · have hlt : fn + k < x.places.length := by have := HLs.out; omega
          have hc1 := HEl.out k hlt
          have ht := HDr.out k hlt
          obtain ⟨hp0, hp1⟩ := hxp _ (List.getElem_mem hlt)
          obtain ⟨q, hq⟩ := Int.eq_ofNat_of_zero_le hp0
          have hqa : q < s.all.length := by omega
          obtain ⟨b2, rfl, hb2, hc2⟩ := hel2 q hqa
          rw [hq, ← hO.cell hb (by simp)] at hc1
          rw [hq, evAt_nat hqa] at ht
          obtain ⟨z, hz⟩ : ∃ z, z = s.all[q] := ⟨_, rfl⟩
          rw [← hz] at hc2 ht
          have d0 : wr.cell? ⟨b2, q * 8, none⟩ = some (.int .i64 z.ev.id) := (hO.cell hb2 (by simp)).trans (hc2 0 (by omega))
          have d1 : wr.cell? ⟨b2, q * 8 + 1, none⟩ = some (.string z.ev.type) := (hO.cell hb2 (by simp)).trans (hc2 1 (by omega))
          have d2 : wr.cell? ⟨b2, q * 8 + 2, none⟩ = some (.string z.ev.data) := (hO.cell hb2 (by simp)).trans (hc2 2 (by omega))
          have d3 : wr.cell? ⟨b2, q * 8 + 3, none⟩ = some (.float .f64 z.ev.value) := (hO.cell hb2 (by simp)).trans (hc2 3 (by omega))
          have d4 : wr.cell? ⟨b2, q * 8 + 4, none⟩ = some (.string z.stream) := (hO.cell hb2 (by simp)).trans (hc2 4 (by omega))
          have d5 : wr.cell? ⟨b2, q * 8 + 5, none⟩ = some (.int .i64 z.version) := (hO.cell hb2 (by simp)).trans (hc2 5 (by omega))
          have d6 : wr.cell? ⟨b2, q * 8 + 6, none⟩ = some (.int .i64 z.position) := (hO.cell hb2 (by simp)).trans (hc2 6 (by omega))
          have d7 : wr.cell? ⟨b2, q * 8 + 7, none⟩ = some (.int .i64 z.time) := (hO.cell hb2 (by simp)).trans (hc2 7 (by omega))
          have c0 : wr.cell? ⟨sb, 0, none⟩ = some (.slice (some ⟨b2, 0, none⟩) s.all.length cap2) := (hO.cell hbb (by simp)).trans C0.out
          have hqi : (q : Int) < s.all.length := by omega
          have HT := Lib.hid ht
          have hsf := stF
          clear hel2 hc2 hz ht hq hlt hp0 hp1
          go_wp2_with (at_builtin; refine wpList_append_own _ rfl (.tmp 25) (.tmp 33) 28 rfl w.heap.size 92 j0 (.agg #[.int .i64 0, .string ⟨#[]⟩, .string ⟨#[]⟩, .float .f64 0, .string ⟨#[]⟩, .int .i64 0, .int .i64 0, .int .i64 0]) 8 88 Tryz.underlying28 hj hy0 hy1 hy2 rfl (by decide) _ _ _ rfl (World.ownsRow.alloc hown _) ⟨wr.heap.size, 0, none⟩ 1 1 [.int .i64 z.ev.id, .string z.ev.type, .string z.ev.data, .float .f64 z.ev.value, .string z.stream, .int .i64 z.version, .int .i64 z.position, .int .i64 z.time] rfl rfl (news_blk (Blk.new wr 92 _)) ?c2 ?c3 ?c4 ?c5 ?_)
          case c2 => simp [Value.oneCell']
          case c3 => unfold maxLen; omega
          case c4 => omega
          case c5 => have := hO.size; simp; omega
          intro v' w4 hown' hgrow _
          have hown2 : w4.ownsRow w.heap.size 92 8 v' (k + 1) ((T (k + 1)).flatMap StoredR.cells) := by
            rw [HT.out, flat_snoc]
            exact hown'
          have ho4 : Only [] w w4 := (hO.alloc _).grown hgrow (fun k hk => .inr (hown.lt k hk).1)
          have HO2 := Lib.hid hown2
          clear hgrow hown' hown2
          go_wp2
          exact ⟨⟨k + 1, hkl, by simp, HO2.out, ho4⟩, by simp [intOf]; omega⟩
        · have hkn : k = L := by omega
          have hfin : wr.ownsRow w.heap.size 92 8 u6 ((x.places.drop fn).map (evAt s.all)).length (((x.places.drop fn).map (evAt s.all)).flatMap StoredR.cells) := by
            rw [HLn.out.1, HLn.out.2]
            rw [hkn] at hown
            exact hown
          have HF2 := Lib.hid hfin
          clear hfin hkn hown
          go_wp2
          go_ret
          exact ⟨_, rfl, HF2.out, hO⟩
    · have h0 : (x.places.drop fn).map (evAt s.all) = [] := by rw [List.drop_of_length_le (by omega)]; rfl
      obtain rfl : fn = x.places.length := by omega
      have H0 := Lib.hid h0
      clear h0 hel hel2
      cases A with
      | none => 
        go_wp2_with fail
        refine check_of (S := []) ((Only.refl [] _).drew.trans ho2) ?_
        show wpList _ _ _ [_] _ _
        go_wp2_with fail
        refine check_last (S := []) ((Only.refl [] _).drew.trans ho2) (fun _ _ q => q) ?_
        go_wp2
        go_loopw [6, 21] (fun u i wr => u = .slice none 0 0 ∧ i = .int .i64 0 ∧ Only [] w wr) (fun _ _ _ => 0)
        case atStart => exact ⟨rfl, rfl, hO2⟩
        case round =>
          obtain ⟨rfl, rfl, hO⟩ := hrel
          go_wp2
          go_ret
          exact ⟨_, rfl, by rw [H0.out]; exact World.ownsRow_nil _ _ _ _, hO⟩
      | some ad =>
        by_cases hcf : cap = x.places.length
        · go_wp2_with fail
          refine check_of (S := []) ((Only.refl [] _).drew.trans ho2) ?_
          show wpList _ _ _ [_] _ _
          go_wp2_with fail
          refine check_last (S := []) ((Only.refl [] _).drew.trans ho2) (fun _ _ q => q) ?_
          go_wp2
          go_loopw [6, 21] (fun u i wr => u = .slice none 0 0 ∧ i = .int .i64 0 ∧ Only [] w wr) (fun _ _ _ => 0)
          case atStart => exact ⟨rfl, rfl, hO2⟩
          case round =>
            obtain ⟨rfl, rfl, hO⟩ := hrel
            go_wp2
            go_ret
            exact ⟨_, rfl, by rw [H0.out]; exact World.ownsRow_nil _ _ _ _, hO⟩
        · go_wp2_with fail
          refine check_of (S := []) ((Only.refl [] _).drew.trans ho2) ?_
          show wpList _ _ _ [_] _ _
          go_wp2_with fail
          refine check_last (S := []) ((Only.refl [] _).drew.trans ho2) (fun _ _ q => q) ?_
          go_wp2
          go_loopw [6, 21] (fun u i wr => u = .slice none 0 0 ∧ i = .int .i64 0 ∧ Only [] w wr) (fun _ _ _ => 0)
          case atStart => exact ⟨rfl, rfl, hO2⟩
          case round =>
            obtain ⟨rfl, rfl, hO⟩ := hrel
            go_wp2
            go_ret
            exact ⟨_, rfl, by rw [H0.out]; exact World.ownsRow_nil _ _ _ _, hO⟩
end
end
section
open Go.RowKit
def PageRet (w : World) (r : PageR × Int) (e : Ending) (w' : World) : Prop :=
  ∃ pv, e = .returned (.tuple #[.agg #[pv, .int .i64 r.1.next, .bool r.1.isEnd], .int .i64 r.2]) ∧ w'.ownsRow w.heap.size 92 8 pv r.1.events.length (r.1.events.flatMap StoredR.cells) ∧ Only [] w w'
def MS.readOk (n : ByteArray) (f k : Int) : Bool := nameOk n && decide (0 ≤ f) && decide (1 ≤ k) && decide (k ≤ 100)
def MS.readF (s : MS) (n : ByteArray) (f k : Int) : PageR × Int :=
  if MS.readOk n f k = false then (PageR.zero, 1) else if (s.find n).deleted then (PageR.zero, 23) else if (s.find n).places.length = 0 then (PageR.zero, 8) else forwardBy StoredR.version (s.seenL n) f k
section
variable {w : World} {M : List Nat} {sb mb N : Nat} {av : Value} {pf : ByteArray → Value} {s : MS}
set_option maxRecDepth 100000 in
set_option maxHeartbeats 4000000 in
theorem readF_any (h : StAt w M sb mb av pf s) (hs : s.Ok N) (hN : N ≤ 100000) (n : ByteArray) (hn : n.size ≤ maxLen) (f k : Int) (hv : ∀ e ∈ s.seenL n, 0 ≤ e.version ∧ e.version ≤ 1000000000) :
    Calls Tryz.prog 80 #[.pointer (some ⟨sb, 0, none⟩), .string n, .int .i64 f, .int .i64 k, .bool false] w (PageRet w (s.readF n f k)) := by
  obtain ⟨A, cap, hpv, hcm, hf⟩ := findv h n
  have HF := Lib.hid hf
  have HS := Lib.hid (fun W => stream_any n W hn)
  have hx := hs.xok n
  have hal := hs.all
  have hlb : (s.seenL n).length ≤ 1000000 := by
    unfold MS.seenL
    have := hx.few
    split
    · simp
    · simp; omega
  unfold maxLen at hcm
  have hfew := hx.few
  clear hf hpv hx
  cases hok : MS.readOk n f k with
  | false =>
    have hR : s.readF n f k = (PageR.zero, 1) := by unfold MS.readF; rw [if_pos hok]
    rw [hR]
    clear hR
    cases hnm : nameOk n with
    | false =>
      rw [hnm] at HS
      clear hok hnm
      go_enter Tryz.func80, Tryz.ntmps80
      go_wp2_with (go_at_call 52; refine (HS.out _).mono ?_; rintro e w' ⟨rfl, rfl⟩)
      exact bodyPost_ret (v := .tuple #[.agg #[.slice none 0 0, .int .i64 0, .bool false], .int .i64 1]) (by simp [results, Tryz.results80, go_sem]) rfl ⟨_, rfl, World.ownsRow_nil _ _ _ _, (Only.refl [] w).alloc _⟩
    | true =>
      rw [hnm] at HS
      simp only [MS.readOk, hnm, Bool.true_and, Bool.and_eq_false_iff, decide_eq_false_iff_not] at hok
      clear hnm
      by_cases h1 : f < 0
      · clear hok
        go_enter Tryz.func80, Tryz.ntmps80
        go_wp2_with (go_at_call 52; refine (HS.out _).mono ?_; rintro e w' ⟨rfl, rfl⟩)
        exact bodyPost_ret (v := .tuple #[.agg #[.slice none 0 0, .int .i64 0, .bool false], .int .i64 1]) (by simp [results, Tryz.results80, go_sem]) rfl ⟨_, rfl, World.ownsRow_nil _ _ _ _, (Only.refl [] w).alloc _⟩
      · by_cases h2 : k < 1
        · clear hok
          go_enter Tryz.func80, Tryz.ntmps80
          go_wp2_with (go_at_call 52; refine (HS.out _).mono ?_; rintro e w' ⟨rfl, rfl⟩)
          exact bodyPost_ret (v := .tuple #[.agg #[.slice none 0 0, .int .i64 0, .bool false], .int .i64 1]) (by simp [results, Tryz.results80, go_sem]) rfl ⟨_, rfl, World.ownsRow_nil _ _ _ _, (Only.refl [] w).alloc _⟩
        · have h3 : k > 100 := by omega
          clear hok
          go_enter Tryz.func80, Tryz.ntmps80
          go_wp2_with (go_at_call 52; refine (HS.out _).mono ?_; rintro e w' ⟨rfl, rfl⟩)
          exact bodyPost_ret (v := .tuple #[.agg #[.slice none 0 0, .int .i64 0, .bool false], .int .i64 1]) (by simp [results, Tryz.results80, go_sem]) rfl ⟨_, rfl, World.ownsRow_nil _ _ _ _, (Only.refl [] w).alloc _⟩
  | true =>
    simp only [MS.readOk, Bool.and_eq_true, decide_eq_true_eq] at hok
    obtain ⟨⟨⟨hnm, h1⟩, h2⟩, h3⟩ := hok
    rw [hnm] at HS
    have hok : MS.readOk n f k = true := by simp [MS.readOk, hnm, h1, h2, h3]
    cases hd : (s.find n).deleted with
    | true =>
      have hR : s.readF n f k = (PageR.zero, 23) := by unfold MS.readF; rw [if_neg (by rw [hok]; decide), if_pos hd]
      rw [hR]
      rw [hd] at HF
      clear hR hok hnm hd
      go_enter Tryz.func80, Tryz.ntmps80
      go_wp2_with (first
        | (go_at_call 52; refine (HS.out _).mono ?_; rintro e w' ⟨rfl, rfl⟩)
        | (go_at_call 21; refine (HF.out _ ((Only.refl _ _).alloc _)).mono ?_; rintro e w1 ⟨rfl, ho1⟩
           have hf1 := fun o i => (((Only.refl [] w1).alloc o).blk (ho1.blk (Blk.new w 57 _) (by simp)) (by simp)).free i
           have hc1 := fun o i => (((Only.refl [] w1).alloc o).blk (ho1.blk (Blk.new w 57 _) (by simp)) (by simp)).cell i))
      refine bodyPost_ret (v := .tuple #[.agg #[.slice none 0 0, .int .i64 0, .bool false], .int .i64 23]) (by simp [results, Tryz.results80, go_sem, hc1]) rfl ⟨_, rfl, World.ownsRow_nil _ _ _ _, ?hw⟩
      case hw =>
        iterate 3 (refine Only.setCell ?_ (.inr (Nat.le_refl _)) _)
        exact (((Only.refl [] w).alloc _).trans ho1).alloc _
    | false =>
      rw [hd] at HF
      by_cases h0 : (s.find n).places.length = 0
      · have hR : s.readF n f k = (PageR.zero, 8) := by unfold MS.readF; rw [if_neg (by rw [hok]; decide), if_neg (by rw [hd]; decide), if_pos h0]
        rw [hR]
        rw [h0] at HF
        clear hR hok hnm hd h0
        go_enter Tryz.func80, Tryz.ntmps80
        go_wp2_with (first
          | (go_at_call 52; refine (HS.out _).mono ?_; rintro e w' ⟨rfl, rfl⟩)
          | (go_at_call 21; refine (HF.out _ ((Only.refl _ _).alloc _)).mono ?_; rintro e w1 ⟨rfl, ho1⟩
             have hf1 := fun o i => (((Only.refl [] w1).alloc o).blk (ho1.blk (Blk.new w 57 _) (by simp)) (by simp)).free i
             have hc1 := fun o i => (((Only.refl [] w1).alloc o).blk (ho1.blk (Blk.new w 57 _) (by simp)) (by simp)).cell i))
        refine bodyPost_ret (v := .tuple #[.agg #[.slice none 0 0, .int .i64 0, .bool false], .int .i64 8]) (by simp [results, Tryz.results80, go_sem, hc1]) rfl ⟨_, rfl, World.ownsRow_nil _ _ _ _, ?hw⟩
        case hw =>
          iterate 3 (refine Only.setCell ?_ (.inr (Nat.le_refl _)) _)
          exact (((Only.refl [] w).alloc _).trans ho1).alloc _
      · have hR : s.readF n f k = forwardBy StoredR.version (s.seenL n) f k := by unfold MS.readF; rw [if_neg (by rw [hok]; decide), if_neg (by rw [hd]; decide), if_neg h0]
        rw [hR]
        have h0b : (((s.find n).places.length : Int) == 0) = false := by rw [beq_eq_false_iff_ne]; omega
        have HSn := Lib.hid (fun (W : World) (hw : Only [] w W) => seenL_any (h.only0 hw) hs hN n)
        have HFw := Lib.hid (fun (W : World) (v : Value) (hl : Slc W 8 v (s.seenL n).length ((s.seenL n).flatMap StoredR.cells)) => forwardV_any (f := f) (n := k) hl hlb hv)
        obtain ⟨r, hr⟩ : ∃ r, r = forwardBy StoredR.version (s.seenL n) f k := ⟨_, rfl⟩
        rw [← hr] at HFw ⊢
        obtain ⟨⟨revs, rnx, rend⟩, rerr⟩ := r
        clear hR hok hnm hd h0 hlb hv hr
        go_enter Tryz.func80, Tryz.ntmps80
        go_wp2_with (first
          | (go_at_call 52; refine (HS.out _).mono ?_; rintro e w' ⟨rfl, rfl⟩)
          | (go_at_call 21; refine (HF.out _ ((Only.refl _ _).alloc _)).mono ?_; rintro e w1 ⟨rfl, ho1⟩)
          | (go_at_call 116; refine (HSn.out _ ((((Only.refl _ _).alloc _).trans ho1).alloc _)).mono ?_; rintro e w2 ⟨v2, rfl, hown2, ho2⟩)
          | (go_at_call 117; refine (HFw.out _ _ (Slc.of_own hown2).1).mono ?_; rintro e w3 ⟨v3, rfl, hown3, ho3⟩; obtain ⟨A3, cap3, rfl, _, _⟩ := own_form hown3
             have hp := ho3.blk (ho2.blk (((Only.refl [] w1).alloc _).blk (ho1.blk (Blk.new w 57 _) (by simp)) (by simp)) (by simp)) (by simp)
             have hpc := fun i => hp.cell i
             have hpf := fun i => hp.free i))
        have hsz : w.heap.size < w2.heap.size := by have q1 := ho1.size; have q2 := ho2.size; simp at q1 q2; omega
        refine bodyPost_ret (v := .tuple #[.agg #[.slice A3 revs.length cap3, .int .i64 rnx, .bool rend], .int .i64 rerr]) (by simp [results, Tryz.results80, go_sem, hpc]) rfl ⟨_, rfl, ?own, ?hw⟩
        case own =>
          refine own_only (own_base hown3 (by omega)) (S := [w.heap.size]) ?_ (fun g hg => by have := (hown3.lt g hg).1; simp; omega)
          iterate 3 (refine Only.setCell ?_ (.inl (by simp)) _)
          exact Only.refl _ _
        case hw =>
          iterate 3 (refine Only.setCell ?_ (.inr (Nat.le_refl _)) _)
          exact (((((Only.refl [] w).alloc _).trans ho1).alloc _).trans ho2).trans ho3
end
end
section
open Go.RowKit
structure MS.Inv (s : MS) : Prop where
  pos : ∀ i (h : i < s.all.length), s.all[i].position = i
  plc : ∀ n k (h : k < (s.find n).places.length), ∃ p : Nat, ∃ hp : p < s.all.length, (s.find n).places[k] = p ∧ s.all[p].stream = n ∧ s.all[p].version = k
  ver : ∀ i (h : i < s.all.length), ∃ k : Nat, s.all[i].version = k ∧ (s.find s.all[i].stream).places[k]? = some (i : Int)
theorem find_put (s : MS) (n m : ByteArray) (x : StreamR) : (s.put n x).find m = if n = m then x else s.find m := by
  unfold MS.put MS.find
  dsimp only
  rw [aget_aput]
  split <;> rfl
theorem find_m {s t : MS} (h : s.m = t.m) (n : ByteArray) : s.find n = t.find n := by unfold MS.find; rw [h]
theorem storedOf_get (stream : ByteArray) (now : Int) : ∀ (l : List EventR) (v at_ : Int) (i : Nat) (h : i < l.length), (storedOf stream now l v at_)[i]? = some (stOne stream now l[i] (v + i) (at_ + i))
  | [], _, _, _, h => absurd h (Nat.not_lt_zero _)
  | e :: l, v, at_, 0, _ => by simp [storedOf, stOne]
  | e :: l, v, at_, i + 1, h => by
    have := storedOf_get stream now l (v + 1) (at_ + 1) i (by simpa using h)
    simp only [storedOf, List.getElem?_cons_succ, List.getElem_cons_succ]
    rw [this]
    simp only [stOne, Option.some.injEq, StoredR.mk.injEq, true_and, and_true]
    constructor <;> omega
theorem rangeFrom_get : ∀ (k : Nat) (a : Int) (i : Nat), i < k → (rangeFrom k a)[i]? = some (a + i)
  | 0, _, _, h => absurd h (Nat.not_lt_zero _)
  | k + 1, a, 0, _ => by simp [rangeFrom]
  | k + 1, a, i + 1, h => by
    simp only [rangeFrom, List.getElem?_cons_succ]
    rw [rangeFrom_get k (a + 1) i (by omega)]
    congr 1
    omega
/-- What act may do to the stream's places and to all events. -/
theorem act_places (s : MS) (c : Cmd) (x : StreamR) : (s.act c x).2.2.m = s.m ∧
    ((s.act c x).2.1.places = x.places ∧ (s.act c x).2.2.all = s.all ∨
      (s.act c x).2.1.places = x.places ++ rangeFrom c.events.length s.all.length ∧ (s.act c x).2.2.all = s.all ++ storedOf c.stream s.now c.events x.places.length s.all.length) := by
  unfold MS.act
  dsimp only
  split
  · exact ⟨rfl, .inl ⟨rfl, rfl⟩⟩
  split
  · split <;> exact ⟨rfl, .inl ⟨rfl, rfl⟩⟩
  split
  · exact ⟨rfl, .inl ⟨rfl, rfl⟩⟩
  split
  · exact ⟨rfl, .inr ⟨rfl, rfl⟩⟩
  · exact ⟨rfl, .inl ⟨rfl, rfl⟩⟩
/-- What Do leaves, in the shape that all proofs use: nothing turned but time and count; or the stream kept, its places as they were; or events behind. -/
theorem do_shape (s : MS) (c : Cmd) : ((s.do c).2.m = s.m ∧ (s.do c).2.all = s.all) ∨
    ∃ y : StreamR, (s.do c).2.m = aput s.m c.stream y ∧ (y.places = (s.find c.stream).places ∧ (s.do c).2.all = s.all ∨
      y.places = (s.find c.stream).places ++ rangeFrom c.events.length s.all.length ∧ (s.do c).2.all = s.all ++ storedOf c.stream (max s.now c.time) c.events (s.find c.stream).places.length s.all.length) := by
  unfold MS.do
  split
  · exact .inl ⟨rfl, rfl⟩
  dsimp only
  split
  · exact .inl ⟨rfl, rfl⟩
  split
  · exact .inl ⟨rfl, rfl⟩
  · right
    obtain ⟨h1, h2⟩ := act_places (s.tick c.time) c { (s.tick c.time).find c.stream with floor := (s.tick c.time).floorOf ((s.tick c.time).find c.stream) }
    generalize hr : (s.tick c.time).act c { (s.tick c.time).find c.stream with floor := (s.tick c.time).floorOf ((s.tick c.time).find c.stream) } = r at h1 h2
    refine ⟨{ r.2.1 with floor := r.2.2.floorOf r.2.1 }, ?_, ?_⟩
    · show aput r.2.2.m _ _ = _
      rw [h1]
      rfl
    · exact h2
theorem inv_new : MS.new.Inv := ⟨fun i h => absurd h (Nat.not_lt_zero _), fun n k h => absurd h (Nat.not_lt_zero _), fun i h => absurd h (Nat.not_lt_zero _)⟩
theorem MS.Inv.same {s t : MS} (h : s.Inv) (hm : ∀ n, (t.find n).places = (s.find n).places) (ha : t.all = s.all) : t.Inv := by
  refine ⟨fun i hi => ?_, fun n k hk => ?_, fun i hi => ?_⟩
  · simp only [ha] at hi ⊢
    exact h.pos i hi
  · simp only [hm, ha] at hk ⊢
    exact h.plc n k hk
  · simp only [ha] at hi ⊢
    rw [hm]
    exact h.ver i hi
theorem inv_do {s : MS} (h : s.Inv) (c : Cmd) : (s.do c).2.Inv := by
  rcases do_shape s c with ⟨h1, h2⟩ | ⟨y, h1, ⟨h2, h3⟩ | ⟨h2, h3⟩⟩
  · exact h.same (fun n => by rw [find_m h1]) h2
  · refine h.same (fun n => ?_) h3
    have e : (s.do c).2.find n = (s.put c.stream y).find n := find_m h1 n
    rw [e, find_put]
    split
    · rename_i q; subst q; exact h2
    · rfl
  · have hfi : ∀ n, ((s.do c).2.find n).places = if c.stream = n then y.places else (s.find n).places := fun n => by
      have e : (s.do c).2.find n = (s.put c.stream y).find n := find_m h1 n
      rw [e, find_put]
      split <;> rfl
    generalize (s.do c).2 = t at *
    obtain ⟨x, hx⟩ : ∃ x, x = s.find c.stream := ⟨_, rfl⟩
    rw [← hx] at h2 h3
    have hpre : ∀ i, i < s.all.length → t.all[i]? = s.all[i]? := fun i hi => by rw [h3, List.getElem?_append_left hi]
    have hsuf : ∀ i (hi : i < c.events.length), t.all[s.all.length + i]? = some (stOne c.stream (max s.now c.time) c.events[i] (x.places.length + i) (s.all.length + i)) := fun i hi => by
      rw [h3, List.getElem?_append_right (by omega), show s.all.length + i - s.all.length = i by omega]
      exact storedOf_get _ _ _ _ _ i hi
    have hlen : t.all.length = s.all.length + c.events.length := by rw [h3, List.length_append, storedOf_len]
    refine ⟨fun i hi => ?_, fun n k hk => ?_, fun i hi => ?_⟩
    · by_cases q : i < s.all.length
      · have e := hpre i q
        rw [List.getElem?_eq_getElem hi, List.getElem?_eq_getElem q] at e
        injection e with e
        rw [e]
        exact h.pos i q
      · have e := hsuf (i - s.all.length) (by omega)
        rw [show s.all.length + (i - s.all.length) = i by omega, List.getElem?_eq_getElem hi] at e
        injection e with e
        rw [e]
        simp only [stOne]
        omega
    · by_cases hn : c.stream = n
      · subst hn
        have hp := hfi c.stream
        rw [if_pos rfl, h2] at hp
        by_cases q : k < x.places.length
        · obtain ⟨p, hp1, hp2, hp3, hp4⟩ := h.plc c.stream k (by rw [← hx]; exact q)
          have e := hpre p hp1
          rw [List.getElem?_eq_getElem (by omega), List.getElem?_eq_getElem hp1] at e
          injection e with e
          refine ⟨p, by omega, ?_, by rw [e]; exact hp3, by rw [e]; exact hp4⟩
          simp only [hp]
          rw [List.getElem_append_left q]
          simpa [hx] using hp2
        · have hk' : k < x.places.length + c.events.length := by
            rw [hp, List.length_append, rangeFrom_len] at hk
            exact hk
          have e := hsuf (k - x.places.length) (by omega)
          have hlt : s.all.length + (k - x.places.length) < t.all.length := by omega
          rw [List.getElem?_eq_getElem hlt] at e
          injection e with e
          refine ⟨s.all.length + (k - x.places.length), hlt, ?_, by rw [e]; rfl, by rw [e]; simp only [stOne]; omega⟩
          have e2 : (t.find c.stream).places[k]? = some ((s.all.length : Int) + ((k - x.places.length : Nat) : Int)) := by
            rw [hp, List.getElem?_append_right (by omega)]
            exact rangeFrom_get _ _ _ (by omega)
          rw [List.getElem?_eq_getElem hk] at e2
          injection e2
      · have hp := hfi n
        rw [if_neg hn] at hp
        obtain ⟨p, hp1, hp2, hp3, hp4⟩ := h.plc n k (by rw [← hp]; exact hk)
        have e := hpre p hp1
        rw [List.getElem?_eq_getElem (by omega), List.getElem?_eq_getElem hp1] at e
        injection e with e
        refine ⟨p, by omega, ?_, by rw [e]; exact hp3, by rw [e]; exact hp4⟩
        simp only [hp]
        exact hp2
    · by_cases q : i < s.all.length
      · have e := hpre i q
        rw [List.getElem?_eq_getElem hi, List.getElem?_eq_getElem q] at e
        injection e with e
        obtain ⟨k, hk1, hk2⟩ := h.ver i q
        refine ⟨k, by rw [e]; exact hk1, ?_⟩
        rw [e, hfi]
        split
        · rename_i hn
          rw [← hn, ← hx] at hk2
          rw [h2, List.getElem?_append_left (List.getElem?_eq_some_iff.1 hk2).1]
          exact hk2
        · exact hk2
      · have e := hsuf (i - s.all.length) (by omega)
        rw [show s.all.length + (i - s.all.length) = i by omega, List.getElem?_eq_getElem hi] at e
        injection e with e
        refine ⟨x.places.length + (i - s.all.length), by rw [e]; simp only [stOne]; omega, ?_⟩
        rw [e, hfi]
        rw [if_pos (by rfl), h2, List.getElem?_append_right (by omega), rangeFrom_get _ _ _ (by omega)]
        congr 1
        omega
theorem MS.Inv.evAt {s : MS} (h : s.Inv) {n : ByteArray} {e : StoredR} (he : e ∈ (s.find n).places.map (evAt s.all)) : ∃ k p : Nat, ∃ hp : p < s.all.length, e = s.all[p] ∧ k < (s.find n).places.length ∧ e.stream = n ∧ e.version = k ∧ e.position = p := by
  obtain ⟨q, hq, rfl⟩ := List.mem_map.1 he
  obtain ⟨k, hk, rfl⟩ := List.mem_iff_getElem.1 hq
  obtain ⟨p, hp, h1, h2, h3⟩ := h.plc n k hk
  rw [h1, evAt_nat hp]
  exact ⟨k, p, hp, rfl, hk, h2, h3, h.pos p hp⟩
theorem seenL_sub (s : MS) (n : ByteArray) : ∀ e ∈ s.seenL n, e ∈ (s.find n).places.map (evAt s.all) := by
  intro e he
  unfold MS.seenL at he
  split at he
  · cases he
  · obtain ⟨q, hq, rfl⟩ := List.mem_map.1 he
    exact List.mem_map.2 ⟨q, List.mem_of_mem_drop hq, rfl⟩
theorem seenL_vers {s : MS} {N : Nat} (h : s.Inv) (hs : s.Ok N) (hN : N ≤ 100000) (n : ByteArray) : ∀ e ∈ s.seenL n, 0 ≤ e.version ∧ e.version ≤ 1000000000 := by
  intro e he
  obtain ⟨k, p, hp, _, hk, _, hv, _⟩ := h.evAt (seenL_sub s n e he)
  have := (hs.xok n).few
  have := hs.all
  omega
end
section
open Go.RowKit
/-- Above the world a, which stays; R: blocks of the caller's own that may turn by his hand; E: blocks that only are read. -/
structure HasS (a w : World) (R E : List Nat) (sb mb : Nat) (s : MS) (N : Nat) : Prop where
  only : Only [] a w
  st : ∃ M av pf, StAt w M sb mb av pf s ∧ (∀ g ∈ M, a.heap.size ≤ g ∧ g ∉ E) ∧ (∀ g ∈ R, g ∈ M) ∧ ∀ g ∈ hM sb mb av, g ∉ R
  el : ∀ g ∈ E, g < w.heap.size
  ok : s.Ok N
  inv : s.Inv
section
variable {a w w' : World} {R R' E E' : List Nat} {sb mb N : Nat} {s : MS}
theorem HasS.keep (h : HasS a w R E sb mb s N) (k : Only [] w w') : HasS a w' R E sb mb s N := by
  obtain ⟨M, av, pf, h1, h2⟩ := h.st
  exact ⟨h.only.trans k, ⟨M, av, pf, h1.only0 k, h2⟩, fun g hg => Nat.lt_of_lt_of_le (h.el g hg) k.size, h.ok, h.inv⟩
theorem StAt.fresh {M : List Nat} {av : Value} {pf : ByteArray → Value} (h : StAt w M sb mb av pf s) (k : Only [] w w') {g : Nat} (h1 : w.heap.size ≤ g) (h2 : g < w'.heap.size) : StAt w' (g :: M) sb mb av pf s := by
  have h' := h.only0 k
  exact ⟨h'.blk, h'.own, h'.map, fun n x hx => ((h.pl n x hx).ext (M' := g :: M) (fun i hi => by simp at hi; rcases hi with rfl | hi; exact .inr h1; exact .inl hi)).only0 k,
    ⟨List.mem_cons_of_mem _ h.inM.1, List.mem_cons_of_mem _ h.inM.2.1, fun i hi => List.mem_cons_of_mem _ (h.inM.2.2 i hi)⟩,
    fun i hi => by simp at hi; rcases hi with rfl | hi; exact h2; exact h'.mlt i hi⟩
/-- One more block of one's own. -/
theorem HasS.addR (h : HasS a w R E sb mb s N) (k : Only [] w w') {g : Nat} (h1 : w.heap.size ≤ g) (h2 : g < w'.heap.size) : HasS a w' (g :: R) E sb mb s N := by
  obtain ⟨M, av, pf, q1, q2, q3, q4⟩ := h.st
  refine ⟨h.only.trans k, ⟨g :: M, av, pf, q1.fresh k h1 h2, fun i hi => ?_, fun i hi => ?_, fun i hi q => ?_⟩, fun g hg => Nat.lt_of_lt_of_le (h.el g hg) k.size, h.ok, h.inv⟩
  · rcases List.mem_cons.1 hi with rfl | hi
    · refine ⟨Nat.le_trans h.only.size h1, fun q => ?_⟩
      have := h.el i q
      omega
    · exact q2 i hi
  · rcases List.mem_cons.1 hi with rfl | hi
    · simp
    · exact List.mem_cons_of_mem _ (q3 i hi)
  · rcases List.mem_cons.1 q with rfl | q
    · have := q1.lt i hi
      omega
    · exact q4 i hi q
/-- One more block that is only read. -/
theorem HasS.addE (h : HasS a w R E sb mb s N) (k : Only [] w w') {g : Nat} (h1 : w.heap.size ≤ g) (h2 : g < w'.heap.size) : HasS a w' R (g :: E) sb mb s N := by
  obtain ⟨M, av, pf, q1, q2, q3, q4⟩ := h.st
  refine ⟨h.only.trans k, ⟨M, av, pf, q1.only0 k, fun i hi => ⟨(q2 i hi).1, fun q => ?_⟩, q3, q4⟩, fun i hi => ?_, h.ok, h.inv⟩
  · rcases List.mem_cons.1 q with rfl | q
    · have := q1.mlt i hi
      omega
    · exact (q2 i hi).2 q
  · rcases List.mem_cons.1 hi with rfl | hi
    · exact h2
    · exact Nat.lt_of_lt_of_le (h.el i hi) k.size
theorem HasS.ownR (h : HasS a w R E sb mb s N) (k : Only [] w w') {e : TypeId} {size n : Nat} {v : Value} {xs : List Value} (ho : w'.ownsRow w.heap.size e size v n xs) : HasS a w' (v.ownBlock.toList ++ R) E sb mb s N := by
  cases hv : v.ownBlock with
  | none => simpa [hv] using h.keep k
  | some g =>
    have := ho.lt g hv
    simpa [hv] using h.addR k this.1 this.2
theorem HasS.less (h : HasS a w R E sb mb s N) (hr : ∀ g ∈ R', g ∈ R) (he : ∀ g ∈ E', g ∈ E) : HasS a w R' E' sb mb s N := by
  obtain ⟨M, av, pf, q1, q2, q3, q4⟩ := h.st
  exact ⟨h.only, ⟨M, av, pf, q1, fun g hg => ⟨(q2 g hg).1, fun q => (q2 g hg).2 (he g q)⟩, fun g hg => q3 g (hr g hg), fun g hg q => q4 g hg (hr g q)⟩, fun g hg => h.el g (he g hg), h.ok, h.inv⟩
/-- Blocks of one's own turn: the state stays. -/
theorem HasS.turn {S : List Nat} (h : HasS a w R E sb mb s N) (k : Only S w w') (hS : ∀ g ∈ S, g ∈ R) : HasS a w' R E sb mb s N := by
  obtain ⟨M, av, pf, q1, q2, q3, q4⟩ := h.st
  exact ⟨h.only.step k (fun g hg => .inr (q2 g (q3 g (hS g hg))).1), ⟨M, av, pf, q1.only k (fun g hg => q3 g (hS g hg)) (fun g hg q => q4 g hg (hS g q)), q2, q3, q4⟩, fun g hg => Nat.lt_of_lt_of_le (h.el g hg) k.size, h.ok, h.inv⟩
theorem has_newS (a w : World) (ha : Only [] a w) (E : List Nat) (hE : ∀ g ∈ E, g < w.heap.size) : Calls Tryz.prog 8 #[] w fun e w' => e = .returned (.pointer (some ⟨w.heap.size + 1, 0, none⟩)) ∧ HasS a w' [] E (w.heap.size + 1) w.heap.size MS.new 0 ∧ Only [] w w' :=
  (newS_any w (fun _ => .slice none 0 0)).mono fun e w' ⟨h1, h2, h3⟩ => ⟨h1, ⟨ha.trans h3, ⟨_, _, _, h2, fun g hg => by
    have := ha.size
    simp at hg
    refine ⟨by omega, fun q => ?_⟩
    have := hE g q
    omega, fun g hg => (by cases hg), fun g hg q => (by cases q)⟩, fun g hg => Nat.lt_of_lt_of_le (hE g hg) h3.size, MS.new_ok, inv_new⟩, h3⟩
/-- A command's events, where they lie. -/
def EvIn (a w : World) (E : List Nat) (ev : Value) (l : List EventR) : Prop := Slc w 4 ev l.length (l.flatMap EventR.cells) ∧ ∀ g, ev.ownBlock = some g → (g < a.heap.size ∨ g ∈ E) ∨ l.length = 0
theorem has_do {c : Cmd} {ev : Value} (h : HasS a w R E sb mb s N) (hN : N ≤ 100000) (hc : CmdOk c) (he : EvIn a w E ev c.events) :
    Calls Tryz.prog 9 #[.pointer (some ⟨sb, 0, none⟩), c.val ev] w fun e w' => e = .returned (s.do c).1.val ∧ HasS a w' R E sb mb (s.do c).2 (N + 1) ∧ Keeps a (R ++ E) w w' := by
  obtain ⟨M, av, pf, h1, h2, h3, h4⟩ := h.st
  have hrd : Rd M w 4 ev c.events.length (c.events.flatMap EventR.cells) := ⟨he.1, fun g hg => by
    rcases he.2 g hg with (q | q) | q
    · exact .inl ⟨fun q2 => by have := (h2 g q2).1; omega, Nat.lt_of_lt_of_le q h.only.size⟩
    · exact .inl ⟨fun q2 => (h2 g q2).2 q, h.el g q⟩
    · exact .inr q⟩
  refine (do_any h1 h.ok hN hc hrd).mono fun e w' ⟨q1, M', av', pf', q2, q3, q4, q5, q6⟩ => ⟨q1, ?_, ⟨_, q3, fun g hg => ⟨(h2 g (h1.hMM g hg)).1, fun q => ?_⟩⟩⟩
  · refine ⟨h.only.step q3 (fun g hg => .inr (h2 g (h1.hMM g hg)).1), ⟨M', av', pf', q2, fun g hg => ?_, fun g hg => q4 g (h3 g hg), fun g hg q => ?_⟩, fun g hg => Nat.lt_of_lt_of_le (h.el g hg) q3.size, MS.do_ok h.ok c, inv_do h.inv c⟩
    · rcases q5 g hg with q | q
      · exact h2 g q
      · refine ⟨Nat.le_trans h.only.size q, fun q7 => ?_⟩
        have := h.el g q7
        omega
    · simp only [hM, List.mem_cons, Option.mem_toList] at hg
      rcases hg with rfl | rfl | hg
      · exact h4 _ (by simp [hM]) q
      · exact h4 _ (by simp [hM]) q
      · rcases q6 g hg with q7 | q7
        · exact h4 g (by simp [hM, q7]) q
        · have := h1.mlt g (h3 g q)
          omega
  · rcases List.mem_append.1 q with q | q
    · exact h4 g hg q
    · exact (h2 g (h1.hMM g hg)).2 q
theorem has_read (h : HasS a w R E sb mb s N) (hN : N ≤ 100000) (n : ByteArray) (hn : n.size ≤ maxLen) (f k : Int) : Calls Tryz.prog 80 #[.pointer (some ⟨sb, 0, none⟩), .string n, .int .i64 f, .int .i64 k, .bool false] w (PageRet w (s.readF n f k)) := by
  obtain ⟨M, av, pf, h1, h2⟩ := h.st
  exact readF_any h1 h.ok hN n hn f k (seenL_vers h.inv h.ok hN n)
end
end
section
open Go.RowKit Go Go.Sort
section
variable {P : Program} {C : World → Prop} {Q : Exit → Act → World → Prop} {l : List Oper} {H A T2 : List Nat} {r : List (List Nat × List Nat)} {K : Act → World → Prop} {a : Act} {w : World}
theorem stagesFirst (h : wpQuiet P l.toArray C (fun a' => wpT1 P l.toArray C Q (opsAt l A) (wpStages P l C Q K r) a' w) (opsAt l H) a) : wpStages P l C Q K ((H, A) :: r) a w := h
theorem stagesNext (h : wpQuiet P l.toArray C (fun a' => wpT1 P l.toArray C Q (opsAt l A) (wpStages P l C Q K r) a' w) (opsAt l H) a) : wpT1 P l.toArray C Q (opsAt l []) (wpStages P l C Q K ((H, A) :: r)) a w := h
theorem stagesEnd (h : wpList P l.toArray Q (opsAt l T2) a w) : wpT1 P l.toArray C Q (opsAt l []) (wpStages P l C Q (fun a w => wpList P l.toArray Q (opsAt l T2) a w) []) a w := h
end
def MS.seenAt (s : MS) (p : Int) : Bool := if p < 0 ∨ (s.all.length : Int) ≤ p then false else !(s.find (evAt s.all p).stream).deleted && decide (s.floorS (evAt s.all p).stream ≤ (evAt s.all p).version)
section
variable {w : World} {M : List Nat} {sb mb N : Nat} {av : Value} {pf : ByteArray → Value} {s : MS}
set_option maxRecDepth 100000 in
set_option maxHeartbeats 2000000 in
theorem seenAt_any (h : StAt w M sb mb av pf s) (hs : s.Ok N) (hN : N ≤ 100000) (p : Int) :
    Calls Tryz.prog 111 #[.pointer (some ⟨sb, 0, none⟩), .int .i64 p] w fun e w' => e = .returned (.bool (s.seenAt p)) ∧ Only [] w w' := by
  have hal := hs.all
  obtain ⟨A2, cap2, hav, hnc2, hcm2, hel2⟩ := h.cell
  unfold maxLen at hcm2
  have hln := Lib.hid (fun (W : World) (hW : Only [] w W) => lenS_any (h.only0 hW))
  by_cases hneg : p < 0
  · have hR : Hid (s.seenAt p = false) := by unfold Hid MS.seenAt; rw [if_pos (.inl hneg)]
    clear hel2
    go_enter Tryz.func111, Tryz.ntmps111
    go_wp2
    go_ret
    exact ⟨ret_b (by rw [hR.out]), Only.refl _ _⟩
  · by_cases hge : p ≥ s.all.length
    · have hR : Hid (s.seenAt p = false) := by unfold Hid MS.seenAt; rw [if_pos (.inr hge)]
      clear hel2
      go_enter Tryz.func111, Tryz.ntmps111
      go_wp2_with (go_at_call 142; refine (hln.out _ (Only.refl _ _)).mono ?_; rintro e w1 ⟨rfl, rfl⟩)
      go_ret
      exact ⟨ret_b (by rw [hR.out]), Only.refl _ _⟩
    · obtain ⟨q, rfl⟩ := Int.eq_ofNat_of_zero_le (show 0 ≤ p by omega)
      have hq : q < s.all.length := by omega
      have hqi : (q : Int) < s.all.length := by omega
      have hdec : s.seenAt q = (!(s.find (s.all[q]).stream).deleted && decide (s.floorS (s.all[q]).stream ≤ (s.all[q]).version)) := by
        unfold MS.seenAt
        rw [if_neg (by omega), evAt_nat hq]
      obtain ⟨b2, rfl, hb2, hc2⟩ := hel2 q hq
      obtain ⟨z, hz⟩ : ∃ z, z = s.all[q] := ⟨_, rfl⟩
      rw [← hz] at hc2 hdec
      have d0 : w.cell? ⟨b2, q * 8, none⟩ = some (.int .i64 z.ev.id) := hc2 0 (by omega)
      have d1 : w.cell? ⟨b2, q * 8 + 1, none⟩ = some (.string z.ev.type) := hc2 1 (by omega)
      have d2 : w.cell? ⟨b2, q * 8 + 2, none⟩ = some (.string z.ev.data) := hc2 2 (by omega)
      have d3 : w.cell? ⟨b2, q * 8 + 3, none⟩ = some (.float .f64 z.ev.value) := hc2 3 (by omega)
      have d4 : w.cell? ⟨b2, q * 8 + 4, none⟩ = some (.string z.stream) := hc2 4 (by omega)
      have d5 : w.cell? ⟨b2, q * 8 + 5, none⟩ = some (.int .i64 z.version) := hc2 5 (by omega)
      have d6 : w.cell? ⟨b2, q * 8 + 6, none⟩ = some (.int .i64 z.position) := hc2 6 (by omega)
      have d7 : w.cell? ⟨b2, q * 8 + 7, none⟩ = some (.int .i64 z.time) := hc2 7 (by omega)
      have c0 : w.cell? ⟨sb, 0, none⟩ = some (.slice (some ⟨b2, 0, none⟩) s.all.length cap2) := by rw [← hav]; exact h.blk.cell 0
      have hdl := fun (W : World) (hW : Only [] w W) => deletedS_any (h.only0 hW) z.stream
      have hfl := fun (W : World) (hW : Only [] w W) => floorS_any (h.only0 hW) hs hN z.stream
      obtain ⟨fo, hfo⟩ : ∃ fo, fo = s.floorS z.stream := ⟨_, rfl⟩
      rw [← hfo] at hfl hdec
      have HF := Lib.hid hfl
      have hsf := stF
      have hB := Blk.new w 92 #[.int .i64 z.ev.id, .string z.ev.type, .string z.ev.data, .float .f64 z.ev.value, .string z.stream, .int .i64 z.version, .int .i64 z.position, .int .i64 z.time]
      have hlw : w.heap.size < (w.alloc (.cells #[.int .i64 z.ev.id, .string z.ev.type, .string z.ev.data, .float .f64 z.ev.value, .string z.stream, .int .i64 z.version, .int .i64 z.position, .int .i64 z.time] 92)).heap.size := by simp
      obtain ⟨W0, hW0⟩ : ∃ W0, W0 = w.alloc (.cells #[.int .i64 z.ev.id, .string z.ev.type, .string z.ev.data, .float .f64 z.ev.value, .string z.stream, .int .i64 z.version, .int .i64 z.position, .int .i64 z.time] 92) := ⟨_, rfl⟩
      have hO0 : Only [] w W0 := by rw [hW0]; exact (Only.refl [] w).alloc _
      rw [← hW0] at hB hlw
      have HW0 := Lib.hid hW0
      have k4 := Kept.cell (a := W0) (R := []) (hB.cell 4) (.inl hlw)
      have k5 := Kept.cell (a := W0) (R := []) (hB.cell 5) (.inl hlw)
      clear hel2 hc2 hz hfl hfo hW0
      cases hd : (s.find z.stream).deleted with
      | true =>
        rw [hd] at hdl hdec
        have HD := Lib.hid hdl
        have hR : Hid (s.seenAt q = false) := by unfold Hid; rw [hdec]; rfl
        clear hdl hdec hd
        go_enter Tryz.func111, Tryz.ntmps111
        go_wp2_with (go_at_call 142; refine (hln.out _ (Only.refl _ _)).mono ?_; rintro e w1 ⟨rfl, rfl⟩)
        rw [← HW0.out]
        refine wp_region_stages (C := fun W => ∃ p : Kept W0 [] W0, W = p.W) [([0, 1, 2], [3]), ([4, 5, 6, 7, 8, 9, 10], [11])] [12, 13, 14] (by kernel_rfl) (by kernel_rfl) (by intro c d u a w h; cases d <;> exact h) ⟨⟨_, (Keeps.refl _ _ _).drew⟩, rfl⟩ ?_
        refine stagesFirst ?_
        show wpQuiet _ _ _ _ [_, _, _] _
        repeat (go_big_quiet_step (fail))
        refine wpQuiet_nil ?_
        show wpList _ _ _ [_] _ _
        go_wp2_with (go_at_call 38; refine (HD.out _ hO0.drew).mono ?_; rintro e w2 ⟨rfl, ho2⟩)
        have hK : Keeps W0 [] W0 w2 := (Keeps.refl _ _ _).drew.then0 ho2
        refine check_kept hK ?_
        refine stagesNext ?_
        show wpQuiet _ _ _ _ [_, _, _, _, _, _, _] _
        try go_frame
        repeat (go_big_quiet_step (fail))
        refine wpQuiet_nil ?_
        show wpList _ _ _ [_] _ _
        go_wp2_with fail
        refine check_kept hK ?_
        refine stagesEnd ?_
        show wpList _ _ _ [_, _, _] _ _
        go_wp2
        go_ret
        exact ⟨ret_b (by rw [hR.out]), hO0.drew.trans ho2⟩
      | false =>
        rw [hd] at hdl hdec
        have HD := Lib.hid hdl
        have hR : Hid (s.seenAt q = decide (fo ≤ z.version)) := by unfold Hid; rw [hdec]; rfl
        clear hdl hdec hd
        go_enter Tryz.func111, Tryz.ntmps111
        go_wp2_with (go_at_call 142; refine (hln.out _ (Only.refl _ _)).mono ?_; rintro e w1 ⟨rfl, rfl⟩)
        rw [← HW0.out]
        refine wp_region_stages (C := fun W => ∃ p : Kept W0 [] W0, W = p.W) [([0, 1, 2], [3]), ([4, 5, 6, 7, 8, 9, 10], [11])] [12, 13, 14] (by kernel_rfl) (by kernel_rfl) (by intro c d u a w h; cases d <;> exact h) ⟨⟨_, (Keeps.refl _ _ _).drew⟩, rfl⟩ ?_
        refine stagesFirst ?_
        show wpQuiet _ _ _ _ [_, _, _] _
        repeat (go_big_quiet_step (fail))
        refine wpQuiet_nil ?_
        show wpList _ _ _ [_] _ _
        go_wp2_with (go_at_call 38; refine (HD.out _ hO0.drew).mono ?_; rintro e w2 ⟨rfl, ho2⟩)
        have hK : Keeps W0 [] W0 w2 := (Keeps.refl _ _ _).drew.then0 ho2
        refine check_kept hK ?_
        refine stagesNext ?_
        show wpQuiet _ _ _ _ [_, _, _, _, _, _, _] _
        try go_frame
        repeat (go_big_quiet_step (fail))
        refine wpQuiet_nil ?_
        show wpList _ _ _ [_] _ _
        go_wp2_with (go_at_call 37; refine (HF.out _ (hO0.drew.trans ho2)).mono ?_; rintro e w3 ⟨rfl, ho3⟩)
        refine check_kept (hK.then0 ho3) ?_
        refine stagesEnd ?_
        show wpList _ _ _ [_, _, _] _ _
        go_wp2
        go_ret
        exact ⟨ret_b (by rw [hR.out]), (hO0.drew.trans ho2).trans ho3⟩
end
section
variable {a w : World} {R E : List Nat} {sb mb N : Nat} {s : MS}
theorem has_seen (h : HasS a w R E sb mb s N) (hN : N ≤ 100000) (p : Int) :
    Calls Tryz.prog 111 #[.pointer (some ⟨sb, 0, none⟩), .int .i64 p] w fun e w' => e = .returned (.bool (s.seenAt p)) ∧ Only [] w w' := by
  obtain ⟨M, av, pf, h1, _⟩ := h.st
  exact seenAt_any h1 h.ok hN p
end
end
section
open Go.RowKit
/-- The places of a stream lead to just its events, in order; names are names. -/
def MS.Inv2 (s : MS) : Prop := (∀ n, (s.find n).places.map (evAt s.all) = s.all.filter (fun e => decide (e.stream = n))) ∧ ∀ e ∈ s.all, nameOk e.stream = true
theorem inv2_new : MS.new.Inv2 := ⟨fun n => rfl, fun e he => by cases he⟩
theorem storedOf_stream (stream : ByteArray) (now : Int) : ∀ (l : List EventR) (v at_ : Int), ∀ e ∈ storedOf stream now l v at_, e.stream = stream
  | [], _, _, e, h => by cases h
  | x :: l, v, at_, e, h => by
    simp only [storedOf, List.mem_cons] at h
    rcases h with rfl | h
    · rfl
    · exact storedOf_stream stream now l _ _ e h
theorem evAt_append {all l : List StoredR} {p : Nat} (h : p < all.length) : evAt (all ++ l) (p : Int) = evAt all (p : Int) := by
  simp [evAt, List.getElem?_append_left h]
theorem range_evAt (all st : List StoredR) : (rangeFrom st.length all.length).map (evAt (all ++ st)) = st := by
  apply List.ext_getElem?
  intro i
  by_cases h : i < st.length
  · rw [List.getElem?_map, rangeFrom_get _ _ _ h, Option.map_some]
    rw [show (all.length : Int) + (i : Int) = ((all.length + i : Nat) : Int) by omega]
    rw [evAt_nat (by simp; omega), List.getElem_append_right (by omega)]
    simp [h]
  · rw [List.getElem?_eq_none (by simp [rangeFrom_len]; omega), List.getElem?_eq_none (by omega)]
theorem MS.Inv2.same {s t : MS} (h : s.Inv2) (hm : ∀ n, (t.find n).places = (s.find n).places) (ha : t.all = s.all) : t.Inv2 :=
  ⟨fun n => by rw [hm, ha]; exact h.1 n, fun e he => h.2 e (by rw [← ha]; exact he)⟩
theorem inv2_do {s : MS} (h : s.Inv) (h2 : s.Inv2) (c : Cmd) : (s.do c).2.Inv2 := by
  by_cases hk : c.check = 0
  · by_cases hq : c.kind = 4 ∨ c.kind = 5
    · have e : (s.do c).2 = s.tick c.time := by
        unfold MS.do
        rw [if_neg (by simp [hk])]
        dsimp only
        rw [if_pos hq]
      rw [e]
      exact h2.same (fun _ => rfl) rfl
    · have hn : nameOk c.stream = true := by
        unfold Cmd.check at hk
        split at hk
        · cases hk
        · rename_i q1
          split at hk
          · cases hk
          · rename_i q2
            cases hb : nameOk c.stream with
            | true => rfl
            | false => exact absurd ⟨by omega, hb⟩ q2
      rcases do_shape s c with ⟨h1, h3⟩ | ⟨y, h1, ⟨h4, h3⟩ | ⟨h4, h3⟩⟩
      · exact h2.same (fun n => by rw [find_m h1]) h3
      · refine h2.same (fun n => ?_) h3
        have e : (s.do c).2.find n = (s.put c.stream y).find n := find_m h1 n
        rw [e, find_put]
        split
        · rename_i q; subst q; exact h4
        · rfl
      · have hfi : ∀ n, ((s.do c).2.find n).places = if c.stream = n then y.places else (s.find n).places := fun n => by
          have e : (s.do c).2.find n = (s.put c.stream y).find n := find_m h1 n
          rw [e, find_put]
          split <;> rfl
        generalize (s.do c).2 = t at *
        obtain ⟨st, hst⟩ : ∃ st, st = storedOf c.stream (max s.now c.time) c.events (s.find c.stream).places.length s.all.length := ⟨_, rfl⟩
        rw [← hst] at h3
        have hsl : st.length = c.events.length := by rw [hst, storedOf_len]
        have hss : ∀ e ∈ st, e.stream = c.stream := by rw [hst]; exact storedOf_stream _ _ _ _ _
        have hold : ∀ n, (s.find n).places.map (evAt t.all) = s.all.filter (fun e => decide (e.stream = n)) := fun n => by
          rw [← h2.1 n]
          apply List.map_congr_left
          intro p hp
          obtain ⟨k, hk, rfl⟩ := List.mem_iff_getElem.1 hp
          obtain ⟨q, hq1, hq2, _⟩ := h.plc n k hk
          rw [hq2, h3]
          exact evAt_append hq1
        refine ⟨fun n => ?_, fun e he => ?_⟩
        · rw [hfi]
          split
          · rename_i q
            subst q
            rw [h4, List.map_append, hold, h3, List.filter_append, ← hsl, range_evAt]
            congr 1
            exact (List.filter_eq_self.2 (fun e he => by simpa using hss e he)).symm
          · rename_i q
            rw [hold, h3, List.filter_append]
            rw [show st.filter (fun e => decide (e.stream = n)) = [] from List.filter_eq_nil_iff.2 (fun e he => by simpa [hss e he] using q), List.append_nil]
        · rw [h3] at he
          rcases List.mem_append.1 he with he | he
          · exact h2.2 e he
          · rw [hss e he]
            exact hn
  · have e : (s.do c).2 = s := by
      unfold MS.do
      rw [if_pos (by simpa using hk)]
    rw [e]
    exact h2
theorem drop_filter (f : StoredR → Int) : ∀ (L : List StoredR) (b : Int) (h : ∀ k (hk : k < L.length), f L[k] = b + k) (a : Nat), L.drop a = L.filter (fun e => decide (b + a ≤ f e))
  | [], _, _, _ => by simp
  | x :: l, b, h, 0 => by
    rw [List.drop_zero, List.filter_eq_self.2]
    intro e he
    obtain ⟨k, hk, rfl⟩ := List.mem_iff_getElem.1 he
    rw [h k hk]
    simp
    omega
  | x :: l, b, h, a + 1 => by
    have h0 := h 0 (by simp)
    simp only [List.getElem_cons_zero] at h0
    rw [List.drop_succ_cons, drop_filter f l (b + 1) (fun k hk => by
      have := h (k + 1) (by simpa using hk)
      simp only [List.getElem_cons_succ] at this
      rw [this]
      omega) a, List.filter_cons, if_neg (by simp [h0]; omega)]
    congr 1
    funext e
    congr 1
    apply propext
    constructor <;> intro <;> omega
def MS.seenAll (s : MS) : List StoredR := s.all.filter (fun e => s.seenAt e.position)
theorem seenAt_of {s : MS} (h : s.Inv) {e : StoredR} (he : e ∈ s.all) : s.seenAt e.position = (!(s.find e.stream).deleted && decide (s.floorS e.stream ≤ e.version)) := by
  obtain ⟨i, hi, rfl⟩ := List.mem_iff_getElem.1 he
  rw [h.pos i hi]
  unfold MS.seenAt
  rw [if_neg (by omega), evAt_nat hi]
theorem floorS_bd (s : MS) (n : ByteArray) : 0 ≤ s.floorS n ∧ s.floorS n ≤ (s.find n).places.length := floorOf_bd s (s.find n)
theorem streamEvs_vers {s : MS} (h : s.Inv) (h2 : s.Inv2) (n : ByteArray) : ∀ k (hk : k < (s.all.filter (fun e => decide (e.stream = n))).length), (s.all.filter (fun e => decide (e.stream = n)))[k].version = 0 + (k : Int) := by
  intro k hk
  have e := h2.1 n
  simp only [← e] at hk ⊢
  rw [List.getElem_map]
  obtain ⟨p, hp, h3, h4, h5⟩ := h.plc n k (by simpa using hk)
  rw [h3, evAt_nat hp, h5]
  omega
theorem seenL_filter {s : MS} (h : s.Inv) (h2 : s.Inv2) (n : ByteArray) : s.seenL n = s.seenAll.filter (fun e => decide (e.stream = n)) := by
  have e1 : s.seenAll.filter (fun e => decide (e.stream = n)) = (s.all.filter (fun e => decide (e.stream = n))).filter (fun e => !(s.find n).deleted && decide (s.floorS n ≤ e.version)) := by
    unfold MS.seenAll
    rw [List.filter_filter, List.filter_filter]
    apply List.filter_congr
    intro e he
    by_cases q : e.stream = n
    · rw [seenAt_of h he, q]
      simp
    · simp [q]
  rw [e1]
  unfold MS.seenL
  cases (s.find n).deleted with
  | true =>
    simp only [if_true, Bool.not_true, Bool.false_and]
    rw [List.filter_eq_nil_iff.2 (by simp)]
  | false =>
    simp only [Bool.false_eq_true, if_false, Bool.not_false, Bool.true_and]
    rw [List.map_drop, h2.1 n, drop_filter StoredR.version _ 0 (streamEvs_vers h h2 n)]
    have := floorS_bd s n
    congr 1
    funext e
    congr 1
    apply propext
    constructor <;> intro <;> omega
/-! ## pages one behind the other -/
end
end Go.Proofs.YteinoiicnmemhaaGreatDoor
