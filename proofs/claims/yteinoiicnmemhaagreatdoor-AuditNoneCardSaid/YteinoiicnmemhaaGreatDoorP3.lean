/- Proved here: contracts of functions and plain laws, part 3 of one proof. Conditions: each theorem names its own. -/
import Derived.Test.YteinoiicnmemhaaGreatDoorP2
import Derived.Lib.SliceRun
import Derived.Deep.DeepCutAuto
import Derived.Sort.Walk0
import Derived.Test.YteinoiicnmemhaaGreatDoorProg
import Derived.Deep.AppendLies
import Derived.Lib.AppendZeros
import Derived.Lib.QuietBelow
import Derived.Laws.IdiomStrings
import Derived.OrdersIn
import Derived.RangeFuncNested
import Derived.RangeFuncCalls
import Derived.RangeFuncBound
import Derived.RangeFuncLeaves
import Derived.RangeFuncBox
import Derived.Shelf.Abstract
import Derived.Shelf.RegionOpen
import Derived.WalkKit
import Derived.OwnWalkIn
import Derived.TacticsInMore
import Derived.LoopNIn
import Derived.LoopIn
/- Contract: Seen. -/
set_option linter.unusedVariables false
set_option linter.unusedSimpArgs false
namespace Go.Proofs.YteinoiicnmemhaaGreatDoor
open Go.RowKit Go Go.Sort
section
variable {P : Program} {C : World → Prop} {Q : Exit → Act → World → Prop} {l : List Oper} {H A T2 : List Nat} {r : List (List Nat × List Nat)} {K : Act → World → Prop} {a : Act} {w : World}
theorem stagesFirst (h : wpQuiet P l.toArray C (fun a' => wpT1 P l.toArray C Q (opsAt l A) (wpStages P l C Q K r) a' w) (opsAt l H) a) : wpStages P l C Q K ((H, A) :: r) a w := h
theorem stagesNext (h : wpQuiet P l.toArray C (fun a' => wpT1 P l.toArray C Q (opsAt l A) (wpStages P l C Q K r) a' w) (opsAt l H) a) : wpT1 P l.toArray C Q (opsAt l []) (wpStages P l C Q K ((H, A) :: r)) a w := h
theorem stagesEnd (h : wpList P l.toArray Q (opsAt l T2) a w) : wpT1 P l.toArray C Q (opsAt l []) (wpStages P l C Q (fun a w => wpList P l.toArray Q (opsAt l T2) a w) []) a w := h
end
def MS.seenAt (s : MS) (p : Int) : Bool := if p < 0 ∨ (s.all.length : Int) ≤ p then false else !(s.find (evAt s.all p).stream).deleted && decide (s.floorS (evAt s.all p).stream ≤ (evAt s.all p).version)
section
variable {w : World} {M : List Nat} {sb mb N : Nat} {av : Value} {pf : ByteArray → Value} {s : MS}
set_option maxRecDepth 100000 in
set_option maxHeartbeats 2000000 in
theorem seenAt_any (h : StAt w M sb mb av pf s) (hs : s.Ok N) (hN : N ≤ 100000) (p : Int) :
    Calls Tryz.prog 111 #[.pointer (some ⟨sb, 0, none⟩), .int .i64 p] w fun e w' => e = .returned (.bool (s.seenAt p)) ∧ Only [] w w' := by
  have hal := hs.all
  obtain ⟨A2, cap2, hav, hnc2, hcm2, hel2⟩ := h.cell
  unfold maxLen at hcm2
  have hln := Lib.hid (fun (W : World) (hW : Only [] w W) => lenS_any (h.only0 hW))
  by_cases hneg : p < 0
  · have hR : Hid (s.seenAt p = false) := by unfold Hid MS.seenAt; rw [if_pos (.inl hneg)]
    clear hel2
    go_enter Tryz.func111, Tryz.ntmps111
    go_wp2
    go_ret
    exact ⟨ret_b (by rw [hR.out]), Only.refl _ _⟩
  · by_cases hge : p ≥ s.all.length
    · have hR : Hid (s.seenAt p = false) := by unfold Hid MS.seenAt; rw [if_pos (.inr hge)]
      clear hel2
      go_enter Tryz.func111, Tryz.ntmps111
      go_wp2_with (go_at_call 142; refine (hln.out _ (Only.refl _ _)).mono ?_; rintro e w1 ⟨rfl, rfl⟩)
      go_ret
      exact ⟨ret_b (by rw [hR.out]), Only.refl _ _⟩
    · obtain ⟨q, rfl⟩ := Int.eq_ofNat_of_zero_le (show 0 ≤ p by omega)
      have hq : q < s.all.length := by omega
      have hqi : (q : Int) < s.all.length := by omega
      have hdec : s.seenAt q = (!(s.find (s.all[q]).stream).deleted && decide (s.floorS (s.all[q]).stream ≤ (s.all[q]).version)) := by
        unfold MS.seenAt
        rw [if_neg (by omega), evAt_nat hq]
      obtain ⟨b2, rfl, hb2, hc2⟩ := hel2 q hq
      obtain ⟨z, hz⟩ : ∃ z, z = s.all[q] := ⟨_, rfl⟩
      rw [← hz] at hc2 hdec
      have d0 : w.cell? ⟨b2, q * 8, none⟩ = some (.int .i64 z.ev.id) := hc2 0 (by omega)
      have d1 : w.cell? ⟨b2, q * 8 + 1, none⟩ = some (.string z.ev.type) := hc2 1 (by omega)
      have d2 : w.cell? ⟨b2, q * 8 + 2, none⟩ = some (.string z.ev.data) := hc2 2 (by omega)
      have d3 : w.cell? ⟨b2, q * 8 + 3, none⟩ = some (.float .f64 z.ev.value) := hc2 3 (by omega)
      have d4 : w.cell? ⟨b2, q * 8 + 4, none⟩ = some (.string z.stream) := hc2 4 (by omega)
      have d5 : w.cell? ⟨b2, q * 8 + 5, none⟩ = some (.int .i64 z.version) := hc2 5 (by omega)
      have d6 : w.cell? ⟨b2, q * 8 + 6, none⟩ = some (.int .i64 z.position) := hc2 6 (by omega)
      have d7 : w.cell? ⟨b2, q * 8 + 7, none⟩ = some (.int .i64 z.time) := hc2 7 (by omega)
      have c0 : w.cell? ⟨sb, 0, none⟩ = some (.slice (some ⟨b2, 0, none⟩) s.all.length cap2) := by rw [← hav]; exact h.blk.cell 0
      have hdl := fun (W : World) (hW : Only [] w W) => deletedS_any (h.only0 hW) z.stream
      have hfl := fun (W : World) (hW : Only [] w W) => floorS_any (h.only0 hW) hs hN z.stream
      obtain ⟨fo, hfo⟩ : ∃ fo, fo = s.floorS z.stream := ⟨_, rfl⟩
      rw [← hfo] at hfl hdec
      have HF := Lib.hid hfl
      have hsf := stF
      have hB := Blk.new w 92 #[.int .i64 z.ev.id, .string z.ev.type, .string z.ev.data, .float .f64 z.ev.value, .string z.stream, .int .i64 z.version, .int .i64 z.position, .int .i64 z.time]
      have hlw : w.heap.size < (w.alloc (.cells #[.int .i64 z.ev.id, .string z.ev.type, .string z.ev.data, .float .f64 z.ev.value, .string z.stream, .int .i64 z.version, .int .i64 z.position, .int .i64 z.time] 92)).heap.size := by simp
      obtain ⟨W0, hW0⟩ : ∃ W0, W0 = w.alloc (.cells #[.int .i64 z.ev.id, .string z.ev.type, .string z.ev.data, .float .f64 z.ev.value, .string z.stream, .int .i64 z.version, .int .i64 z.position, .int .i64 z.time] 92) := ⟨_, rfl⟩
      have hO0 : Only [] w W0 := by rw [hW0]; exact (Only.refl [] w).alloc _
      rw [← hW0] at hB hlw
      have HW0 := Lib.hid hW0
      have k4 := Kept.cell (a := W0) (R := []) (hB.cell 4) (.inl hlw)
      have k5 := Kept.cell (a := W0) (R := []) (hB.cell 5) (.inl hlw)
      clear hel2 hc2 hz hfl hfo hW0
      cases hd : (s.find z.stream).deleted with
      | true =>
        rw [hd] at hdl hdec
        have HD := Lib.hid hdl
        have hR : Hid (s.seenAt q = false) := by unfold Hid; rw [hdec]; rfl
        clear hdl hdec hd
        go_enter Tryz.func111, Tryz.ntmps111
        go_wp2_with (go_at_call 142; refine (hln.out _ (Only.refl _ _)).mono ?_; rintro e w1 ⟨rfl, rfl⟩)
        rw [← HW0.out]
        refine wp_region_stages (C := fun W => ∃ p : Kept W0 [] W0, W = p.W) [([0, 1, 2], [3]), ([4, 5, 6, 7, 8, 9, 10], [11])] [12, 13, 14] (by kernel_rfl) (by kernel_rfl) (by intro c d u a w h; cases d <;> exact h) ⟨⟨_, (Keeps.refl _ _ _).drew⟩, rfl⟩ ?_
        refine stagesFirst ?_
        show wpQuiet _ _ _ _ [_, _, _] _
        repeat (go_big_quiet_step (fail))
        refine wpQuiet_nil ?_
        show wpList _ _ _ [_] _ _
        go_wp2_with (go_at_call 38; refine (HD.out _ hO0.drew).mono ?_; rintro e w2 ⟨rfl, ho2⟩)
        have hK : Keeps W0 [] W0 w2 := (Keeps.refl _ _ _).drew.then0 ho2
        refine check_kept hK ?_
        refine stagesNext ?_
        show wpQuiet _ _ _ _ [_, _, _, _, _, _, _] _
        try go_frame
        repeat (go_big_quiet_step (fail))
        refine wpQuiet_nil ?_
        show wpList _ _ _ [_] _ _
        go_wp2_with fail
        refine check_kept hK ?_
        refine stagesEnd ?_
        show wpList _ _ _ [_, _, _] _ _
        go_wp2
        go_ret
        exact ⟨ret_b (by rw [hR.out]), hO0.drew.trans ho2⟩
      | false =>
        rw [hd] at hdl hdec
        have HD := Lib.hid hdl
        have hR : Hid (s.seenAt q = decide (fo ≤ z.version)) := by unfold Hid; rw [hdec]; rfl
        clear hdl hdec hd
        go_enter Tryz.func111, Tryz.ntmps111
        go_wp2_with (go_at_call 142; refine (hln.out _ (Only.refl _ _)).mono ?_; rintro e w1 ⟨rfl, rfl⟩)
        rw [← HW0.out]
        refine wp_region_stages (C := fun W => ∃ p : Kept W0 [] W0, W = p.W) [([0, 1, 2], [3]), ([4, 5, 6, 7, 8, 9, 10], [11])] [12, 13, 14] (by kernel_rfl) (by kernel_rfl) (by intro c d u a w h; cases d <;> exact h) ⟨⟨_, (Keeps.refl _ _ _).drew⟩, rfl⟩ ?_
        refine stagesFirst ?_
        show wpQuiet _ _ _ _ [_, _, _] _
        repeat (go_big_quiet_step (fail))
        refine wpQuiet_nil ?_
        show wpList _ _ _ [_] _ _
        go_wp2_with (go_at_call 38; refine (HD.out _ hO0.drew).mono ?_; rintro e w2 ⟨rfl, ho2⟩)
        have hK : Keeps W0 [] W0 w2 := (Keeps.refl _ _ _).drew.then0 ho2
        refine check_kept hK ?_
        refine stagesNext ?_
        show wpQuiet _ _ _ _ [_, _, _, _, _, _, _] _
        try go_frame
        repeat (go_big_quiet_step (fail))
        refine wpQuiet_nil ?_
        show wpList _ _ _ [_] _ _
        go_wp2_with (go_at_call 37; refine (HF.out _ (hO0.drew.trans ho2)).mono ?_; rintro e w3 ⟨rfl, ho3⟩)
        refine check_kept (hK.then0 ho3) ?_
        refine stagesEnd ?_
        show wpList _ _ _ [_, _, _] _ _
        go_wp2
        go_ret
        exact ⟨ret_b (by rw [hR.out]), (hO0.drew.trans ho2).trans ho3⟩
end
section
variable {a w : World} {R E : List Nat} {sb mb N : Nat} {s : MS}
theorem has_seen (h : HasS a w R E sb mb s N) (hN : N ≤ 100000) (p : Int) :
    Calls Tryz.prog 111 #[.pointer (some ⟨sb, 0, none⟩), .int .i64 p] w fun e w' => e = .returned (.bool (s.seenAt p)) ∧ Only [] w w' := by
  obtain ⟨M, av, pf, h1, _⟩ := h.st
  exact seenAt_any h1 h.ok hN p
end
end Go.Proofs.YteinoiicnmemhaaGreatDoor
/- Pure: what is seen of all and of a stream, and the pages of it, one behind the other. -/
set_option linter.unusedVariables false
set_option linter.unusedSimpArgs false
namespace Go.Proofs.YteinoiicnmemhaaGreatDoor
open Go.RowKit
/-- The places of a stream lead to just its events, in order; names are names. -/
def MS.Inv2 (s : MS) : Prop := (∀ n, (s.find n).places.map (evAt s.all) = s.all.filter (fun e => decide (e.stream = n))) ∧ ∀ e ∈ s.all, nameOk e.stream = true
theorem inv2_new : MS.new.Inv2 := ⟨fun n => rfl, fun e he => by cases he⟩
theorem storedOf_stream (stream : ByteArray) (now : Int) : ∀ (l : List EventR) (v at_ : Int), ∀ e ∈ storedOf stream now l v at_, e.stream = stream
  | [], _, _, e, h => by cases h
  | x :: l, v, at_, e, h => by
    simp only [storedOf, List.mem_cons] at h
    rcases h with rfl | h
    · rfl
    · exact storedOf_stream stream now l _ _ e h
theorem evAt_append {all l : List StoredR} {p : Nat} (h : p < all.length) : evAt (all ++ l) (p : Int) = evAt all (p : Int) := by
  simp [evAt, List.getElem?_append_left h]
theorem range_evAt (all st : List StoredR) : (rangeFrom st.length all.length).map (evAt (all ++ st)) = st := by
  apply List.ext_getElem?
  intro i
  by_cases h : i < st.length
  · rw [List.getElem?_map, rangeFrom_get _ _ _ h, Option.map_some]
    rw [show (all.length : Int) + (i : Int) = ((all.length + i : Nat) : Int) by omega]
    rw [evAt_nat (by simp; omega), List.getElem_append_right (by omega)]
    simp [h]
  · rw [List.getElem?_eq_none (by simp [rangeFrom_len]; omega), List.getElem?_eq_none (by omega)]
theorem MS.Inv2.same {s t : MS} (h : s.Inv2) (hm : ∀ n, (t.find n).places = (s.find n).places) (ha : t.all = s.all) : t.Inv2 :=
  ⟨fun n => by rw [hm, ha]; exact h.1 n, fun e he => h.2 e (by rw [← ha]; exact he)⟩
theorem inv2_do {s : MS} (h : s.Inv) (h2 : s.Inv2) (c : Cmd) : (s.do c).2.Inv2 := by
  by_cases hk : c.check = 0
  · by_cases hq : c.kind = 4 ∨ c.kind = 5
    · have e : (s.do c).2 = s.tick c.time := by
        unfold MS.do
        rw [if_neg (by simp [hk])]
        dsimp only
        rw [if_pos hq]
      rw [e]
      exact h2.same (fun _ => rfl) rfl
    · have hn : nameOk c.stream = true := by
        unfold Cmd.check at hk
        split at hk
        · cases hk
        · rename_i q1
          split at hk
          · cases hk
          · rename_i q2
            cases hb : nameOk c.stream with
            | true => rfl
            | false => exact absurd ⟨by omega, hb⟩ q2
      rcases do_shape s c with ⟨h1, h3⟩ | ⟨y, h1, ⟨h4, h3⟩ | ⟨h4, h3⟩⟩
      · exact h2.same (fun n => by rw [find_m h1]) h3
      · refine h2.same (fun n => ?_) h3
        have e : (s.do c).2.find n = (s.put c.stream y).find n := find_m h1 n
        rw [e, find_put]
        split
        · rename_i q; subst q; exact h4
        · rfl
      · have hfi : ∀ n, ((s.do c).2.find n).places = if c.stream = n then y.places else (s.find n).places := fun n => by
          have e : (s.do c).2.find n = (s.put c.stream y).find n := find_m h1 n
          rw [e, find_put]
          split <;> rfl
        generalize (s.do c).2 = t at *
        obtain ⟨st, hst⟩ : ∃ st, st = storedOf c.stream (max s.now c.time) c.events (s.find c.stream).places.length s.all.length := ⟨_, rfl⟩
        rw [← hst] at h3
        have hsl : st.length = c.events.length := by rw [hst, storedOf_len]
        have hss : ∀ e ∈ st, e.stream = c.stream := by rw [hst]; exact storedOf_stream _ _ _ _ _
        have hold : ∀ n, (s.find n).places.map (evAt t.all) = s.all.filter (fun e => decide (e.stream = n)) := fun n => by
          rw [← h2.1 n]
          apply List.map_congr_left
          intro p hp
          obtain ⟨k, hk, rfl⟩ := List.mem_iff_getElem.1 hp
          obtain ⟨q, hq1, hq2, _⟩ := h.plc n k hk
          rw [hq2, h3]
          exact evAt_append hq1
        refine ⟨fun n => ?_, fun e he => ?_⟩
        · rw [hfi]
          split
          · rename_i q
            subst q
            rw [h4, List.map_append, hold, h3, List.filter_append, ← hsl, range_evAt]
            congr 1
            exact (List.filter_eq_self.2 (fun e he => by simpa using hss e he)).symm
          · rename_i q
            rw [hold, h3, List.filter_append]
            rw [show st.filter (fun e => decide (e.stream = n)) = [] from List.filter_eq_nil_iff.2 (fun e he => by simpa [hss e he] using q), List.append_nil]
        · rw [h3] at he
          rcases List.mem_append.1 he with he | he
          · exact h2.2 e he
          · rw [hss e he]
            exact hn
  · have e : (s.do c).2 = s := by
      unfold MS.do
      rw [if_pos (by simpa using hk)]
    rw [e]
    exact h2
theorem drop_filter (f : StoredR → Int) : ∀ (L : List StoredR) (b : Int) (h : ∀ k (hk : k < L.length), f L[k] = b + k) (a : Nat), L.drop a = L.filter (fun e => decide (b + a ≤ f e))
  | [], _, _, _ => by simp
  | x :: l, b, h, 0 => by
    rw [List.drop_zero, List.filter_eq_self.2]
    intro e he
    obtain ⟨k, hk, rfl⟩ := List.mem_iff_getElem.1 he
    rw [h k hk]
    simp
    omega
  | x :: l, b, h, a + 1 => by
    have h0 := h 0 (by simp)
    simp only [List.getElem_cons_zero] at h0
    rw [List.drop_succ_cons, drop_filter f l (b + 1) (fun k hk => by
      have := h (k + 1) (by simpa using hk)
      simp only [List.getElem_cons_succ] at this
      rw [this]
      omega) a, List.filter_cons, if_neg (by simp [h0]; omega)]
    congr 1
    funext e
    congr 1
    apply propext
    constructor <;> intro <;> omega
def MS.seenAll (s : MS) : List StoredR := s.all.filter (fun e => s.seenAt e.position)
theorem seenAt_of {s : MS} (h : s.Inv) {e : StoredR} (he : e ∈ s.all) : s.seenAt e.position = (!(s.find e.stream).deleted && decide (s.floorS e.stream ≤ e.version)) := by
  obtain ⟨i, hi, rfl⟩ := List.mem_iff_getElem.1 he
  rw [h.pos i hi]
  unfold MS.seenAt
  rw [if_neg (by omega), evAt_nat hi]
theorem floorS_bd (s : MS) (n : ByteArray) : 0 ≤ s.floorS n ∧ s.floorS n ≤ (s.find n).places.length := floorOf_bd s (s.find n)
theorem streamEvs_vers {s : MS} (h : s.Inv) (h2 : s.Inv2) (n : ByteArray) : ∀ k (hk : k < (s.all.filter (fun e => decide (e.stream = n))).length), (s.all.filter (fun e => decide (e.stream = n)))[k].version = 0 + (k : Int) := by
  intro k hk
  have e := h2.1 n
  simp only [← e] at hk ⊢
  rw [List.getElem_map]
  obtain ⟨p, hp, h3, h4, h5⟩ := h.plc n k (by simpa using hk)
  rw [h3, evAt_nat hp, h5]
  omega
theorem seenL_filter {s : MS} (h : s.Inv) (h2 : s.Inv2) (n : ByteArray) : s.seenL n = s.seenAll.filter (fun e => decide (e.stream = n)) := by
  have e1 : s.seenAll.filter (fun e => decide (e.stream = n)) = (s.all.filter (fun e => decide (e.stream = n))).filter (fun e => !(s.find n).deleted && decide (s.floorS n ≤ e.version)) := by
    unfold MS.seenAll
    rw [List.filter_filter, List.filter_filter]
    apply List.filter_congr
    intro e he
    by_cases q : e.stream = n
    · rw [seenAt_of h he, q]
      simp
    · simp [q]
  rw [e1]
  unfold MS.seenL
  cases (s.find n).deleted with
  | true =>
    simp only [if_true, Bool.not_true, Bool.false_and]
    rw [List.filter_eq_nil_iff.2 (by simp)]
  | false =>
    simp only [Bool.false_eq_true, if_false, Bool.not_false, Bool.true_and]
    rw [List.map_drop, h2.1 n, drop_filter StoredR.version _ 0 (streamEvs_vers h h2 n)]
    have := floorS_bd s n
    congr 1
    funext e
    congr 1
    apply propext
    constructor <;> intro <;> omega
/-! ## pages one behind the other -/
end Go.Proofs.YteinoiicnmemhaaGreatDoor
/- Contracts: Every, SameStored. -/
set_option linter.unusedVariables false
set_option linter.unusedSimpArgs false
namespace Go.Proofs.YteinoiicnmemhaaGreatDoor
open Go.RowKit
set_option maxRecDepth 100000 in
theorem cloneS_any {w : World} {pv : Value} {l : List StoredR} (h : Slc w 8 pv l.length (l.flatMap StoredR.cells)) (hb : l.length ≤ 1000000000) :
    Calls Tryz.prog 121 #[pv] w fun e w' => ∃ v', e = .returned v' ∧ w'.ownsRow w.heap.size 92 8 v' l.length (l.flatMap StoredR.cells) ∧ Only [] w w' := by
  obtain ⟨j0, hj, hy0, hy1, hy2⟩ := info_parts infoSt
  obtain ⟨A, cap, rfl, hnc, hcm, hl, hc⟩ := h.cell
  have hq := fun W a n c n' c' => Lib.run_eql_slice_nil (P := Tryz.prog) W 28 _ a n c n' c' Tryz.underlying28
  cases A with
  | none =>
    have h0 : l = [] := by
      rcases hc with q | ⟨b, off, q, _⟩
      · exact List.length_eq_zero_iff.1 q
      · cases q
    subst h0
    go_enter Tryz.func121, Tryz.ntmps121
    go_wp2
    go_ret
    exact ⟨_, rfl, World.ownsRow_nil _ _ _ _, Only.refl _ _⟩
  | some ad =>
    obtain ⟨b, off, sp⟩ := ad
    have hcell : ∀ j u, (l.flatMap StoredR.cells)[j]? = some u → (w.alloc (.cells #[] 92)).cell? ((⟨b, off, sp⟩ : Addr).add j) = some u := by
      intro j u hu
      have hj : j < (l.flatMap StoredR.cells).length := (List.getElem?_eq_some_iff.1 hu).1
      rcases hc with q | ⟨b', off', q, hb', hcc⟩
      · rw [hl] at hj; omega
      · cases q
        have := hcc j hj
        rw [hu] at this
        rw [show ((⟨b, off, none⟩ : Addr).add j) = ⟨b, off + j, none⟩ by simp [Addr.add]]
        exact (World.cell?_alloc_lt w _ ⟨b, off + j, none⟩ hb').trans this
    have hone : ∀ u ∈ l.flatMap StoredR.cells, u.oneCell' = true := by
      intro u hu
      obtain ⟨x, _, hx⟩ := List.mem_flatMap.1 hu
      simp [StoredR.cells, EventR.cells] at hx
      rcases hx with rfl | rfl | rfl | rfl | rfl | rfl | rfl | rfl <;> rfl
    unfold maxLen at hcm
    obtain ⟨cs, hcs⟩ : ∃ cs, cs = l.flatMap StoredR.cells := ⟨_, rfl⟩
    rw [← hcs] at hcell hone hl ⊢
    clear hc hcs
    go_enter Tryz.func121, Tryz.ntmps121
    go_wp2_with (at_builtin; refine wpList_append_own _ rfl (.tmp 5) (.tmp 6) 28 rfl w.heap.size 92 j0 (.agg #[.int .i64 0, .string ⟨#[]⟩, .string ⟨#[]⟩, .float .f64 0, .string ⟨#[]⟩, .int .i64 0, .int .i64 0, .int .i64 0]) 8 88 Tryz.underlying28 hj hy0 hy1 hy2 rfl (by decide) _ 0 [] rfl (World.ownsRow_made w #[] 0 (Nat.le_refl _) (Nat.zero_le _) rfl) ⟨b, off, sp⟩ l.length cap cs rfl hl hcell ?c2 ?c3 ?c4 ?c5 ?_)
    case c2 => exact hone
    case c3 => unfold maxLen; omega
    case c4 => omega
    case c5 => simp
    intro v' w4 hown' hgrow _
    have hown2 : w4.ownsRow w.heap.size 92 8 v' l.length cs := by simpa using hown'
    have ho4 : Only [] w w4 := ((Only.refl [] w).alloc _).grown hgrow (fun k hk => .inr (by cases hk; exact Nat.le_refl _))
    clear hgrow
    go_wp2
    go_ret
    exact ⟨_, rfl, hown2, ho4⟩
section
variable {a w : World} {R E : List Nat} {sb mb N : Nat} {s : MS}
set_option maxRecDepth 100000 in
theorem everyS_any {M : List Nat} {av : Value} {pf : ByteArray → Value} (h : StAt w M sb mb av pf s) (hs : s.all.length ≤ 1000000) :
    Calls Tryz.prog 109 #[.pointer (some ⟨sb, 0, none⟩)] w fun e w' => ∃ v', e = .returned v' ∧ w'.ownsRow w.heap.size 92 8 v' s.all.length (s.all.flatMap StoredR.cells) ∧ Only [] w w' := by
  have hsl := (Slc.of_own h.own).1
  obtain ⟨A2, cap2, rfl, hnc2, hcm2, hel2⟩ := h.cell
  have c0 : w.cell? ⟨sb, 0, none⟩ = some (.slice A2 s.all.length cap2) := h.blk.cell 0
  have HC := Lib.hid (cloneS_any hsl (by omega))
  clear hel2 hsl
  go_enter Tryz.func109, Tryz.ntmps109
  go_wp2_with (go_at_call 121; refine HC.out.mono ?_; rintro e w1 ⟨v1, rfl, hown1, ho1⟩)
  go_ret
  exact ⟨_, rfl, hown1, ho1⟩
theorem has_every (h : HasS a w R E sb mb s N) (hN : N ≤ 100000) :
    Calls Tryz.prog 109 #[.pointer (some ⟨sb, 0, none⟩)] w fun e w' => ∃ v', e = .returned v' ∧ w'.ownsRow w.heap.size 92 8 v' s.all.length (s.all.flatMap StoredR.cells) ∧ Only [] w w' := by
  obtain ⟨M, av, pf, h1, _⟩ := h.st
  exact everyS_any h1 (by have := h.ok.all; omega)
end
/-! ## SameStored -/
end Go.Proofs.YteinoiicnmemhaaGreatDoor
/- alive: a first call whose answer is fixed. -/
set_option linter.unusedVariables false
set_option linter.unusedSimpArgs false
namespace Go.Proofs.YteinoiicnmemhaaGreatDoor
open Go.RowKit Go Go.Sort
section
variable {a w : World} {R E : List Nat} {sb mb N : Nat} {s : MS}
end
end Go.Proofs.YteinoiicnmemhaaGreatDoor
/- Contracts: an event is the same as itself (view.Same, event.SameEvent, real.Same); EqualFunc of a list with itself. -/
set_option linter.unusedVariables false
set_option linter.unusedSimpArgs false
namespace Go.Proofs.YteinoiicnmemhaaGreatDoor
open Go.RowKit
set_option maxRecDepth 100000 in
theorem rbits_any (b : Nat) (w : World) : Calls Tryz.prog 140 #[.float .f64 b] w fun e w' => e = .returned (.int .u64 (canon b : Int)) ∧ w = w' := by
  have hf := fun b W => to_run b W
  go_enter Tryz.func140, Tryz.ntmps140
  go_wp2_with (go_at_call 100; refine (canon_any _ _).mono ?_; rintro e w' ⟨rfl, rfl⟩)
  go_ret
  exact ⟨rfl, rfl⟩
end Go.Proofs.YteinoiicnmemhaaGreatDoor
/- Contracts: SameStored. -/
set_option linter.unusedVariables false
set_option linter.unusedSimpArgs false
namespace Go.Proofs.YteinoiicnmemhaaGreatDoor
open Go.RowKit
end Go.Proofs.YteinoiicnmemhaaGreatDoor
/- Contracts: SameStored of lists. -/
set_option linter.unusedVariables false
set_option linter.unusedSimpArgs false
namespace Go.Proofs.YteinoiicnmemhaaGreatDoor
open Go.RowKit
end Go.Proofs.YteinoiicnmemhaaGreatDoor
/- Contracts: two stored events, or two lists of them, are the same or not (view.Same, event.SameEvent, real.Same, EqualFunc), for any two. -/
set_option linter.unusedVariables false
set_option linter.unusedSimpArgs false
namespace Go.Proofs.YteinoiicnmemhaaGreatDoor
open Go.RowKit
def sameFQ (a b : Nat) : Bool := decide (canon a = canon b)
def sameEQ (x y : EventR) : Bool := decide (x.id = y.id) && decide (x.type.toList = y.type.toList) && decide (x.data.toList = y.data.toList) && sameFQ x.value y.value
def sameSQ (x y : StoredR) : Bool := sameEQ x.ev y.ev && decide (x.stream.toList = y.stream.toList) && decide (x.version = y.version) && decide (x.position = y.position) && decide (x.time = y.time)
def sameLQ : List StoredR → List StoredR → Bool
  | [], [] => true
  | x :: l, y :: m => sameSQ x y && sameLQ l m
  | _, _ => false
theorem sameSQ_refl (x : StoredR) : sameSQ x x = true := by simp [sameSQ, sameEQ, sameFQ]
theorem sameLQ_refl : ∀ l : List StoredR, sameLQ l l = true
  | [] => rfl
  | x :: l => by show (sameSQ x x && sameLQ l l) = true; rw [sameSQ_refl, sameLQ_refl l]; rfl
set_option maxRecDepth 100000 in
theorem rsameQ_any (a b : Nat) (w : World) : Calls Tryz.prog 104 #[.float .f64 a, .float .f64 b] w fun e w' => e = .returned (.bool (sameFQ a b)) ∧ w = w' := by
  have HB := Lib.hid (fun (b : Nat) W => rbits_any b W)
  by_cases h : canon a = canon b
  · have hb : ((canon a : Int) == (canon b : Int)) = true := by rw [h]; simp
    have e : sameFQ a b = true := decide_eq_true h
    rw [e]
    clear e h
    go_enter Tryz.func104, Tryz.ntmps104
    go_wp2_with (go_at_call 140; refine (HB.out _ _).mono ?_; rintro e w' ⟨rfl, rfl⟩)
    go_ret
    exact ⟨ret_b (by simp), rfl⟩
  · have hb : ((canon a : Int) == (canon b : Int)) = false := by rw [beq_eq_false_iff_ne]; omega
    have e : sameFQ a b = false := decide_eq_false h
    rw [e]
    clear e h
    go_enter Tryz.func104, Tryz.ntmps104
    go_wp2_with (go_at_call 140; refine (HB.out _ _).mono ?_; rintro e w' ⟨rfl, rfl⟩)
    go_ret
    exact ⟨ret_b (by simp), rfl⟩
set_option maxRecDepth 100000 in
set_option maxHeartbeats 2000000 in
theorem esameQ_any (x y : EventR) (w : World) : Calls Tryz.prog 72 #[.agg #[.int .i64 x.id, .string x.type, .string x.data, .float .f64 x.value], .agg #[.int .i64 y.id, .string y.type, .string y.data, .float .f64 y.value]] w fun e w' => e = .returned (.bool (sameEQ x y)) ∧ Only [] w w' := by
  have HS := Lib.hid (fun W => rsameQ_any x.value y.value W)
  by_cases h1 : x.id = y.id
  · by_cases h2 : x.type.toList = y.type.toList
    · have b2 : (x.type.toList == y.type.toList) = true := by rw [beq_iff_eq]; exact h2
      by_cases h3 : x.data.toList = y.data.toList
      · have b3 : (x.data.toList == y.data.toList) = true := by rw [beq_iff_eq]; exact h3
        go_enter Tryz.func72, Tryz.ntmps72
        go_wp2_with (go_at_call 104; refine (HS.out _).mono ?_; rintro e w' ⟨rfl, rfl⟩)
        go_ret
        exact ⟨ret_b (by simp [sameEQ, h1, h2, h3]), ((Only.refl [] w).alloc _).alloc _⟩
      · have b3 : (x.data.toList == y.data.toList) = false := by rw [beq_eq_false_iff_ne]; exact h3
        go_enter Tryz.func72, Tryz.ntmps72
        go_wp2_with (go_at_call 104; refine (HS.out _).mono ?_; rintro e w' ⟨rfl, rfl⟩)
        go_ret
        exact ⟨ret_b (by simp [sameEQ, h1, h2, h3]), ((Only.refl [] w).alloc _).alloc _⟩
    · have b2 : (x.type.toList == y.type.toList) = false := by rw [beq_eq_false_iff_ne]; exact h2
      go_enter Tryz.func72, Tryz.ntmps72
      go_wp2_with (go_at_call 104; refine (HS.out _).mono ?_; rintro e w' ⟨rfl, rfl⟩)
      go_ret
      exact ⟨ret_b (by simp [sameEQ, h1, h2]), ((Only.refl [] w).alloc _).alloc _⟩
  · go_enter Tryz.func72, Tryz.ntmps72
    go_wp2_with (go_at_call 104; refine (HS.out _).mono ?_; rintro e w' ⟨rfl, rfl⟩)
    go_ret
    exact ⟨ret_b (by simp [sameEQ, h1]), ((Only.refl [] w).alloc _).alloc _⟩
set_option maxRecDepth 100000 in
set_option maxHeartbeats 2000000 in
theorem vsameQ_any (x y : StoredR) (w : World) : Calls Tryz.prog 33 #[.agg #[.int .i64 x.ev.id, .string x.ev.type, .string x.ev.data, .float .f64 x.ev.value, .string x.stream, .int .i64 x.version, .int .i64 x.position, .int .i64 x.time], .agg #[.int .i64 y.ev.id, .string y.ev.type, .string y.ev.data, .float .f64 y.ev.value, .string y.stream, .int .i64 y.version, .int .i64 y.position, .int .i64 y.time]] w fun e w' => e = .returned (.bool (sameSQ x y)) ∧ Only [] w w' := by
  have HE := Lib.hid (fun W => esameQ_any x.ev y.ev W)
  have kB : ∀ cs t o1, Blk ((w.alloc o1).alloc (.cells cs t)) (w.heap.size + 1) t cs := fun cs t o1 => by
    have := Blk.new (w.alloc o1) t cs
    rw [World.size_alloc] at this
    exact this
  cases h1 : sameEQ x.ev y.ev with
  | false =>
    rw [h1] at HE
    go_enter Tryz.func33, Tryz.ntmps33
    go_wp2_with (go_at_call 72; refine (HE.out _).mono ?_; rintro e w1 ⟨rfl, ho1⟩
                 have ha := fun i => (ho1.blk (((Only.refl [] _).alloc _).blk (Blk.new w 92 _) (by simp)) (by simp)).cell i
                 have hb := fun i => (ho1.blk (kB _ _ _) (by simp)).cell i)
    go_ret
    exact ⟨ret_b (by simp [sameSQ, h1]), (((Only.refl [] w).alloc _).alloc _).trans ho1⟩
  | true =>
    rw [h1] at HE
    by_cases h2 : x.stream.toList = y.stream.toList
    · have b2 : (x.stream.toList == y.stream.toList) = true := by rw [beq_iff_eq]; exact h2
      by_cases h3 : x.version = y.version
      · by_cases h4 : x.position = y.position
        · by_cases h5 : x.time = y.time
          · go_enter Tryz.func33, Tryz.ntmps33
            go_wp2_with (go_at_call 72; refine (HE.out _).mono ?_; rintro e w1 ⟨rfl, ho1⟩
                         have ha := fun i => (ho1.blk (((Only.refl [] _).alloc _).blk (Blk.new w 92 _) (by simp)) (by simp)).cell i
                         have hb := fun i => (ho1.blk (kB _ _ _) (by simp)).cell i)
            go_ret
            exact ⟨ret_b (by simp [sameSQ, h1, h2, h3, h4, h5]), (((Only.refl [] w).alloc _).alloc _).trans ho1⟩
          · have b5 : (x.time == y.time) = false := by rw [beq_eq_false_iff_ne]; exact h5
            go_enter Tryz.func33, Tryz.ntmps33
            go_wp2_with (go_at_call 72; refine (HE.out _).mono ?_; rintro e w1 ⟨rfl, ho1⟩
                         have ha := fun i => (ho1.blk (((Only.refl [] _).alloc _).blk (Blk.new w 92 _) (by simp)) (by simp)).cell i
                         have hb := fun i => (ho1.blk (kB _ _ _) (by simp)).cell i)
            go_ret
            exact ⟨ret_b (by simp [sameSQ, h1, h2, h3, h4, h5]), (((Only.refl [] w).alloc _).alloc _).trans ho1⟩
        · have b5 : (x.position == y.position) = false := by rw [beq_eq_false_iff_ne]; exact h4
          go_enter Tryz.func33, Tryz.ntmps33
          go_wp2_with (go_at_call 72; refine (HE.out _).mono ?_; rintro e w1 ⟨rfl, ho1⟩
                       have ha := fun i => (ho1.blk (((Only.refl [] _).alloc _).blk (Blk.new w 92 _) (by simp)) (by simp)).cell i
                       have hb := fun i => (ho1.blk (kB _ _ _) (by simp)).cell i)
          go_ret
          exact ⟨ret_b (by simp [sameSQ, h1, h2, h3, h4]), (((Only.refl [] w).alloc _).alloc _).trans ho1⟩
      · have b5 : (x.version == y.version) = false := by rw [beq_eq_false_iff_ne]; exact h3
        go_enter Tryz.func33, Tryz.ntmps33
        go_wp2_with (go_at_call 72; refine (HE.out _).mono ?_; rintro e w1 ⟨rfl, ho1⟩
                     have ha := fun i => (ho1.blk (((Only.refl [] _).alloc _).blk (Blk.new w 92 _) (by simp)) (by simp)).cell i
                     have hb := fun i => (ho1.blk (kB _ _ _) (by simp)).cell i)
        go_ret
        exact ⟨ret_b (by simp [sameSQ, h1, h2, h3]), (((Only.refl [] w).alloc _).alloc _).trans ho1⟩
    · have b2 : (x.stream.toList == y.stream.toList) = false := by rw [beq_eq_false_iff_ne]; exact h2
      go_enter Tryz.func33, Tryz.ntmps33
      go_wp2_with (go_at_call 72; refine (HE.out _).mono ?_; rintro e w1 ⟨rfl, ho1⟩
                   have ha := fun i => (ho1.blk (((Only.refl [] _).alloc _).blk (Blk.new w 92 _) (by simp)) (by simp)).cell i
                   have hb := fun i => (ho1.blk (kB _ _ _) (by simp)).cell i)
      go_ret
      exact ⟨ret_b (by simp [sameSQ, h1, h2]), (((Only.refl [] w).alloc _).alloc _).trans ho1⟩
theorem sameLQ_drop {l m : List StoredR} {k : Nat} (h1 : k < l.length) (h2 : k < m.length) : sameLQ (l.drop k) (m.drop k) = (sameSQ l[k] m[k] && sameLQ (l.drop (k + 1)) (m.drop (k + 1))) := by
  rw [List.drop_eq_getElem_cons h1, List.drop_eq_getElem_cons h2]
  rfl
theorem sameLQ_len : ∀ (l m : List StoredR), l.length ≠ m.length → sameLQ l m = false
  | [], [], h => absurd rfl h
  | [], _ :: _, _ => rfl
  | _ :: _, [], _ => rfl
  | x :: l, y :: m, h => by
    simp only [sameLQ, sameLQ_len l m (by simpa using h), Bool.and_false]
set_option maxRecDepth 100000 in
set_option maxHeartbeats 2000000 in
theorem eqStQ_any {w : World} {v1 v2 : Value} {l m : List StoredR} (h1 : Slc w 8 v1 l.length (l.flatMap StoredR.cells)) (h2 : Slc w 8 v2 m.length (m.flatMap StoredR.cells)) (hbl : l.length ≤ 1000000) (hbm : m.length ≤ 1000000) :
    Calls Tryz.prog 32 #[v1, v2, .func (.func 33) #[] #[]] w fun e w' => e = .returned (.bool (sameLQ l m)) ∧ Only [] w w' := by
  obtain ⟨A1, cap1, rfl, hn1, hc1, hel1⟩ := h1.openE StoredR.cells (fun _ => rfl)
  obtain ⟨A2, cap2, rfl, hn2, hc2, hel2⟩ := h2.openE StoredR.cells (fun _ => rfl)
  unfold maxLen at hc1 hc2
  clear h1 h2
  by_cases hlm : l.length = m.length
  · have hb : ((l.length : Int) != m.length) = false := by rw [hlm]; simp
    have HLM := Lib.hid hlm
    have hR : Hid (sameLQ l m = sameLQ (l.drop 0) (m.drop 0)) := rfl
    clear hlm
    go_enter Tryz.func32, Tryz.ntmps32
    go_wp2
    go_loopw [17] (fun i wr => ∃ k : Nat, k ≤ l.length ∧ i = .int .i64 k ∧ Hid (sameLQ l m = sameLQ (l.drop k) (m.drop k)) ∧ Only [] w wr) (fun i _ => l.length - (intOf i).toNat)
    case atStart => exact ⟨0, Nat.zero_le _, rfl, hR, Only.refl _ _⟩
    case round =>
      obtain ⟨k, hk, rfl, hT, hO⟩ := hrel
      by_cases hlt : k < l.length
      · have hlt2 : k < m.length := by rw [← HLM.out]; exact hlt
        obtain ⟨b1, off1, rfl, hb1, hcc1⟩ := hel1 k hlt
        obtain ⟨b2, off2, rfl, hb2, hcc2⟩ := hel2 k hlt2
        have hd := sameLQ_drop hlt hlt2
        obtain ⟨x, hx⟩ : ∃ x, x = l[k] := ⟨_, rfl⟩
        obtain ⟨y, hy⟩ : ∃ y, y = m[k] := ⟨_, rfl⟩
        rw [← hx] at hcc1 hd
        rw [← hy] at hcc2 hd
        have c0 : wr.cell? ⟨b1, off1 + k * 8, none⟩ = some (.int .i64 x.ev.id) := (hO.cell hb1 (by simp)).trans (hcc1 0 (by omega))
        have c1 : wr.cell? ⟨b1, off1 + k * 8 + 1, none⟩ = some (.string x.ev.type) := (hO.cell hb1 (by simp)).trans (hcc1 1 (by omega))
        have c2 : wr.cell? ⟨b1, off1 + k * 8 + 2, none⟩ = some (.string x.ev.data) := (hO.cell hb1 (by simp)).trans (hcc1 2 (by omega))
        have c3 : wr.cell? ⟨b1, off1 + k * 8 + 3, none⟩ = some (.float .f64 x.ev.value) := (hO.cell hb1 (by simp)).trans (hcc1 3 (by omega))
        have c4 : wr.cell? ⟨b1, off1 + k * 8 + 4, none⟩ = some (.string x.stream) := (hO.cell hb1 (by simp)).trans (hcc1 4 (by omega))
        have c5 : wr.cell? ⟨b1, off1 + k * 8 + 5, none⟩ = some (.int .i64 x.version) := (hO.cell hb1 (by simp)).trans (hcc1 5 (by omega))
        have c6 : wr.cell? ⟨b1, off1 + k * 8 + 6, none⟩ = some (.int .i64 x.position) := (hO.cell hb1 (by simp)).trans (hcc1 6 (by omega))
        have c7 : wr.cell? ⟨b1, off1 + k * 8 + 7, none⟩ = some (.int .i64 x.time) := (hO.cell hb1 (by simp)).trans (hcc1 7 (by omega))
        have kk : ∀ (o : Obj) (r : Nat) u, (y.cells)[r]? = some u → r < 8 → (wr.alloc o).cell? ⟨b2, off2 + k * 8 + r, none⟩ = some u := fun o r u hu hr => (((hO.alloc o).cell hb2 (by simp)).trans (hcc2 r hr)).trans hu
        have d0 : ∀ o, (wr.alloc o).cell? ⟨b2, off2 + k * 8, none⟩ = some (.int .i64 y.ev.id) := fun o => kk o 0 _ rfl (by omega)
        have d1 : ∀ o, (wr.alloc o).cell? ⟨b2, off2 + k * 8 + 1, none⟩ = some (.string y.ev.type) := fun o => kk o 1 _ rfl (by omega)
        have d2 : ∀ o, (wr.alloc o).cell? ⟨b2, off2 + k * 8 + 2, none⟩ = some (.string y.ev.data) := fun o => kk o 2 _ rfl (by omega)
        have d3 : ∀ o, (wr.alloc o).cell? ⟨b2, off2 + k * 8 + 3, none⟩ = some (.float .f64 y.ev.value) := fun o => kk o 3 _ rfl (by omega)
        have d4 : ∀ o, (wr.alloc o).cell? ⟨b2, off2 + k * 8 + 4, none⟩ = some (.string y.stream) := fun o => kk o 4 _ rfl (by omega)
        have d5 : ∀ o, (wr.alloc o).cell? ⟨b2, off2 + k * 8 + 5, none⟩ = some (.int .i64 y.version) := fun o => kk o 5 _ rfl (by omega)
        have d6 : ∀ o, (wr.alloc o).cell? ⟨b2, off2 + k * 8 + 6, none⟩ = some (.int .i64 y.position) := fun o => kk o 6 _ rfl (by omega)
        have d7 : ∀ o, (wr.alloc o).cell? ⟨b2, off2 + k * 8 + 7, none⟩ = some (.int .i64 y.time) := fun o => kk o 7 _ rfl (by omega)
        have HS := Lib.hid (fun W => vsameQ_any x y W)
        have hsf := stF
        have hki : (k : Int) < m.length := by omega
        clear hcc1 hcc2 hx hy hel1 hel2 kk
        cases hs : sameSQ x y with
        | true =>
          rw [hs] at HS
          have HN : Hid (sameLQ l m = sameLQ (l.drop (k + 1)) (m.drop (k + 1))) := by unfold Hid; rw [hT.out, hd, hs, Bool.true_and]
          clear hd hs hT
          go_wp2_with (go_at_call 33; refine (HS.out _).mono ?_; rintro e w1 ⟨rfl, ho1⟩)
          exact ⟨⟨k + 1, hlt, by simp, HN, ((hO.alloc _).alloc _).trans ho1⟩, by simp [intOf]; omega⟩
        | false =>
          rw [hs] at HS
          have HN : Hid (sameLQ l m = false) := by unfold Hid; rw [hT.out, hd, hs, Bool.false_and]
          clear hd hs hT
          go_wp2_with (go_at_call 33; refine (HS.out _).mono ?_; rintro e w1 ⟨rfl, ho1⟩)
          go_ret
          exact ⟨ret_b (by rw [HN.out]), ((hO.alloc _).alloc _).trans ho1⟩
      · have HN : Hid (sameLQ l m = true) := by
          unfold Hid
          rw [hT.out, List.drop_of_length_le (by omega), List.drop_of_length_le (by have := HLM.out; omega)]
          rfl
        clear hel1 hel2
        go_wp2
        go_ret
        exact ⟨ret_b (by rw [HN.out]), hO⟩
  · have hb : ((l.length : Int) != m.length) = true := by rw [bne_iff_ne]; omega
    have HN : Hid (sameLQ l m = false) := sameLQ_len l m hlm
    clear hlm hel1 hel2
    go_enter Tryz.func32, Tryz.ntmps32
    go_wp2
    go_ret
    exact ⟨ret_b (by rw [HN.out]), Only.refl _ _⟩
end Go.Proofs.YteinoiicnmemhaaGreatDoor
/- ModelHides, the plain law: what is hidden stays hidden, what is deleted stays deleted, events stay. -/
set_option linter.unusedVariables false
set_option linter.unusedSimpArgs false
namespace Go.Proofs.YteinoiicnmemhaaGreatDoor
open Go.RowKit
theorem young_mono (age : Int) : ∀ (ts : List Int) (n1 n2 : Int), n1 ≤ n2 → young age n1 ts ≤ young age n2 ts
  | [], _, _, _ => Int.le_refl _
  | t :: ts, n1, n2, h => by
    have hn : ∀ (l : List Int) (n : Int), 0 ≤ young age n l := fun l n => (young_bd age n l).1
    simp only [young]
    by_cases h1 : n1 - age < t
    · rw [if_pos h1]
      split
      · exact Int.le_refl _
      · have := hn ts n2
        omega
    · rw [if_neg h1, if_neg (by omega)]
      have := young_mono age ts n1 n2 h
      omega
theorem floorE_mono (m : MetaR) (f n1 n2 : Int) (ts : List Int) (h : n1 ≤ n2) : floorE m f n1 ts ≤ floorE m f n2 ts := by
  unfold floorE
  dsimp only
  have := young_mono m.maxAge ts n1 n2 h
  split
  · omega
  · exact Int.le_refl _
theorem floorE_ge (m : MetaR) (f now : Int) (ts : List Int) : min f ts.length ≤ floorE m f now ts := by
  unfold floorE
  dsimp only
  generalize young m.maxAge now ts = y
  split <;> split <;> omega
theorem times_congr {all all' : List StoredR} {x : StreamR} (hb : ∀ p ∈ x.places, 0 ≤ p ∧ p < all.length) (ha : ∃ more, all' = all ++ more) : times all' x = times all x := by
  obtain ⟨more, rfl⟩ := ha
  unfold times
  refine List.map_congr_left fun p hp => ?_
  obtain ⟨h0, h1⟩ := hb p hp
  obtain ⟨q, rfl⟩ := Int.eq_ofNat_of_zero_le h0
  have hq : q < all.length := by omega
  unfold timeAt
  rw [Int.toNat_natCast, List.getElem?_append_left hq]
end Go.Proofs.YteinoiicnmemhaaGreatDoor
/- The document's state (chronicleref15) as plain data, and when it is the same as the program's. No program is named. -/
set_option linter.unusedVariables false
set_option linter.unusedSimpArgs false
namespace Go.Proofs.YteinoiicnmemhaaGreatDoor
open Go.RowKit
structure DStr where
  name : ByteArray
  mt : MetaR
  kept : Int
  deleted : Bool
structure RS where
  l : List StoredR
  s : List DStr
  now : Int
  done : Int
def putD : List DStr → DStr → List DStr
  | [], x => [x]
  | y :: l, x => if y.name = x.name then x :: l else y :: putD l x
def firstAt (id : Int) : List StoredR → Int → Int
  | [], _ => -1
  | e :: l, k => if e.ev.id = id then k else firstAt id l (k + 1)
def idsAt : List EventR → List StoredR → Bool
  | [], _ => true
  | _ :: _, [] => false
  | e :: es, x :: xs => decide (x.ev.id = e.id) && idsAt es xs
def fitsD (e count : Int) : Bool := if e = -2 then true else if e = -1 then decide (count = 0) else if e = -4 then decide (0 < count) else decide (e = count - 1) && decide (0 < count)
namespace RS
def new : RS := ⟨[], [], 0, 0⟩
def get (r : RS) (n : ByteArray) : DStr := (r.s.find? (fun x => decide (x.name = n))).getD ⟨n, MetaR.zero, 0, false⟩
def put (r : RS) (x : DStr) : RS := { r with s := putD r.s x }
def of (r : RS) (n : ByteArray) : List StoredR := r.l.filter (fun e => decide (e.stream = n))
def floor (r : RS) (n : ByteArray) : Int := floorE (r.get n).mt (r.get n).kept r.now ((r.of n).map (·.time))
def keep (r : RS) (n : ByteArray) : RS := r.put { r.get n with kept := r.floor n }
def tick (r : RS) (t : Int) : RS := { r with now := max r.now t, done := r.done + 1 }
def goodAt (c : Cmd) (l : List StoredR) (v : Int) : Bool :=
  decide (v + c.events.length ≤ l.length) && (decide (c.expected = -2) || decide (c.expected = -4) || decide (c.expected = v - 1)) && idsAt c.events (l.drop v.toNat)
def wrongD (l : List StoredR) : Ans := ⟨22, l.length - 1, 0, false⟩
def act (r : RS) (c : Cmd) : Ans × RS :=
  let l := r.of c.stream
  let here : Ans := ⟨0, l.length, r.l.length, false⟩
  if c.kind = 2 then (here, ((r.keep c.stream).put { (r.keep c.stream).get c.stream with mt := c.mt }).keep c.stream)
  else if c.kind = 3 then
    if fitsD c.expected l.length = false then (wrongD l, r.keep c.stream)
    else (here, (r.put { r.get c.stream with deleted := true }).keep c.stream)
  else
    let v := firstAt ((c.events.head?).map (·.id) |>.getD 0) l 0
    if 0 ≤ v then (if goodAt c l v then ⟨0, v, ((l[(v + c.events.length - 1).toNat]?).map (·.position)).getD 0, true⟩ else wrongD l, r.keep c.stream)
    else if fitsD c.expected l.length = false then (wrongD l, r.keep c.stream)
    else (⟨0, l.length, r.l.length + c.events.length - 1, false⟩, { r with l := r.l ++ storedOf c.stream r.now c.events l.length r.l.length }.keep c.stream)
end RS
def RS.do (r : RS) (c : Cmd) : Ans × RS :=
  if c.check ≠ 0 then (⟨c.check, 0, 0, false⟩, r)
  else
    let r1 := r.tick c.time
    if 4 ≤ c.kind then (⟨0, 0, r.l.length, false⟩, r1)
    else if (r1.get c.stream).deleted then (⟨23, 0, 0, false⟩, r1.keep c.stream)
    else r1.act c
theorem get_name (r : RS) (n : ByteArray) : (r.get n).name = n := by
  unfold RS.get
  cases h : r.s.find? (fun x => decide (x.name = n)) with
  | none => rfl
  | some x => simpa using List.find?_some h
theorem putD_find (n : ByteArray) : ∀ (l : List DStr) (x : DStr), (putD l x).find? (fun y => decide (y.name = n)) = if x.name = n then some x else l.find? (fun y => decide (y.name = n))
  | [], x => by
    by_cases h : x.name = n
    · simp [putD, h]
    · simp [putD, h]
  | y :: l, x => by
    unfold putD
    by_cases h : y.name = x.name
    · rw [if_pos h, List.find?_cons, List.find?_cons]
      by_cases q : x.name = n
      · simp [q]
      · simp [q, h]
    · rw [if_neg h, List.find?_cons, List.find?_cons, putD_find n l x]
      by_cases q : x.name = n
      · have hy : ¬y.name = n := fun e => h (e.trans q.symm)
        simp [q, hy]
      · simp [q]
theorem get_put (r : RS) (x : DStr) (n : ByteArray) : (r.put x).get n = if x.name = n then x else r.get n := by
  unfold RS.put RS.get
  dsimp only
  rw [putD_find]
  split <;> rfl
theorem get_keep (r : RS) (m n : ByteArray) : (r.keep m).get n = if m = n then { r.get m with kept := r.floor m } else r.get n := by
  unfold RS.keep
  rw [get_put]
  dsimp only
  rw [get_name]
/-- What the two floors come to. -/
theorem floorE_mid {m : MetaR} {f k now : Int} {ts : List Int} (h1 : f ≤ k) (h2 : k ≤ floorE m f now ts) : floorE m k now ts = floorE m f now ts := by
  unfold floorE at *
  dsimp only at *
  generalize young m.maxAge now ts = y at *
  by_cases q1 : 0 < m.maxCount
  · by_cases q2 : 0 < m.maxAge
    · simp only [if_pos q1, if_pos q2] at *
      omega
    · simp only [if_pos q1, if_neg q2] at *
      omega
  · by_cases q2 : 0 < m.maxAge
    · simp only [if_neg q1, if_pos q2] at *
      omega
    · simp only [if_neg q1, if_neg q2] at *
      omega
theorem floorE_self (m : MetaR) (f now : Int) (ts : List Int) (hf : f ≤ ts.length) : floorE m (floorE m f now ts) now ts = floorE m f now ts :=
  floorE_mid (by have := floorE_ge m f now ts; omega) (Int.le_refl _)
theorem young_app (age now : Int) : ∀ (ts us : List Int), young age now ts ≤ young age now (ts ++ us)
  | [], us => (young_bd age now us).1
  | t :: ts, us => by
    simp only [List.cons_append, young]
    split
    · exact Int.le_refl _
    · have := young_app age now ts us
      omega
theorem floorE_app {m : MetaR} {f k now : Int} {ts us : List Int} (h0 : f ≤ ts.length) (h1 : f ≤ k) (h2 : k ≤ floorE m f now ts) : floorE m (floorE m f now ts) now (ts ++ us) = floorE m k now (ts ++ us) := by
  have hy := young_app m.maxAge now ts us
  unfold floorE at *
  dsimp only at *
  rw [List.length_append]
  generalize young m.maxAge now ts = y at *
  generalize young m.maxAge now (ts ++ us) = y' at *
  by_cases q1 : 0 < m.maxCount
  · by_cases q2 : 0 < m.maxAge
    · simp only [if_pos q1, if_pos q2] at *
      omega
    · simp only [if_pos q1, if_neg q2] at *
      omega
  · by_cases q2 : 0 < m.maxAge
    · simp only [if_neg q1, if_pos q2] at *
      omega
    · simp only [if_neg q1, if_neg q2] at *
      omega
/-- The document's state is the same as the program's. -/
structure Alike (s : MS) (r : RS) : Prop where
  l : r.l = s.all
  now : r.now = s.now
  done : r.done = s.done
  mt : ∀ n, (r.get n).mt = (s.find n).mt
  del : ∀ n, (r.get n).deleted = (s.find n).deleted
  kept : ∀ n, (s.find n).floor ≤ (r.get n).kept ∧ (r.get n).kept ≤ s.floorS n
section
variable {s : MS} {r : RS} {N : Nat}
theorem Alike.of (h : Alike s r) (h2 : s.Inv2) (n : ByteArray) : r.of n = (s.find n).places.map (evAt s.all) := by
  unfold RS.of
  rw [h.l, h2.1 n]
theorem times_evAt (all : List StoredR) (x : StreamR) : (x.places.map (evAt all)).map (·.time) = times all x := by
  unfold times
  rw [List.map_map]
  refine List.map_congr_left fun p _ => ?_
  show (evAt all p).time = timeAt all p
  unfold evAt timeAt
  cases all[p.toNat]? <;> rfl
theorem Alike.times (h : Alike s r) (h2 : s.Inv2) (n : ByteArray) : (r.of n).map (·.time) = times s.all (s.find n) := by rw [h.of h2, times_evAt]
theorem Alike.len (h : Alike s r) (h2 : s.Inv2) (n : ByteArray) : (r.of n).length = (s.find n).places.length := by rw [h.of h2, List.length_map]
theorem Alike.floor (h : Alike s r) (h2 : s.Inv2) (n : ByteArray) : r.floor n = s.floorS n := by
  unfold RS.floor MS.floorS MS.floorOf
  rw [h.times h2, h.mt, h.now]
  exact floorE_mid (h.kept n).1 (h.kept n).2
theorem Alike.tick (h : Alike s r) (t : Int) : Alike (s.tick t) (r.tick t) :=
  ⟨h.l, by show max r.now t = max s.now t; rw [h.now], by show r.done + 1 = s.done + 1; rw [h.done], h.mt, h.del, fun n => ⟨(h.kept n).1, Int.le_trans (h.kept n).2 (floorE_mono _ _ _ _ _ (by show s.now ≤ max s.now t; omega))⟩⟩
end
end Go.Proofs.YteinoiicnmemhaaGreatDoor
/- The document's state does what the program's does. No program is named. -/
set_option linter.unusedVariables false
set_option linter.unusedSimpArgs false
namespace Go.Proofs.YteinoiicnmemhaaGreatDoor
open Go.RowKit
section
variable {s s1 : MS} {r r1 R : RS} {N : Nat} {c : Cmd} {n : ByteArray} {A more : List StoredR} {y : StreamR} {X : DStr}
theorem floorOf_eq (s : MS) (x : StreamR) : s.floorOf x = floorE x.mt x.floor s.now (times s.all x) := rfl
theorem alike_put (h : Alike s1 r1) (hpl : ∀ m, ∀ p ∈ (s1.find m).places, 0 ≤ p ∧ p < s1.all.length) (hA : A = s1.all ++ more) (hR1 : R.l = A) (hR2 : R.now = r1.now) (hR3 : R.done = r1.done)
    (hget : ∀ m, R.get m = if n = m then X else r1.get m) (hm : X.mt = y.mt) (hd : X.deleted = y.deleted) (hk : X.kept = floorE y.mt y.floor s1.now (times A y)) (hf : y.floor ≤ (times A y).length) :
    Alike (({ s1 with all := A } : MS).keep n y) R := by
  have hfind : ∀ m, (({ s1 with all := A } : MS).keep n y).find m = if n = m then { y with floor := floorE y.mt y.floor s1.now (times A y) } else s1.find m := fun m => by
    unfold MS.keep
    rw [find_put]
    rfl
  have hnow : (({ s1 with all := A } : MS).keep n y).now = s1.now := rfl
  have hall : (({ s1 with all := A } : MS).keep n y).all = A := rfl
  have hfs : ∀ m, (({ s1 with all := A } : MS).keep n y).floorS m = if n = m then floorE y.mt (floorE y.mt y.floor s1.now (times A y)) s1.now (times A y) else s1.floorS m := fun m => by
    unfold MS.floorS
    rw [floorOf_eq, hfind, hnow, hall]
    by_cases e : n = m
    · rw [if_pos e, if_pos e]
      rfl
    · rw [if_neg e, if_neg e, times_congr (hpl m) ⟨more, hA⟩]
      rfl
  refine ⟨hR1, hR2.trans h.now, hR3.trans h.done, fun m => ?_, fun m => ?_, fun m => ?_⟩
  · rw [hget, hfind]
    split
    · exact hm
    · exact h.mt m
  · rw [hget, hfind]
    split
    · exact hd
    · exact h.del m
  · rw [hget, hfind, hfs]
    split
    · dsimp only
      rw [floorE_self _ _ _ _ hf, hk]
      exact ⟨Int.le_refl _, Int.le_refl _⟩
    · exact h.kept m
theorem get_putkeep (r : RS) {x : DStr} {n : ByteArray} (hx : x.name = n) (m : ByteArray) : ((r.put x).keep n).get m = if n = m then { x with kept := floorE x.mt x.kept r.now ((r.of n).map (·.time)) } else r.get m := by
  have h1 : (r.put x).get n = x := by rw [get_put, if_pos hx]
  have h2 : (r.put x).floor n = floorE x.mt x.kept r.now ((r.of n).map (·.time)) := by
    unfold RS.floor
    rw [h1]
    rfl
  rw [get_keep, h1, h2]
  by_cases e : n = m
  · rw [if_pos e, if_pos e]
  · rw [if_neg e, if_neg e, get_put, hx, if_neg e]
theorem same_all (s : MS) : ({ s with all := s.all } : MS) = s := rfl
theorem check_expects (h : c.check = 0) (hk : c.kind = 1 ∨ c.kind = 3) : expects c.expected = true := by
  unfold Cmd.check at h
  split at h
  · cases h
  · split at h
    · cases h
    · split at h
      · rename_i q
        exact absurd h q.2
      · split at h
        · cases h
        · rename_i q
          cases he : expects c.expected with
          | true => rfl
          | false => exact absurd ⟨hk, he⟩ q
theorem fits_expected {e : Int} (h : expects e = true) (k : Nat) : fitsD e k = expected e k := by
  unfold fitsD expected
  split
  · rfl
  · split
    · rfl
    · split
      · rfl
      · unfold expects within at h
        simp only [Bool.or_eq_true, Bool.and_eq_true, decide_eq_true_eq] at h
        by_cases q : e = (k : Int) - 1
        · rw [decide_eq_true q, decide_eq_true (by omega : (0 : Int) < k)]
          rfl
        · rw [decide_eq_false q]
          rfl
theorem idAt_ev (all : List StoredR) (p : Int) : idAt all p = (evAt all p).ev.id := by
  unfold idAt evAt
  cases all[p.toNat]? <;> rfl
theorem first_ev (all : List StoredR) (id : Int) : ∀ (ps : List Int) (k : Int), firstAt id (ps.map (evAt all)) k = firstOf all id ps k
  | [], _ => rfl
  | p :: ps, k => by
    simp only [List.map_cons, firstAt, firstOf, idAt_ev]
    split
    · rfl
    · exact first_ev all id ps (k + 1)
theorem ids_ev (all : List StoredR) : ∀ (es : List EventR) (ps : List Int), idsAt es (ps.map (evAt all)) = sameIds all es ps
  | [], ps => by cases ps <;> rfl
  | e :: es, [] => rfl
  | e :: es, p :: ps => by
    simp only [List.map_cons, idsAt, sameIds, idAt_ev]
    rw [ids_ev all es ps]
theorem again_good (h : Alike s r) (hi : s.Inv) (h2 : s.Inv2) (hl : 1 ≤ c.events.length) {v : Int} (hv : 0 ≤ v) (f : Int) :
    (if RS.goodAt c (r.of n) v then (⟨0, v, (((r.of n)[(v + c.events.length - 1).toNat]?).map (·.position)).getD 0, true⟩ : Ans) else RS.wrongD (r.of n)) = s.again c { s.find n with floor := f } v := by
  have hlen : (r.of n).length = (s.find n).places.length := h.len h2 n
  have hw : RS.wrongD (r.of n) = wrong { s.find n with floor := f } := by unfold RS.wrongD wrong; rw [hlen]
  have hids : idsAt c.events ((r.of n).drop v.toNat) = sameIds s.all c.events ((s.find n).places.drop v.toNat) := by rw [h.of h2, ← List.map_drop, ids_ev]
  unfold MS.again
  dsimp only
  by_cases h1 : v + c.events.length ≤ (s.find n).places.length
  · by_cases h3 : fitsAgain c v = true
    · have h4 : (decide (c.expected = -2) || decide (c.expected = -4) || decide (c.expected = v - 1)) = true := by
        unfold fitsAgain at h3
        simp only [Bool.or_eq_true, Bool.and_eq_true, decide_eq_true_eq] at h3 ⊢
        omega
      have hg : RS.goodAt c (r.of n) v = sameIds s.all c.events ((s.find n).places.drop v.toNat) := by
        unfold RS.goodAt
        rw [h4, hlen, decide_eq_true h1, hids]
        simp
      have hc : ¬(fitsAgain c v = false ∨ ((s.find n).places.length : Int) - v < c.events.length) := by rw [h3]; simp; omega
      rw [if_neg hc, hg]
      cases hs : sameIds s.all c.events ((s.find n).places.drop v.toNat) with
      | false => simp [hw]
      | true =>
        simp only [if_true]
        congr 1
        obtain ⟨k, hk⟩ : ∃ k : Nat, (v + c.events.length - 1).toNat = k := ⟨_, rfl⟩
        rw [hk, h.of h2, List.getElem?_map]
        have hkl : k < (s.find n).places.length := by omega
        rw [List.getElem?_eq_getElem hkl]
        simp only [Option.map_some, Option.getD_some]
        obtain ⟨p, hp, q1, q2, q3⟩ := hi.plc n k hkl
        rw [q1, evAt_nat hp]
        exact hi.pos p hp
    · have h4 : RS.goodAt c (r.of n) v = false := by
        unfold RS.goodAt
        unfold fitsAgain at h3
        simp only [Bool.or_eq_true, Bool.and_eq_true, decide_eq_true_eq] at h3
        have : (decide (c.expected = -2) || decide (c.expected = -4) || decide (c.expected = v - 1)) = false := by
          simp only [Bool.or_eq_false_iff, decide_eq_false_iff_not]
          omega
        rw [this]
        simp
      have hc : fitsAgain c v = false ∨ ((s.find n).places.length : Int) - v < c.events.length := .inl (by simpa using h3)
      rw [h4, if_pos hc, if_neg (by simp)]
      exact hw
  · have h4 : RS.goodAt c (r.of n) v = false := by
      unfold RS.goodAt
      rw [hlen, decide_eq_false h1]
      simp
    have hc : fitsAgain c v = false ∨ ((s.find n).places.length : Int) - v < c.events.length := .inr (by omega)
    rw [h4, if_pos hc, if_neg (by simp)]
    exact hw
/-- One command: the same answer, and the states stay alike. -/
theorem alike_do (h : Alike s r) (hi : s.Inv) (h2 : s.Inv2) (ho : s.Ok N) (c : Cmd) : (r.do c).1 = (s.do c).1 ∧ Alike (s.do c).2 (r.do c).2 := by
  unfold RS.do MS.do
  by_cases hk : c.check = 0
  · have hc : ¬ c.check ≠ 0 := by simp [hk]
    rw [if_neg hc, if_neg hc]
    dsimp only
    have hz := check_zero hk
    by_cases h4 : c.kind = 4 ∨ c.kind = 5
    · have h5 : 4 ≤ c.kind := by omega
      rw [if_pos h5, if_pos h4]
      exact ⟨by rw [h.l], h.tick c.time⟩
    · have h5 : ¬ 4 ≤ c.kind := by omega
      rw [if_neg h5, if_neg h4]
      have h1 := h.tick c.time
      have hi1 : (s.tick c.time).Inv := ⟨hi.pos, hi.plc, hi.ver⟩
      have h21 : (s.tick c.time).Inv2 := ⟨h2.1, h2.2⟩
      have hfi : ∀ m, ((s.tick c.time).find m).floor ≤ ((s.tick c.time).find m).places.length ∧ ∀ p ∈ ((s.tick c.time).find m).places, 0 ≤ p ∧ p < (s.tick c.time).all.length := fun m => ⟨(ho.find m).2.2.1, (ho.find m).2.2.2.2⟩
      obtain ⟨s1, hs1⟩ : ∃ s1, s.tick c.time = s1 := ⟨_, rfl⟩
      obtain ⟨r1, hr1⟩ : ∃ r1, r.tick c.time = r1 := ⟨_, rfl⟩
      rw [hs1] at h1 hi1 h21 hfi ⊢
      rw [hr1] at h1 ⊢
      clear hs1 hr1 h hi h2 ho
      obtain ⟨n, hn⟩ : ∃ n, c.stream = n := ⟨_, rfl⟩
      have hpl := fun m => (hfi m).2
      have hlen := h1.len h21 n
      have hfl := h1.floor h21 n
      have hbd := floorS_bd s1 n
      have hts := h1.times h21 n
      have htl : (times s1.all (s1.find n)).length = (s1.find n).places.length := times_len _ _
      rw [hn]
      rw [h1.del n]
      by_cases hdel : (s1.find n).deleted = true
      · rw [if_pos hdel, if_pos hdel]
        refine ⟨rfl, h1.l, h1.now, h1.done, fun m => ?_, fun m => ?_, fun m => ?_⟩
        · rw [get_keep]
          split
          · rename_i e; subst e; exact h1.mt _
          · exact h1.mt m
        · rw [get_keep]
          split
          · rename_i e; subst e; exact h1.del _
          · exact h1.del m
        · rw [get_keep]
          split
          · rename_i e
            subst e
            dsimp only
            rw [hfl]
            refine ⟨?_, Int.le_refl _⟩
            have h5 := floorE_ge (s1.find n).mt (s1.find n).floor s1.now (times s1.all (s1.find n))
            have h6 := (hfi n).1
            unfold MS.floorS
            rw [floorOf_eq]
            omega
          · exact h1.kept m
      · rw [if_neg hdel, if_neg hdel]
        have hfo : s1.floorOf (s1.find n) = s1.floorS n := rfl
        have hself : floorE (s1.find n).mt (s1.floorS n) s1.now (times s1.all (s1.find n)) = s1.floorS n := by
          rw [← hfo, floorOf_eq]
          exact floorE_self _ _ _ _ (by rw [htl]; exact (hfi n).1)
        -- the stream is kept as it is
        have hkeep : Alike (s1.keep n { s1.find n with floor := s1.floorS n }) (r1.keep n) := by
          rw [← same_all s1]
          refine alike_put (more := []) h1 hpl (by simp) h1.l rfl rfl (fun m => get_keep r1 n m) (h1.mt n) (h1.del n) ?_ ?_
          · show r1.floor n = floorE (s1.find n).mt (s1.floorS n) s1.now (times s1.all (s1.find n))
            rw [hfl, hself]
          · show s1.floorS n ≤ (times s1.all (s1.find n)).length
            rw [htl]
            exact hbd.2
        unfold RS.act MS.act
        dsimp only
        rw [hn]
        by_cases k2 : c.kind = 2
        · rw [if_pos k2, if_pos k2]
          refine ⟨by rw [hlen, h1.l], ?_⟩
          rw [← same_all s1]
          refine alike_put (more := []) (X := { r1.get n with mt := c.mt, kept := floorE c.mt (s1.floorS n) s1.now (times s1.all (s1.find n)) }) h1 hpl (by simp) h1.l rfl rfl (fun m => ?_) rfl (h1.del n) rfl ?_
          · have hq : (r1.keep n).get n = { r1.get n with kept := r1.floor n } := by rw [get_keep, if_pos rfl]
            refine (get_putkeep (r1.keep n) (x := { (r1.keep n).get n with mt := c.mt }) (n := n) (get_name _ _) m).trans ?_
            by_cases e : n = m
            · rw [if_pos e, if_pos e, hq]
              show ({ name := (r1.get n).name, mt := c.mt, kept := floorE c.mt (r1.floor n) r1.now ((r1.of n).map (·.time)), deleted := (r1.get n).deleted } : DStr) = _
              rw [hfl, hts, h1.now]
            · rw [if_neg e, if_neg e, get_keep, if_neg e]
          · show s1.floorS n ≤ (times s1.all (s1.find n)).length
            rw [htl]
            exact hbd.2
        · rw [if_neg k2, if_neg k2]
          have hw : RS.wrongD (r1.of n) = wrong { s1.find n with floor := s1.floorS n } := by unfold RS.wrongD wrong; rw [hlen]
          by_cases k3 : c.kind = 3
          · rw [if_pos k3, if_pos k3, hlen, fits_expected (check_expects hk (.inr k3))]
            cases hex : expected c.expected (s1.find n).places.length with
            | false =>
              simp only [if_true, Bool.false_eq_true, if_false]
              exact ⟨hw, hkeep⟩
            | true =>
              simp only [Bool.true_eq_false, if_false, if_true]
              refine ⟨by rw [h1.l], ?_⟩
              rw [← same_all s1]
              refine alike_put (more := []) (X := { r1.get n with deleted := true, kept := s1.floorS n }) h1 hpl (by simp) h1.l rfl rfl (fun m => ?_) (h1.mt n) rfl ?_ ?_
              · refine (get_putkeep r1 (x := { r1.get n with deleted := true }) (n := n) (get_name _ _) m).trans ?_
                by_cases e : n = m
                · rw [if_pos e, if_pos e]
                  show ({ name := (r1.get n).name, mt := (r1.get n).mt, kept := r1.floor n, deleted := true } : DStr) = _
                  rw [hfl]
                · rw [if_neg e, if_neg e]
              · show s1.floorS n = floorE (s1.find n).mt (s1.floorS n) s1.now (times s1.all (s1.find n))
                rw [hself]
              · show s1.floorS n ≤ (times s1.all (s1.find n)).length
                rw [htl]
                exact hbd.2
          · rw [if_neg k3, if_neg k3]
            have k1 : c.kind = 1 := by omega
            have hel := (hz.2.2.2.2 k1).1
            have hfirst : firstAt (((c.events.head?).map (·.id)).getD 0) (r1.of n) 0 = s1.first { s1.find n with floor := s1.floorS n } (((c.events.head?).map (·.id)).getD 0) := by
              rw [h1.of h21, first_ev]
              rfl
            rw [hfirst]
            obtain ⟨v, hv⟩ : ∃ v, s1.first { s1.find n with floor := s1.floorS n } (((c.events.head?).map (·.id)).getD 0) = v := ⟨_, rfl⟩
            have hv' : s1.first { s1.find n with floor := s1.floorOf (s1.find n) } (((c.events.head?).map (·.id)).getD 0) = v := hv
            rw [hv, hv']
            by_cases hv0 : 0 ≤ v
            · rw [if_pos hv0, if_pos hv0]
              exact ⟨again_good h1 hi1 h21 hel hv0 _, hkeep⟩
            · rw [if_neg hv0, if_neg hv0, hlen, fits_expected (check_expects hk (.inl k1))]
              cases hex : expected c.expected (s1.find n).places.length with
              | false =>
                simp only [if_true, Bool.false_eq_true, if_false]
                exact ⟨hw, hkeep⟩
              | true =>
                simp only [Bool.true_eq_false, if_false, if_true]
                unfold MS.append
                dsimp only
                rw [hn, h1.l, h1.now]
                refine ⟨rfl, ?_⟩
                obtain ⟨st, hst⟩ : ∃ st, storedOf n s1.now c.events (s1.find n).places.length s1.all.length = st := ⟨_, rfl⟩
                have hsl : st.length = c.events.length := by rw [← hst, storedOf_len]
                have hss : ∀ e ∈ st, e.stream = n := by rw [← hst]; exact storedOf_stream _ _ _ _ _
                rw [hst]
                -- the times behind it
                have hof : ({ r1 with l := s1.all ++ st, now := s1.now } : RS).of n = (s1.find n).places.map (evAt s1.all) ++ st := by
                  show (s1.all ++ st).filter _ = _
                  rw [List.filter_append, h21.1 n]
                  congr 1
                  exact List.filter_eq_self.2 (fun e he => by simpa using hss e he)
                have htimes : times (s1.all ++ st) { s1.find n with places := (s1.find n).places ++ rangeFrom c.events.length s1.all.length, floor := s1.floorOf (s1.find n) } = times s1.all (s1.find n) ++ st.map (·.time) := by
                  rw [← times_evAt, ← times_evAt]
                  dsimp only
                  rw [List.map_append, List.map_append, ← hsl, range_evAt]
                  congr 2
                  refine List.map_congr_left fun p hp => ?_
                  obtain ⟨q0, q1⟩ := hpl n p hp
                  obtain ⟨q, rfl⟩ := Int.eq_ofNat_of_zero_le q0
                  exact evAt_append (by omega)
                have happ := floorE_app (m := (s1.find n).mt) (f := (s1.find n).floor) (k := (r1.get n).kept) (now := s1.now) (ts := times s1.all (s1.find n)) (us := st.map (·.time)) (by rw [htl]; exact (hfi n).1) (h1.kept n).1 (h1.kept n).2
                refine alike_put (more := st) (A := s1.all ++ st) (X := { r1.get n with kept := floorE (s1.find n).mt (r1.get n).kept s1.now (times s1.all (s1.find n) ++ st.map (·.time)) }) h1 hpl rfl rfl h1.now.symm rfl (fun m => ?_) (h1.mt n) (h1.del n) ?_ ?_
                · rw [get_keep]
                  by_cases e : n = m
                  · rw [if_pos e, if_pos e]
                    show ({ (r1.get n) with kept := _ } : DStr) = _
                    congr 1
                    unfold RS.floor
                    rw [hof, List.map_append, times_evAt]
                    have hg : ({ r1 with l := s1.all ++ st, now := s1.now } : RS).get n = r1.get n := rfl
                    rw [hg, h1.mt n]
                  · rw [if_neg e, if_neg e]
                    rfl
                · rw [htimes]
                  exact happ.symm
                · rw [htimes, List.length_append, htl]
                  have : s1.floorOf (s1.find n) ≤ (s1.find n).places.length := hbd.2
                  show s1.floorOf (s1.find n) ≤ _
                  omega
  · have hc : c.check ≠ 0 := hk
    rw [if_pos hc, if_pos hc]
    exact ⟨rfl, h⟩
end
end Go.Proofs.YteinoiicnmemhaaGreatDoor
/- Contract: At, an event of a stream that is seen (from Lt1 of the Link seat). -/
set_option linter.unusedVariables false
set_option linter.unusedSimpArgs false
namespace Go.Proofs.YteinoiicnmemhaaGreatDoor
open Go.RowKit Go Go.Sort
section
variable {w : World} {M : List Nat} {sb mb N : Nat} {av : Value} {pf : ByteArray → Value} {s : MS}
end
end Go.Proofs.YteinoiicnmemhaaGreatDoor
/- Lists of stored events in memory that are searched, set and cleared. No program is named. -/
set_option linter.unusedVariables false
set_option linter.unusedSimpArgs false
namespace Go.Proofs.YteinoiicnmemhaaGreatDoor
open Go.RowKit
def idxP (p : StoredR → Bool) : List StoredR → Int → Int
  | [], _ => -1
  | x :: l, k => if p x then k else idxP p l (k + 1)
theorem idxP_drop (p : StoredR → Bool) (l : List StoredR) (k : Nat) (h : k < l.length) (i : Int) : idxP p (l.drop k) i = if p l[k] then i else idxP p (l.drop (k + 1)) (i + 1) := by
  rw [List.drop_eq_getElem_cons h]
  rfl
theorem idxP_spec (p : StoredR → Bool) : ∀ (l : List StoredR) (i : Int), (idxP p l i = -1 ∧ l.filter (fun x => !p x) = l) ∨
    ∃ k : Nat, ∃ hk : k < l.length, idxP p l i = i + k ∧ p l[k] = true ∧ (l.take (k + 1)).filter (fun x => !p x) = l.take k
  | [], i => .inl ⟨rfl, rfl⟩
  | x :: l, i => by
    cases h : p x with
    | true => exact .inr ⟨0, by simp, by simp [idxP, h], by simpa using h, by simp [h]⟩
    | false =>
      rcases idxP_spec p l (i + 1) with ⟨e, ha⟩ | ⟨k, hk, e, ht, ha⟩
      · exact .inl ⟨by simp [idxP, h, e], by rw [List.filter_cons, if_pos (by simp [h]), ha]⟩
      · refine .inr ⟨k + 1, by simpa using hk, ?_, by simpa using ht, ?_⟩
        · simp only [idxP, h, Bool.false_eq_true, if_false, e]
          omega
        · rw [List.take_succ_cons, List.filter_cons, if_pos (by simp [h]), ha, List.take_succ_cons]
theorem set_skip {α : Type} (A L : List α) (hA : A.length = 8) (i r : Nat) (v : α) : (A ++ L).set ((i + 1) * 8 + r) v = A ++ L.set (i * 8 + r) v := by
  rw [List.set_append_right _ _ (by omega)]
  congr 2
  omega
theorem flat_set (z : StoredR) (rest : List Value) : ∀ (ys : List StoredR) (i : Nat), i < ys.length →
    ((((((((ys.flatMap StoredR.cells ++ rest).set (i * 8 + 0) (.int .i64 z.ev.id)).set (i * 8 + 1) (.string z.ev.type)).set (i * 8 + 2) (.string z.ev.data)).set (i * 8 + 3) (.float .f64 z.ev.value)).set (i * 8 + 4) (.string z.stream)).set (i * 8 + 5) (.int .i64 z.version)).set (i * 8 + 6) (.int .i64 z.position)).set (i * 8 + 7) (.int .i64 z.time) =
      (ys.set i z).flatMap StoredR.cells ++ rest
  | [], _, h => absurd h (Nat.not_lt_zero _)
  | y :: ys, 0, _ => by simp [StoredR.cells, EventR.cells]
  | y :: ys, i + 1, h => by
    have hl : y.cells.length = 8 := rfl
    rw [List.flatMap_cons, List.append_assoc]
    rw [set_skip _ _ hl, set_skip _ _ hl, set_skip _ _ hl, set_skip _ _ hl, set_skip _ _ hl, set_skip _ _ hl, set_skip _ _ hl, set_skip _ _ hl]
    rw [flat_set z rest ys i (by simpa using h), List.set_cons_succ, List.flatMap_cons, List.append_assoc]
theorem flat_take : ∀ (ys : List StoredR) (i : Nat), (ys.flatMap StoredR.cells).take (i * 8) = (ys.take i).flatMap StoredR.cells
  | [], i => by simp
  | y :: ys, 0 => by simp
  | y :: ys, i + 1 => by
    have hl : y.cells.length = 8 := rfl
    rw [List.flatMap_cons, List.take_succ_cons, List.flatMap_cons, List.take_append, hl, List.take_of_length_le (by omega), show (i + 1) * 8 - 8 = i * 8 by omega, flat_take ys i]
section
variable {w : World} {g : Nat} {t : TypeId} {cs : Array Value}
theorem Blk.sets : ∀ (zs : List Value) (o : Nat) {w : World} {cs : Array Value} (h : Blk w g t cs), ∃ cs', Blk (w.setCells g o zs) g t cs' ∧ cs'.size = cs.size ∧ ∀ j, j < o → cs'[j]? = cs[j]?
  | [], _, _, cs, h => ⟨cs, h, rfl, fun _ _ => rfl⟩
  | z :: zs, o, _, cs, h => by
    obtain ⟨cs', h1, h2, h3⟩ := Blk.sets zs (o + 1) (h.set o z)
    refine ⟨cs', h1, by rw [h2]; simp, fun j hj => ?_⟩
    rw [h3 j (by omega), Array.getElem?_setIfInBounds, if_neg (by omega)]
theorem Only.setCells {S : List Nat} {a : World} {g : Nat} (hg : g ∈ S ∨ a.heap.size ≤ g) : ∀ (zs : List Value) (o : Nat) {w : World}, Only S a w → Only S a (w.setCells g o zs)
  | [], _, _, h => h
  | z :: zs, o, _, h => Only.setCells hg zs (o + 1) (h.setCell hg z)
/-- Eight cells set: an element. -/
theorem blk_set8 (h : Blk w g t cs) {ys : List StoredR} {rest : List Value} (hc : cs.toList = ys.flatMap StoredR.cells ++ rest) {i : Nat} (hi : i < ys.length) (z : StoredR) :
    ∃ cs', Blk ((((((((w.setCell ⟨g, i * 8, none⟩ (.int .i64 z.ev.id)).setCell ⟨g, i * 8 + 1, none⟩ (.string z.ev.type)).setCell ⟨g, i * 8 + 2, none⟩ (.string z.ev.data)).setCell ⟨g, i * 8 + 3, none⟩ (.float .f64 z.ev.value)).setCell ⟨g, i * 8 + 4, none⟩ (.string z.stream)).setCell ⟨g, i * 8 + 5, none⟩ (.int .i64 z.version)).setCell ⟨g, i * 8 + 6, none⟩ (.int .i64 z.position)).setCell ⟨g, i * 8 + 7, none⟩ (.int .i64 z.time)) g t cs' ∧
      cs'.toList = (ys.set i z).flatMap StoredR.cells ++ rest := by
  refine ⟨_, (((((((h.set _ _).set _ _).set _ _).set _ _).set _ _).set _ _).set _ _).set _ _, ?_⟩
  simp only [Array.toList_setIfInBounds, hc]
  exact flat_set z rest ys i hi
theorem blk_elem (h : Blk w g t cs) {ys : List StoredR} {rest : List Value} (hc : cs.toList = ys.flatMap StoredR.cells ++ rest) {i : Nat} (hi : i < ys.length) {r : Nat} (hr : r < 8) : w.cell? ⟨g, i * 8 + r, none⟩ = (ys[i].cells)[r]? := by
  have hl := flat_len StoredR.cells 8 ys (fun _ _ => rfl)
  have hlt : i * 8 + r < (ys.flatMap StoredR.cells).length := by omega
  rw [h.cell, ← Array.getElem?_toList, hc, List.getElem?_append_left hlt]
  exact flat_get StoredR.cells 8 ys (fun _ _ => rfl) i r hi hr
end
/-- 'clear' of a slice of n > 0 elements of whatever type. -/
theorem run_clearK {P : Program} (w : World) (t e ty : TypeId) (z : Value) (ht : P.underlying t = some (.slice e)) (hv : ∀ w, (zeroValue e).run P w = .ok z w) (h1 : ∀ v ∈ z.cells.toList, v.oneCell' = true) (k : Nat) (hk : z.cells.size = k) (b o n c : Nat) (hn : 0 < n)
    (hc : ∀ j, j < n * k → (w.cell? ⟨b, o + j, none⟩).isSome = true) (hf : ∀ j, j < n * k → w.frozen? ⟨b, o + j, none⟩ = false) :
    (Builtin.clear_ #[t] ty #[.slice (some ⟨b, o, none⟩) n c]).run P w = .ok (.tuple #[]) (w.setCells b o (Builtin.zeroCells z.cells n).toList) := by
  have hl : (Builtin.zeroCells z.cells n).toList.length = n * k := by simp [Builtin.zeroCells, hk]
  have hst := run_storeCells_cells (P := P) b o (Builtin.zeroCells z.cells n).toList 0 w (by rw [hl]; simpa using hc) (by rw [hl]; simpa using hf) (by
    intro v hv'
    simp only [Builtin.zeroCells, Array.toList_map, List.mem_map] at hv'
    obtain ⟨i, hi, rfl⟩ := hv'
    rcases Nat.eq_zero_or_pos z.cells.size with q | q
    · simp [q] at hi
    · have hm := Nat.mod_lt i q
      rw [getElem!_pos z.cells (i % z.cells.size) hm]
      exact h1 _ (by simp))
  simp only [Nat.add_zero] at hst
  obtain ⟨m, rfl⟩ : ∃ m, n = m + 1 := ⟨n - 1, by omega⟩
  simp [Builtin.clear_, run_underlying ht, hv, hst]
/-! ## an own row as a block -/
theorem own_blk {w : World} {base : Nat} {v : Value} {xs : List StoredR} {e : TypeId} (h : w.ownsRow base e 8 v xs.length (xs.flatMap StoredR.cells)) : (v = .slice none 0 0 ∧ xs = []) ∨
    ∃ g cap cs rest, v = .slice (some ⟨g, 0, none⟩) xs.length cap ∧ base ≤ g ∧ Blk w g e cs ∧ xs.length ≤ cap ∧ cap ≤ maxLen ∧ cs.size = cap * 8 ∧ cs.toList = xs.flatMap StoredR.cells ++ rest := by
  obtain ⟨h1, h2⟩ := h
  rcases h2 with ⟨rfl, q⟩ | ⟨g, cap, cur, rfl, hb, hg, hn, hc, hs, ht⟩
  · exact .inl ⟨rfl, List.length_eq_zero_iff.1 q⟩
  · refine .inr ⟨g, cap, cur, cur.toList.drop (xs.length * 8), rfl, hb, hg, hn, hc, hs, ?_⟩
    rw [← ht]
    exact (List.take_append_drop _ _).symm
theorem blk_own {w : World} {base : Nat} {xs : List StoredR} {e : TypeId} {g cap : Nat} {cs : Array Value} (hb : base ≤ g) (hg : Blk w g e cs) (hn : xs.length ≤ cap) (hm : cap ≤ maxLen) (hs : cs.size = cap * 8) (ht : cs.toList.take (xs.length * 8) = xs.flatMap StoredR.cells) :
    w.ownsRow base e 8 (.slice (some ⟨g, 0, none⟩) xs.length cap) xs.length (xs.flatMap StoredR.cells) :=
  ⟨flat_len StoredR.cells 8 xs (fun _ _ => rfl), .inr ⟨g, cap, cs, rfl, hb, hg, hn, hm, hs, ht⟩⟩
/-- What stands at the head of a round: of ys the first i are the kept ones of the first j of xs, from j on it is xs. -/
structure KeptAt (p : StoredR → Bool) (xs ys : List StoredR) (i j : Nat) : Prop where
  len : ys.length = xs.length
  lt : i < j
  le : j ≤ xs.length
  done : ys.take i = (xs.take j).filter (fun x => !p x)
  rest : ys.drop j = xs.drop j
theorem KeptAt.get {p : StoredR → Bool} {xs ys : List StoredR} {i j : Nat} (h : KeptAt p xs ys i j) (hj : j < xs.length) : ∃ h2 : j < ys.length, ys[j] = xs[j] := by
  have h2 : j < ys.length := by rw [h.len]; exact hj
  refine ⟨h2, ?_⟩
  have := h.rest
  rw [List.drop_eq_getElem_cons hj, List.drop_eq_getElem_cons h2] at this
  exact (List.cons.inj this).1
theorem KeptAt.skip {p : StoredR → Bool} {xs ys : List StoredR} {i j : Nat} (h : KeptAt p xs ys i j) (hj : j < xs.length) (hp : p xs[j] = true) : KeptAt p xs ys i (j + 1) := by
  refine ⟨h.len, by have := h.lt; omega, hj, ?_, ?_⟩
  · rw [h.done, List.take_succ_eq_append_getElem hj, List.filter_append]
    simp [hp]
  · rw [← List.drop_drop, ← List.drop_drop, h.rest]
theorem KeptAt.keep {p : StoredR → Bool} {xs ys : List StoredR} {i j : Nat} (h : KeptAt p xs ys i j) (hj : j < xs.length) (hp : p xs[j] = false) : KeptAt p xs (ys.set i xs[j]) (i + 1) (j + 1) := by
  have hlt := h.lt
  have hlen := h.len
  refine ⟨by simpa using h.len, by omega, hj, ?_, ?_⟩
  · rw [List.take_succ_eq_append_getElem hj, List.filter_append, ← h.done, List.take_succ_eq_append_getElem (by simp; omega)]
    rw [List.take_set_of_le (Nat.le_refl _)]
    simp [hp]
  · rw [List.drop_set_of_lt (by omega), ← List.drop_drop, ← List.drop_drop, h.rest]
theorem KeptAt.start {p : StoredR → Bool} {xs : List StoredR} {k : Nat} (hk : k < xs.length) (h : (xs.take (k + 1)).filter (fun x => !p x) = xs.take k) : KeptAt p xs xs k (k + 1) := ⟨rfl, by omega, hk, h.symm, rfl⟩
end Go.Proofs.YteinoiicnmemhaaGreatDoor
/- Contracts: IndexFunc and DeleteFunc of stored events, by a closure that looks at a state. -/
set_option linter.unusedVariables false
set_option linter.unusedSimpArgs false
namespace Go.Proofs.YteinoiicnmemhaaGreatDoor
open Go.RowKit
/-- What is asked of the predicate: in every world in which only these blocks turned. -/
def Judges (S : List Nat) (w : World) (cv : Value) (p : StoredR → Bool) : Prop := ∀ W, Only S w W → ∀ x : StoredR,
  Calls Tryz.prog 110 #[.agg #[.int .i64 x.ev.id, .string x.ev.type, .string x.ev.data, .float .f64 x.ev.value, .string x.stream, .int .i64 x.version, .int .i64 x.position, .int .i64 x.time], cv] W fun e W' => e = .returned (.bool (p x)) ∧ Only [] W W'
set_option maxRecDepth 100000 in
set_option maxHeartbeats 1000000 in
theorem indexSt_any {w : World} {v : Value} {l : List StoredR} {p : StoredR → Bool} {cv : Value} (hl : Slc w 8 v l.length (l.flatMap StoredR.cells)) (hb : l.length ≤ 1000000) (HP : Judges [] w cv p) :
    Calls Tryz.prog 141 #[v, .func (.func 110) #[] #[cv]] w fun e w' => e = .returned (.int .i64 (idxP p l 0)) ∧ Only [] w w' := by
  obtain ⟨A, cap, rfl, hnc, hcm, hel⟩ := hl.openE StoredR.cells (fun _ => rfl)
  unfold maxLen at hcm
  obtain ⟨R, hR⟩ : ∃ R, R = idxP p l 0 := ⟨_, rfl⟩
  rw [← hR]
  have HR := Lib.hid hR
  have HJ := Lib.hid HP
  clear hR HP
  go_enter Tryz.func141, Tryz.ntmps141
  go_wp2
  go_loopw [5, 8] (fun _ i wr => ∃ k : Nat, k ≤ l.length ∧ i = .int .i64 k ∧ Hid (R = idxP p (l.drop k) k) ∧ Only [] w wr) (fun _ i _ => l.length - (intOf i).toNat)
  case atStart => exact ⟨0, Nat.zero_le _, rfl, HR, Only.refl _ _⟩
  case round =>
    obtain ⟨k, hk, rfl, hT, hO⟩ := hrel
    by_cases hlt : k < l.length
    · obtain ⟨b, off, rfl, hbb, hcc⟩ := hel k hlt
      have hd := idxP_drop p l k hlt k
      obtain ⟨s, hs⟩ : ∃ s, s = l[k] := ⟨_, rfl⟩
      rw [← hs] at hcc hd
      have c0 : wr.cell? ⟨b, off + k * 8, none⟩ = some (.int .i64 s.ev.id) := (hO.cell hbb (by simp)).trans (hcc 0 (by omega))
      have c1 : wr.cell? ⟨b, off + k * 8 + 1, none⟩ = some (.string s.ev.type) := (hO.cell hbb (by simp)).trans (hcc 1 (by omega))
      have c2 : wr.cell? ⟨b, off + k * 8 + 2, none⟩ = some (.string s.ev.data) := (hO.cell hbb (by simp)).trans (hcc 2 (by omega))
      have c3 : wr.cell? ⟨b, off + k * 8 + 3, none⟩ = some (.float .f64 s.ev.value) := (hO.cell hbb (by simp)).trans (hcc 3 (by omega))
      have c4 : wr.cell? ⟨b, off + k * 8 + 4, none⟩ = some (.string s.stream) := (hO.cell hbb (by simp)).trans (hcc 4 (by omega))
      have c5 : wr.cell? ⟨b, off + k * 8 + 5, none⟩ = some (.int .i64 s.version) := (hO.cell hbb (by simp)).trans (hcc 5 (by omega))
      have c6 : wr.cell? ⟨b, off + k * 8 + 6, none⟩ = some (.int .i64 s.position) := (hO.cell hbb (by simp)).trans (hcc 6 (by omega))
      have c7 : wr.cell? ⟨b, off + k * 8 + 7, none⟩ = some (.int .i64 s.time) := (hO.cell hbb (by simp)).trans (hcc 7 (by omega))
      have hcall := HJ.out wr hO s
      have hsf := stF
      clear hcc hs hel
      cases hq : p s with
      | true =>
        rw [hq] at hcall hd
        have HN : Hid (R = k) := by unfold Hid; rw [hT.out, hd]; rfl
        have HC := Lib.hid hcall
        clear hcall hd hq hT
        go_wp2_with (go_at_call 110; refine HC.out.mono ?_; rintro e w1 ⟨rfl, ho1⟩)
        go_ret
        exact ⟨by rw [HN.out]; rfl, hO.trans ho1⟩
      | false =>
        rw [hq] at hcall hd
        have HN : Hid (R = idxP p (l.drop (k + 1)) ((k + 1 : Nat) : Int)) := by
          unfold Hid
          rw [hT.out, hd]
          simp
        have HC := Lib.hid hcall
        clear hcall hd hq hT
        go_wp2_with (go_at_call 110; refine HC.out.mono ?_; rintro e w1 ⟨rfl, ho1⟩)
        exact ⟨⟨k + 1, hlt, by simp, HN, hO.trans ho1⟩, by simp [intOf]; omega⟩
    · have HN : Hid (R = -1) := by unfold Hid; rw [hT.out, List.drop_of_length_le (by omega)]; rfl
      clear hel
      go_wp2
      go_ret
      exact ⟨by rw [HN.out]; rfl, hO⟩
theorem zeroStV (w : World) : (zeroValue 92).run Tryz.prog w = .ok (.agg #[.int .i64 0, .string ⟨#[]⟩, .string ⟨#[]⟩, .float .f64 0, .string ⟨#[]⟩, .int .i64 0, .int .i64 0, .int .i64 0]) w := by kernel_rfl
theorem zeroSt : (∀ v ∈ (Value.agg #[.int .i64 0, .string ⟨#[]⟩, .string ⟨#[]⟩, .float .f64 0, .string ⟨#[]⟩, .int .i64 0, .int .i64 0, .int .i64 0]).cells.toList, v.oneCell' = true) ∧ (Value.agg #[.int .i64 0, .string ⟨#[]⟩, .string ⟨#[]⟩, .float .f64 0, .string ⟨#[]⟩, .int .i64 0, .int .i64 0, .int .i64 0]).cells.size = 8 := by
  constructor
  · simp [Value.cells, Value.oneCell']
  · rfl
set_option maxRecDepth 100000 in
set_option maxHeartbeats 2000000 in
theorem deleteSt_any {w : World} {base : Nat} {v : Value} {l : List StoredR} {p : StoredR → Bool} {cv : Value} (hl : w.ownsRow base 92 8 v l.length (l.flatMap StoredR.cells)) (hb : l.length ≤ 1000000) (HP : Judges v.ownBlock.toList w cv p) :
    Calls Tryz.prog 108 #[v, .func (.func 110) #[] #[cv]] w fun e w' => ∃ v', e = .returned v' ∧ w'.ownsRow base 92 8 v' (l.filter (fun x => !p x)).length ((l.filter (fun x => !p x)).flatMap StoredR.cells) ∧ Only v.ownBlock.toList w w' := by
  have hix := indexSt_any (Slc.of_own hl).1 hb (p := p) (cv := cv) (fun W hW => HP W hW.of_nil)
  obtain ⟨j0, hj, hy0, hy1, hy2⟩ := info_parts infoSt
  have hsp := idxP_spec p l 0
  rcases hsp with ⟨e1, e2⟩ | ⟨k0, hk0, e1, ht, e2⟩
  · rw [e1] at hix
    rw [e2]
    obtain ⟨A, cap, rfl, _, _⟩ := own_form hl
    have HI := Lib.hid hix
    clear hix e1 e2
    go_enter Tryz.func108, Tryz.ntmps108
    go_wp2_with (go_at_call 141; refine HI.out.mono ?_; rintro e w1 ⟨rfl, ho1⟩)
    go_ret
    exact ⟨_, rfl, own_only hl ho1 (by simp), ho1.of_nil⟩
  · rw [e1, Int.zero_add] at hix
    rcases own_blk hl with ⟨rfl, rfl⟩ | ⟨g, cap, cs0, rest, rfl, hbg, hB0, hnc, hcm, hsz, hcs0⟩
    · exact absurd hk0 (Nat.not_lt_zero _)
    have hne : ((k0 : Int) == -1) = false := beq_eq_false_iff_ne.2 (by omega)
    have HI := Lib.hid hix
    have HJ := Lib.hid HP
    have hK0 := KeptAt.start (p := p) hk0 e2
    unfold maxLen at hcm
    obtain ⟨f, hf⟩ : ∃ f, f = l.filter (fun x => !p x) := ⟨_, rfl⟩
    rw [← hf]
    have HF := Lib.hid hf
    clear hix HP e1 e2 ht hf
    go_enter Tryz.func108, Tryz.ntmps108
    go_wp2_with (go_at_call 141; refine HI.out.mono ?_; rintro e w1 ⟨rfl, ho1⟩)
    go_loopw [5, 6, 7] (fun s5 s6 _ wr => ∃ (i j : Nat) (ys : List StoredR) (cs : Array Value), s5 = .int .i64 i ∧ s6 = .int .i64 j ∧ KeptAt p l ys i j ∧ Blk wr g 92 cs ∧ cs.toList = ys.flatMap StoredR.cells ++ rest ∧ Only [g] w wr) (fun _ j _ _ => l.length - (intOf j).toNat)
    case atStart => exact ⟨k0, k0 + 1, l, cs0, rfl, by simp, hK0, ho1.blk hB0 (by simp), hcs0, ho1.of_nil⟩
    case round =>
      obtain ⟨i, j, ys, cs, rfl, rfl, hK, hB, hcs, hO⟩ := hrel
      have hij := hK.lt
      have hjl := hK.le
      have hyl := hK.len
      have hcl : ∀ q, (cs.toList).length = q → q = cap * 8 := by
        intro q hq
        have h1 := flat_len StoredR.cells 8 ys (fun _ _ => rfl)
        have h2 := flat_len StoredR.cells 8 l (fun _ _ => rfl)
        have h3 : cs0.toList.length = cap * 8 := by simpa using hsz
        rw [hcs0] at h3
        rw [hcs] at hq
        simp only [List.length_append] at h3 hq
        omega
      have hcsz : cs.size = cap * 8 := hcl _ (by simp)
      by_cases hlt : j < l.length
      · obtain ⟨hjy, hyj⟩ := hK.get hlt
        have hskip := hK.skip hlt
        have hkeep := hK.keep hlt
        obtain ⟨s, hs⟩ : ∃ s, s = l[j] := ⟨_, rfl⟩
        rw [← hs] at hyj hskip hkeep
        have c0 : wr.cell? ⟨g, j * 8, none⟩ = some (.int .i64 s.ev.id) := (blk_elem hB hcs hjy (r := 0) (by omega)).trans (by rw [hyj]; rfl)
        have c1 : wr.cell? ⟨g, j * 8 + 1, none⟩ = some (.string s.ev.type) := (blk_elem hB hcs hjy (by omega)).trans (by rw [hyj]; rfl)
        have c2 : wr.cell? ⟨g, j * 8 + 2, none⟩ = some (.string s.ev.data) := (blk_elem hB hcs hjy (by omega)).trans (by rw [hyj]; rfl)
        have c3 : wr.cell? ⟨g, j * 8 + 3, none⟩ = some (.float .f64 s.ev.value) := (blk_elem hB hcs hjy (by omega)).trans (by rw [hyj]; rfl)
        have c4 : wr.cell? ⟨g, j * 8 + 4, none⟩ = some (.string s.stream) := (blk_elem hB hcs hjy (by omega)).trans (by rw [hyj]; rfl)
        have c5 : wr.cell? ⟨g, j * 8 + 5, none⟩ = some (.int .i64 s.version) := (blk_elem hB hcs hjy (by omega)).trans (by rw [hyj]; rfl)
        have c6 : wr.cell? ⟨g, j * 8 + 6, none⟩ = some (.int .i64 s.position) := (blk_elem hB hcs hjy (by omega)).trans (by rw [hyj]; rfl)
        have c7 : wr.cell? ⟨g, j * 8 + 7, none⟩ = some (.int .i64 s.time) := (blk_elem hB hcs hjy (by omega)).trans (by rw [hyj]; rfl)
        have hcall := fun (W : World) (hW : Only [g] w W) => HJ.out W (hW.mono (by simp [Value.ownBlock])) s
        have hsf := stF
        clear hs hyj
        cases hq : p s with
        | true =>
          rw [hq] at hcall
          have HC := Lib.hid hcall
          have HK := Lib.hid (hskip hq)
          clear hcall hskip hkeep hK hq
          go_wp2_with (go_at_call 110; refine (HC.out _ (hO.alloc _)).mono ?_; rintro e w2 ⟨rfl, ho2⟩)
          have hB2 := ho2.blk (((Only.refl [] _).alloc _).blk hB (by simp)) (by simp)
          exact ⟨⟨i, j + 1, ys, cs, rfl, by simp, HK.out, hB2, hcs, (hO.alloc _).trans ho2.of_nil⟩, by simp [intOf]; omega⟩
        | false =>
          rw [hq] at hcall
          have HC := Lib.hid hcall
          have HK := Lib.hid (hkeep hq)
          clear hcall hskip hkeep hK hq
          have hiy : i < ys.length := by omega
          have hset := fun (W : World) (hW : Blk W g 92 cs) => blk_set8 hW hcs hiy s
          have HSet := Lib.hid hset
          obtain ⟨o, ho⟩ : ∃ o, o = ys[i] := ⟨_, rfl⟩
          have HO := Lib.hid ho
          clear hset ho
          go_wp2_with (go_at_call 110; refine (HC.out _ (hO.alloc _)).mono ?_; rintro e w2 ⟨rfl, ho2⟩
                       have hB2 := ho2.blk (((Only.refl [] _).alloc _).blk hB (by simp)) (by simp)
                       have hX2 := ho2.blk (Blk.new wr 92 _) (by simp)
                       have e0 : w2.cell? ⟨g, i * 8, none⟩ = some (.int .i64 o.ev.id) := (blk_elem hB2 hcs hiy (r := 0) (by omega)).trans (by rw [← HO.out]; rfl)
                       have e1 : w2.cell? ⟨g, i * 8 + 1, none⟩ = some (.string o.ev.type) := (blk_elem hB2 hcs hiy (by omega)).trans (by rw [← HO.out]; rfl)
                       have e2 : w2.cell? ⟨g, i * 8 + 2, none⟩ = some (.string o.ev.data) := (blk_elem hB2 hcs hiy (by omega)).trans (by rw [← HO.out]; rfl)
                       have e3 : w2.cell? ⟨g, i * 8 + 3, none⟩ = some (.float .f64 o.ev.value) := (blk_elem hB2 hcs hiy (by omega)).trans (by rw [← HO.out]; rfl)
                       have e4 : w2.cell? ⟨g, i * 8 + 4, none⟩ = some (.string o.stream) := (blk_elem hB2 hcs hiy (by omega)).trans (by rw [← HO.out]; rfl)
                       have e5 : w2.cell? ⟨g, i * 8 + 5, none⟩ = some (.int .i64 o.version) := (blk_elem hB2 hcs hiy (by omega)).trans (by rw [← HO.out]; rfl)
                       have e6 : w2.cell? ⟨g, i * 8 + 6, none⟩ = some (.int .i64 o.position) := (blk_elem hB2 hcs hiy (by omega)).trans (by rw [← HO.out]; rfl)
                       have e7 : w2.cell? ⟨g, i * 8 + 7, none⟩ = some (.int .i64 o.time) := (blk_elem hB2 hcs hiy (by omega)).trans (by rw [← HO.out]; rfl)
                       have d2 := fun i => hB2.free i
                       have d3 := fun i => hX2.cell i)
          obtain ⟨cs2, hb2, hc2⟩ := HSet.out w2 hB2
          refine ⟨⟨i + 1, j + 1, ys.set i s, cs2, by simp, by simp, HK.out, hb2, hc2, ?hw⟩, by simp [intOf]; omega⟩
          case hw =>
            iterate 8 (refine Only.setCell ?_ (.inl (by simp)) _)
            exact (hO.alloc _).trans ho2.of_nil
      · have hje : j = l.length := by omega
        have hfin : (l.filter (fun x => !p x)) = ys.take i := by
          rw [hK.done, hje, List.take_length]
        have hfl : (ys.take i).length = i := by simp; omega
        have hclr : ∀ ty, (Builtin.clear_ #[28] ty #[.slice (some ⟨g, i * 8, none⟩) (l.length - i) (cap - i)]).run Tryz.prog wr = .ok (.tuple #[]) (wr.setCells g (i * 8) (Builtin.zeroCells (Value.agg #[.int .i64 0, .string ⟨#[]⟩, .string ⟨#[]⟩, .float .f64 0, .string ⟨#[]⟩, .int .i64 0, .int .i64 0, .int .i64 0]).cells (l.length - i)).toList) := fun ty =>
          run_clearK wr 28 92 ty _ Tryz.underlying28 zeroStV zeroSt.1 8 zeroSt.2 g (i * 8) _ _ (by omega) (fun q hq => by
            rw [hB.cell, Array.getElem?_eq_getElem (by omega)]
            rfl) (fun q hq => hB.free _)
        obtain ⟨cs2, hb2, hs2, hg2⟩ := hB.sets (Builtin.zeroCells (Value.agg #[.int .i64 0, .string ⟨#[]⟩, .string ⟨#[]⟩, .float .f64 0, .string ⟨#[]⟩, .int .i64 0, .int .i64 0, .int .i64 0]).cells (l.length - i)).toList (i * 8)
        have hfrm := HF.out
        rw [hfin] at hfrm
        have htk : cs2.toList.take ((ys.take i).length * 8) = (ys.take i).flatMap StoredR.cells := by
          rw [hfl, ← flat_take]
          apply List.ext_getElem?
          intro q
          by_cases hq : q < i * 8
          · have h1 := flat_len StoredR.cells 8 ys (fun _ _ => rfl)
            rw [List.getElem?_take_of_lt hq, List.getElem?_take_of_lt hq, Array.getElem?_toList, hg2 q hq, ← Array.getElem?_toList, hcs, List.getElem?_append_left (by omega)]
          · rw [List.getElem?_eq_none (by simp; omega), List.getElem?_eq_none (by simp; omega)]
        have hown : (wr.setCells g (i * 8) (Builtin.zeroCells (Value.agg #[.int .i64 0, .string ⟨#[]⟩, .string ⟨#[]⟩, .float .f64 0, .string ⟨#[]⟩, .int .i64 0, .int .i64 0, .int .i64 0]).cells (l.length - i)).toList).ownsRow base 92 8 (.slice (some ⟨g, 0, none⟩) i cap) f.length (f.flatMap StoredR.cells) := by
          have := blk_own (xs := ys.take i) (cap := cap) hbg hb2 (by omega) (by unfold maxLen; omega) (by omega) htk
          rw [hfl] at this
          rw [hfrm, hfl]
          exact this
        have hend : Only [g] w (wr.setCells g (i * 8) (Builtin.zeroCells (Value.agg #[.int .i64 0, .string ⟨#[]⟩, .string ⟨#[]⟩, .float .f64 0, .string ⟨#[]⟩, .int .i64 0, .int .i64 0, .int .i64 0]).cells (l.length - i)).toList) := hO.setCells (.inl (by simp)) _ _
        obtain ⟨WE, hWE⟩ : ∃ WE, WE = wr.setCells g (i * 8) (Builtin.zeroCells (Value.agg #[.int .i64 0, .string ⟨#[]⟩, .string ⟨#[]⟩, .float .f64 0, .string ⟨#[]⟩, .int .i64 0, .int .i64 0, .int .i64 0]).cells (l.length - i)).toList := ⟨_, rfl⟩
        rw [← hWE] at hclr hown hend
        clear hWE hfrm htk hg2 hs2 hb2 hfin hB hcs hK HF
        go_wp2
        go_ret
        exact ⟨_, rfl, hown, hend⟩
end Go.Proofs.YteinoiicnmemhaaGreatDoor
/- Contracts: Forward, All forward. -/
set_option linter.unusedVariables false
set_option linter.unusedSimpArgs false
namespace Go.Proofs.YteinoiicnmemhaaGreatDoor
open Go.RowKit
theorem fwdGo_few (key : StoredR → Int) (f n : Int) : ∀ (l acc : List StoredR) (nx : Int), (fwdGo key f n l acc nx).events.length ≤ acc.length + l.length
  | [], acc, nx => by simp [fwdGo]
  | s :: l, acc, nx => by
    unfold fwdGo
    split
    · have := fwdGo_few key f n l acc nx
      simp
      omega
    · split
      · simp
      · have := fwdGo_few key f n l (acc ++ [s]) (key s + 1)
        simp at this ⊢
        omega
theorem forwardBy_few (key : StoredR → Int) (l : List StoredR) (f n : Int) : (forwardBy key l f n).1.events.length ≤ l.length := by
  unfold forwardBy
  split
  · simp [PageR.zero]
  · have := fwdGo_few key f n l [] f
    simpa using this
set_option maxRecDepth 100000 in
set_option maxHeartbeats 1000000 in
theorem forward_any {w : World} {v : Value} {l : List StoredR} {f n : Int} (hl : Slc w 8 v l.length (l.flatMap StoredR.cells)) (hb : l.length ≤ 1000000) (hk : ∀ s ∈ l, 0 ≤ s.position ∧ s.position ≤ 1000000000) :
    Calls Tryz.prog 113 #[v, .int .i64 f, .int .i64 n] w (PageRet w (forwardBy StoredR.position l f n)) := by
  have HFw := Lib.hid (fun (W : World) (hW : Only [] w W) => forwardP_any (f := f) (n := n) (hl.only0 hW) hb hk)
  obtain ⟨r, hr⟩ : ∃ r, r = forwardBy StoredR.position l f n := ⟨_, rfl⟩
  rw [← hr] at HFw ⊢
  obtain ⟨⟨revs, rnx, rend⟩, rerr⟩ := r
  clear hr hl hk
  go_enter Tryz.func113, Tryz.ntmps113
  go_wp2_with (go_at_call 117; refine (HFw.out _ ((Only.refl _ _).alloc _)).mono ?_; rintro e w3 ⟨v3, rfl, hown3, ho3⟩; obtain ⟨A3, cap3, rfl, _, _⟩ := own_form hown3
               have hp := ho3.blk (Blk.new w 57 _) (by simp)
               have hpc := fun i => hp.cell i
               have hpf := fun i => hp.free i)
  have hsz : w.heap.size < w3.heap.size := by have q1 := ho3.size; simp at q1; omega
  refine bodyPost_ret (v := .tuple #[.agg #[.slice A3 revs.length cap3, .int .i64 rnx, .bool rend], .int .i64 rerr]) (by simp [results, Tryz.results113, go_sem, hpc]) rfl ⟨_, rfl, ?own, ?hw⟩
  case own =>
    refine own_only (own_base hown3 (by simp)) (S := [w.heap.size]) ?_ (fun g hg => by have := (hown3.lt g hg).1; simp at this ⊢; omega)
    iterate 3 (refine Only.setCell ?_ (.inl (by simp)) _)
    exact Only.refl _ _
  case hw =>
    iterate 3 (refine Only.setCell ?_ (.inr (Nat.le_refl _)) _)
    exact ((Only.refl [] w).alloc _).trans ho3
section
variable {a w : World} {R E : List Nat} {sb mb N : Nat} {s : MS}
set_option maxRecDepth 100000 in
theorem all1_any {hb : Nat} (h : HasS a w R E sb mb s N) (hN : N ≤ 100000) (hB : Blk w hb 25 #[.pointer (some ⟨sb, 0, none⟩)]) (x : StoredR) :
    Calls Tryz.prog 110 #[.agg #[.int .i64 x.ev.id, .string x.ev.type, .string x.ev.data, .float .f64 x.ev.value, .string x.stream, .int .i64 x.version, .int .i64 x.position, .int .i64 x.time], .pointer (some ⟨hb, 0, none⟩)] w
      fun e w' => e = .returned (.bool (!s.seenAt x.position)) ∧ Only [] w w' := by
  have HS := Lib.hid (fun (W : World) (hW : Only [] w W) => has_seen (h.keep hW) hN x.position)
  have k0 := fun o => (((Only.refl [] w).alloc o).blk hB (by simp)).cell 0
  clear h hB
  go_enter Tryz.func110, Tryz.ntmps110
  go_wp2_with (go_at_call 111; refine (HS.out _ ((Only.refl _ _).alloc _)).mono ?_; rintro e w1 ⟨rfl, ho1⟩)
  go_ret
  exact ⟨rfl, ((Only.refl [] w).alloc _).trans ho1⟩
set_option maxRecDepth 100000 in
set_option maxHeartbeats 2000000 in
theorem has_all (h : HasS a w R E sb mb s N) (hN : N ≤ 100000) (f n : Int) :
    Calls Tryz.prog 79 #[.pointer (some ⟨sb, 0, none⟩), .int .i64 f, .int .i64 n, .bool false] w (PageRet w (forwardBy StoredR.position s.seenAll f n)) := by
  have hlen : s.all.length ≤ 1000000 := by have := h.ok.all; omega
  have hsl : s.seenAll.length ≤ 1000000 := by
    have : s.seenAll.length ≤ s.all.length := List.length_filter_le _ _
    omega
  have hfil : s.all.filter (fun x => !(!s.seenAt x.position)) = s.seenAll := by
    unfold MS.seenAll
    congr 1
    funext x
    simp
  have hpos : ∀ e ∈ s.seenAll, 0 ≤ e.position ∧ e.position ≤ 1000000000 := fun e he => by
    obtain ⟨i, hi, rfl⟩ := List.mem_iff_getElem.1 (List.mem_filter.1 he).1
    rw [h.inv.pos i hi]
    omega
  obtain ⟨W0, hW0⟩ : ∃ W0, W0 = (w.alloc (.cells #[.pointer (some ⟨sb, 0, none⟩)] 25)).alloc (.cells #[.slice none 0 0, .int .i64 0, .bool false] 57) := ⟨_, rfl⟩
  have hO0 : Only [] w W0 := by rw [hW0]; exact ((Only.refl [] w).alloc _).alloc _
  have hb1 : Blk W0 w.heap.size 25 #[.pointer (some ⟨sb, 0, none⟩)] := by rw [hW0]; exact ((Only.refl [] _).alloc _).blk (Blk.new w _ _) (by simp)
  have hb2 : Blk W0 (w.heap.size + 1) 57 #[.slice none 0 0, .int .i64 0, .bool false] := by
    rw [hW0]
    have := Blk.new (w.alloc (.cells #[.pointer (some ⟨sb, 0, none⟩)] 25)) 57 #[.slice none 0 0, .int .i64 0, .bool false]
    simpa using this
  have hsz0 : W0.heap.size = w.heap.size + 2 := by rw [hW0]; simp
  have hc0 := hb1.cell 0
  have h0 := h.keep hO0
  have HE := Lib.hid (has_every h0 hN)
  have HFo := Lib.hid (fun (W : World) (v : Value) (hl : Slc W 8 v s.seenAll.length (s.seenAll.flatMap StoredR.cells)) => forward_any (f := f) (n := n) hl hsl hpos)
  obtain ⟨r, hr⟩ : ∃ r, r = forwardBy StoredR.position s.seenAll f n := ⟨_, rfl⟩
  rw [← hr] at HFo ⊢
  obtain ⟨⟨revs, rnx, rend⟩, rerr⟩ := r
  clear hr hpos
  have HW := Lib.hid hW0
  clear hW0
  go_enter Tryz.func79, Tryz.ntmps79
  go_wp2_with fail
  rw [← HW.out]
  refine HE.out.mono ?_
  rintro e w1 ⟨v1, rfl, hown1, ho1⟩
  have h1 := h0.ownR ho1 hown1
  have hlt1 := hown1.lt
  obtain ⟨V1, hV1⟩ : ∃ V1, V1 = v1.ownBlock.toList := ⟨_, rfl⟩
  have hge : ∀ g ∈ V1, W0.heap.size ≤ g := fun g hg => (hlt1 g (by rw [hV1] at hg; simpa using hg)).1
  have n1 : w.heap.size ∉ V1 := fun q => by have := hge _ q; omega
  have n2 : w.heap.size + 1 ∉ V1 := fun q => by have := hge _ q; omega
  have hJ : Judges V1 w1 (.pointer (some ⟨w.heap.size, 0, none⟩)) (fun x => !s.seenAt x.position) := fun W hW x =>
    all1_any (h1.turn hW (fun g hg => by rw [hV1] at hg; simp at hg ⊢; exact .inl hg)) hN (hW.blk (ho1.blk hb1 (by simp)) n1) x
  rw [hV1] at hJ
  have hD := deleteSt_any hown1 hlen hJ
  rw [hfil, ← hV1] at hD
  have HD := Lib.hid hD
  have hb3 := ho1.blk hb2 (by simp)
  clear hD hJ h1 HE h0 hc0 hb1 hlt1 hown1
  go_wp2_with fail
  refine HD.out.mono ?_
  rintro e w2 ⟨v2, rfl, hown2, ho2⟩
  have hb4 := ho2.blk hb3 n2
  have hs2 := (Slc.of_own hown2).1
  have HF2 := Lib.hid (HFo.out w2 v2 hs2)
  clear hs2
  go_wp2_with (go_at_call 113; refine HF2.out.mono ?_; rintro e w3 ⟨v3, rfl, hown3, ho3⟩; obtain ⟨A3, cap3, rfl, _, _⟩ := own_form hown3
               have hp := ho3.blk hb4 (by simp)
               have hpc := fun i => hp.cell i
               have hpf := fun i => hp.free i)
  have z1 := ho1.size
  have z2 := ho2.size
  refine bodyPost_ret (v := .tuple #[.agg #[.slice A3 revs.length cap3, .int .i64 rnx, .bool rend], .int .i64 rerr]) (by simp [results, Tryz.results79, go_sem, hpc]) rfl ⟨_, rfl, ?own, ?hw⟩
  case own =>
    refine own_only (own_base hown3 (by omega)) (S := [w.heap.size + 1]) ?_ (fun g hg => by have := (hown3.lt g hg).1; simp; omega)
    iterate 3 (refine Only.setCell ?_ (.inl (by simp)) _)
    exact Only.refl _ _
  case hw =>
    iterate 3 (refine Only.setCell ?_ (.inr (by simp)) _)
    exact ((hO0.trans ho1).step ho2 (fun g hg => .inr (by have := hge g hg; omega))).trans ho3
end
end Go.Proofs.YteinoiicnmemhaaGreatDoor
/- Contract: the laws' walk over all pages. -/
set_option linter.unusedVariables false
set_option linter.unusedSimpArgs false
namespace Go.Proofs.YteinoiicnmemhaaGreatDoor
open Go.RowKit
theorem run_append_nothing {P : Program} (w : World) (t e ty : TypeId) (A : Option Addr) (size n cap c : Nat) (ht : P.underlying t = some (.slice e)) (hs : (Go.sizeOf e).run P w = .ok size w) (hnc : n ≤ cap) :
    (Builtin.append_ #[t, t] ty #[.slice A n cap, .slice none 0 c]).run P w = .ok (.slice A n cap) w := by
  cases A <;> simp [Builtin.append_, run_underlying ht, hs, hnc, Builtin.lenOf, Builtin.firstCells, storeCells]
section
variable {a w : World} {R E : List Nat} {sb mb N : Nat} {s : MS}
end
end Go.Proofs.YteinoiicnmemhaaGreatDoor
/- What is seen of the document's state, its streams, its pages, is what is seen of the program's. No program is named. -/
set_option linter.unusedVariables false
set_option linter.unusedSimpArgs false
namespace Go.Proofs.YteinoiicnmemhaaGreatDoor
open Go.RowKit
/-! ## names, rising -/
def ltB (x y : ByteArray) : Bool := Go.Op.bytesLess x.toList y.toList
theorem ltB_iff {x y : ByteArray} : ltB x y = true ↔ x.data.toList < y.data.toList := by
  unfold ltB
  rw [ByteArray.toList_eq, ByteArray.toList_eq, Go.Proofs.bytesLess_eq]
  simp
def RisingB (l : List ByteArray) : Prop := l.Pairwise (fun a b => a.data.toList < b.data.toList)
theorem ba_inj {a b : ByteArray} (h : a.data.toList = b.data.toList) : a = b := by
  cases a; cases b
  simp only [ByteArray.mk.injEq]
  exact Array.toList_inj.1 h
theorem rising_ext : ∀ (l m : List ByteArray), RisingB l → RisingB m → (∀ x, x ∈ l ↔ x ∈ m) → l = m
  | [], [], _, _, _ => rfl
  | [], y :: m, _, _, h => by have := (h y).2 (by simp); cases this
  | x :: l, [], _, _, h => by have := (h x).1 (by simp); cases this
  | x :: l, y :: m, h1, h2, h => by
    obtain ⟨a1, b1⟩ := List.pairwise_cons.1 h1
    obtain ⟨a2, b2⟩ := List.pairwise_cons.1 h2
    have hxy : x = y := by
      apply Classical.byContradiction
      intro e
      have p1 := (h x).1 (by simp)
      have p2 := (h y).2 (by simp)
      rcases List.mem_cons.1 p1 with q | q
      · exact e q
      · rcases List.mem_cons.1 p2 with q2 | q2
        · exact e q2.symm
        · exact absurd (List.lt_trans (a1 y q2) (a2 x q)) (List.lt_irrefl _)
    subst hxy
    congr 1
    refine rising_ext l m b1 b2 (fun z => ?_)
    have hz := h z
    simp only [List.mem_cons] at hz
    constructor
    · intro q
      rcases hz.1 (.inr q) with e | e
      · subst e; exact absurd (a1 z q) (List.lt_irrefl _)
      · exact e
    · intro q
      rcases hz.2 (.inr q) with e | e
      · subst e; exact absurd (a2 z q) (List.lt_irrefl _)
      · exact e
def placeS (out : List ByteArray) (s : ByteArray) : Nat := out.findIdx (fun x => !ltB x s)
def insS (out : List ByteArray) (s : ByteArray) : List ByteArray := if out[placeS out s]? = some s then out else out.take (placeS out s) ++ s :: out.drop (placeS out s)
def streamsD (l : List StoredR) : List ByteArray := l.foldl (fun out e => insS out e.stream) []
theorem insS_spec {l : List ByteArray} (h : RisingB l) (s : ByteArray) : RisingB (insS l s) ∧ ∀ x, x ∈ insS l s ↔ x = s ∨ x ∈ l := by
  unfold insS
  obtain ⟨k, hk⟩ : ∃ k, k = placeS l s := ⟨_, rfl⟩
  rw [← hk]
  split
  · rename_i q
    have hs : s ∈ l := List.mem_of_getElem? q
    exact ⟨h, fun x => ⟨.inr, fun e => e.elim (fun e => by rw [e]; exact hs) id⟩⟩
  · rename_i q
    have h1 : ∀ x ∈ l.take k, x.data.toList < s.data.toList := fun x hx => by
      obtain ⟨j, hj, rfl⟩ := List.getElem_of_mem hx
      have hj2 : j < k := by simp at hj; omega
      rw [List.getElem_take]
      have := List.not_of_lt_findIdx (by unfold placeS at hk; rw [← hk]; exact hj2)
      simp at this
      exact ltB_iff.1 this
    have h2 : ∀ x ∈ l.drop k, s.data.toList < x.data.toList := fun x hx => by
      have hkl : k < l.length := by
        rcases Nat.lt_or_ge k l.length with q | q
        · exact q
        · rw [List.drop_of_length_le q] at hx; cases hx
      have hk0 := List.findIdx_getElem (p := fun x => !ltB x s) (xs := l) (w := by unfold placeS at hk; rw [← hk]; exact hkl)
      have hk' : List.findIdx (fun x => !ltB x s) l = k := hk.symm
      simp only [hk'] at hk0
      have hk1 : ¬ l[k].data.toList < s.data.toList := fun q => by
        have := ltB_iff.2 q
        rw [this] at hk0
        cases hk0
      have hk2 : s.data.toList < l[k].data.toList := by
        rcases List.le_iff_lt_or_eq.1 (List.not_lt.1 hk1) with q3 | q3
        · exact q3
        · exact absurd (by rw [List.getElem?_eq_getElem hkl, ba_inj q3]) q
      rw [List.drop_eq_getElem_cons hkl] at hx
      rcases List.mem_cons.1 hx with e | hx
      · rw [e]; exact hk2
      · obtain ⟨j, hj, rfl⟩ := List.getElem_of_mem hx
        have hj2 : k + 1 + j < l.length := by simp at hj; omega
        have h9 := List.pairwise_iff_getElem.1 h k (k + 1 + j) hkl hj2 (by omega)
        rw [List.getElem_drop]
        exact List.lt_trans hk2 h9
    refine ⟨?_, fun x => ?_⟩
    · refine List.pairwise_append.2 ⟨h.sublist (List.take_sublist _ _), List.pairwise_cons.2 ⟨h2, h.sublist (List.drop_sublist _ _)⟩, fun a ha b hb => ?_⟩
      rcases List.mem_cons.1 hb with e | hb
      · rw [e]; exact h1 a ha
      · exact List.lt_trans (h1 a ha) (h2 b hb)
    · rw [List.mem_append, List.mem_cons]
      have e : x ∈ l ↔ x ∈ l.take k ∨ x ∈ l.drop k := by rw [← List.mem_append, List.take_append_drop]
      rw [e]
      constructor
      · rintro (q | q | q)
        · exact .inr (.inl q)
        · exact .inl q
        · exact .inr (.inr q)
      · rintro (q | q | q)
        · exact .inr (.inl q)
        · exact .inl q
        · exact .inr (.inr q)
theorem streamsGo : ∀ (l : List StoredR) (out : List ByteArray), RisingB out → RisingB (l.foldl (fun out e => insS out e.stream) out) ∧ ∀ x, x ∈ l.foldl (fun out e => insS out e.stream) out ↔ (∃ e ∈ l, e.stream = x) ∨ x ∈ out
  | [], out, h => ⟨h, fun x => by simp⟩
  | e :: l, out, h => by
    obtain ⟨a, b⟩ := insS_spec h e.stream
    obtain ⟨c, d⟩ := streamsGo l (insS out e.stream) a
    refine ⟨c, fun x => ?_⟩
    rw [List.foldl_cons, d x, b x]
    constructor
    · rintro (⟨f, hf, q⟩ | q | q)
      · exact .inl ⟨f, by simp [hf], q⟩
      · exact .inl ⟨e, by simp, q.symm⟩
      · exact .inr q
    · rintro (⟨f, hf, q⟩ | q)
      · rcases List.mem_cons.1 hf with e2 | hf
        · subst e2; exact .inr (.inl q.symm)
        · exact .inl ⟨f, hf, q⟩
      · exact .inr (.inr q)
def sortB (l : List ByteArray) : List ByteArray := ((l.map fun s => s.data.toList).mergeSort (fun x y => decide (x ≤ y))).map fun l => ⟨l.toArray⟩
theorem sortB_mem (l : List ByteArray) (x : ByteArray) : x ∈ sortB l ↔ x ∈ l := by
  unfold sortB
  rw [List.mem_map]
  constructor
  · rintro ⟨z, hz, rfl⟩
    have hz := (List.mergeSort_perm _ _).mem_iff.1 hz
    obtain ⟨y, hy, rfl⟩ := List.mem_map.1 hz
    simpa using hy
  · intro h
    exact ⟨x.data.toList, (List.mergeSort_perm _ _).mem_iff.2 (List.mem_map.2 ⟨x, h, rfl⟩), by simp⟩
theorem sortB_rising {l : List ByteArray} (h : l.Nodup) : RisingB (sortB l) := by
  unfold sortB RisingB
  rw [List.pairwise_map]
  have hs : ((l.map fun s => s.data.toList).mergeSort (fun x y => decide (x ≤ y))).Pairwise (fun x y => decide (x ≤ y) = true) :=
    List.pairwise_mergeSort (fun a b c h1 h2 => by simp at *; exact List.le_trans h1 h2) (fun a b => by simp; exact List.le_total a b) _
  have hd : ((l.map fun s => s.data.toList).mergeSort (fun x y => decide (x ≤ y))).Nodup := by
    refine (List.mergeSort_perm _ _).nodup_iff.2 ?_
    exact List.Pairwise.map _ (fun a b hab q => hab (ba_inj q)) h
  refine (hs.and hd).imp ?_
  rintro a b ⟨h1, h2⟩
  simp only [List.toList_toArray]
  exact (List.le_iff_lt_or_eq.1 (by simpa using h1)).resolve_right h2
/-- The program's streams. -/
def MS.streamsP (s : MS) : List ByteArray := (sortB (s.m.map (·.1))).filter (fun n => !decide ((s.find n).places.length = 0))
section
variable {s : MS} {r : RS} {N : Nat} {n : ByteArray}
theorem Alike.streams (h : Alike s r) (h2 : s.Inv2) (hn : (s.m.map (·.1)).Nodup) : streamsD r.l = s.streamsP := by
  obtain ⟨a, b⟩ := streamsGo r.l [] List.Pairwise.nil
  refine rising_ext _ _ a ((sortB_rising hn).filter _) (fun x => ?_)
  rw [show streamsD r.l = r.l.foldl (fun out e => insS out e.stream) [] from rfl, b x]
  unfold MS.streamsP
  rw [List.mem_filter, sortB_mem]
  have hpl := h2.1 x
  constructor
  · rintro (⟨e, he, hx⟩ | q)
    · have hf : e ∈ s.all.filter (fun e => decide (e.stream = x)) := List.mem_filter.2 ⟨by rw [← h.l]; exact he, by simpa using hx⟩
      rw [← hpl] at hf
      have hl : (s.find x).places.length ≠ 0 := fun q => by
        rw [List.length_eq_zero_iff] at q
        rw [q] at hf
        cases hf
      refine ⟨?_, by simpa using hl⟩
      cases hq : aget s.m x with
      | none =>
        refine absurd ?_ hl
        unfold MS.find
        rw [hq]
        rfl
      | some v => exact List.mem_map.2 ⟨(x, v), aget_mem hq, rfl⟩
    · cases q
  · rintro ⟨_, hl⟩
    left
    have hl : (s.find x).places.length ≠ 0 := by simpa using hl
    have hne : (s.find x).places.map (evAt s.all) ≠ [] := fun q => hl (by rw [List.map_eq_nil_iff] at q; rw [q]; rfl)
    rw [hpl] at hne
    obtain ⟨e, he⟩ := List.exists_mem_of_ne_nil _ hne
    obtain ⟨h3, h4⟩ := List.mem_filter.1 he
    exact ⟨e, by rw [h.l]; exact h3, by simpa using h4⟩
/-! ## what is seen -/
def RS.seenP (r : RS) (n : ByteArray) (e : StoredR) : Bool := (decide (n.toList = []) || decide (e.stream = n)) && !(r.get e.stream).deleted && decide (r.floor e.stream ≤ e.version)
def RS.seenD (r : RS) (n : ByteArray) : List StoredR := r.l.filter (r.seenP n)
def RS.wantSeen (r : RS) (i : Int) : Bool := if i < 0 ∨ (r.l.length : Int) ≤ i then false else !(r.get (evAt r.l i).stream).deleted && decide (r.floor (evAt r.l i).stream ≤ (evAt r.l i).version)
theorem Alike.seen (h : Alike s r) (h2 : s.Inv2) (i : Int) : r.wantSeen i = s.seenAt i := by
  unfold RS.wantSeen MS.seenAt
  rw [h.l, h.del, h.floor h2]
theorem Alike.seenAll (h : Alike s r) (hi : s.Inv) (h2 : s.Inv2) (hn : n.toList = []) : r.seenD n = s.seenAll := by
  unfold RS.seenD MS.seenAll
  rw [h.l]
  refine List.filter_congr fun e he => ?_
  rw [seenAt_of hi he]
  unfold RS.seenP
  rw [h.del, h.floor h2, decide_eq_true hn]
  simp
theorem Alike.seenS (h : Alike s r) (hi : s.Inv) (h2 : s.Inv2) (hn : n.toList ≠ []) : r.seenD n = s.seenL n := by
  rw [seenL_filter hi h2]
  unfold RS.seenD MS.seenAll
  rw [List.filter_filter, h.l]
  refine List.filter_congr fun e he => ?_
  rw [seenAt_of hi he]
  unfold RS.seenP
  rw [h.del, h.floor h2, decide_eq_false hn]
  simp [Bool.and_assoc]
/-! ## pages -/
def bwdGo (key : StoredR → Int) (f n : Int) : List StoredR → List StoredR → Int → PageR
  | [], acc, nx => ⟨acc, nx, true⟩
  | s :: l, acc, nx => if f < key s then bwdGo key f n l acc nx else if (acc.length : Int) = n then ⟨acc, nx, false⟩ else bwdGo key f n l (acc ++ [s]) (max (key s) 0 - 1)
def pageBy (key : StoredR → Int) (l : List StoredR) (f n : Int) (back : Bool) : PageR × Int :=
  if wrongP f n then (PageR.zero, 1) else (if back then bwdGo key f n l.reverse [] f else fwdGo key f n l [] f, 0)
def MS.readP (s : MS) (n : ByteArray) (f k : Int) (back : Bool) : PageR × Int :=
  if (nameOk n && decide (0 ≤ f) && decide (1 ≤ k) && decide (k ≤ 100)) = false then (PageR.zero, 1) else if (s.find n).deleted then (PageR.zero, 23) else if (s.find n).places.length = 0 then (PageR.zero, 8) else pageBy StoredR.version (s.seenL n) f k back
def RS.readD (r : RS) (n : ByteArray) (f k : Int) (back : Bool) : PageR × Int :=
  if (nameOk n && decide (0 ≤ f) && decide (1 ≤ k) && decide (k ≤ 100)) = false then (PageR.zero, 1) else if (r.get n).deleted then (PageR.zero, 23) else if (r.of n).length = 0 then (PageR.zero, 8) else pageBy StoredR.version (r.seenD n) f k back
theorem name_some {n : ByteArray} (h : nameOk n = true) : n.toList ≠ [] := fun q => by
  unfold nameOk at h
  simp only [Bool.and_eq_true, decide_eq_true_eq] at h
  have h1 := h.1.1
  rw [ByteArray.toList_eq] at q
  have : n.size = n.data.toList.length := by simp
  rw [this, q] at h1
  simp at h1
theorem Alike.read (h : Alike s r) (hi : s.Inv) (h2 : s.Inv2) (f k : Int) (back : Bool) : r.readD n f k back = s.readP n f k back := by
  unfold RS.readD MS.readP
  rw [h.del, h.len h2]
  cases hq : (nameOk n && decide (0 ≤ f) && decide (1 ≤ k) && decide (k ≤ 100)) with
  | false => rfl
  | true =>
    have hn : nameOk n = true := by
      cases hb : nameOk n with
      | true => rfl
      | false => rw [hb] at hq; simp at hq
    rw [h.seenS hi h2 (name_some hn)]
/-! ## one event -/
end
end Go.Proofs.YteinoiicnmemhaaGreatDoor
/- The document's state in memory; the base of its contracts: rows, appends, blocks that turn. -/
set_option linter.unusedVariables false
set_option linter.unusedSimpArgs false
namespace Go.Proofs.YteinoiicnmemhaaGreatDoor
open Go Go.RowKit Go.Sort
theorem slc_new1 {w : World} {e : TypeId} {size : Nat} {cs : List Value} (hs : cs.length = 1 * size) : Slc (w.alloc (.cells cs.toArray e)) size (.slice (some ⟨w.heap.size, 0, none⟩) 1 1) 1 cs := by
  have hb := Blk.new w e cs.toArray
  refine ⟨_, 1, rfl, hs, Nat.le_refl _, by simp [maxLen], fun _ => ⟨w.heap.size, 0, rfl, hb.lt, fun j hj => ?_⟩⟩
  rw [Nat.zero_add, hb.cell j]
  simp
theorem slc_take {w : World} {size n cap k : Nat} {A : Option Addr} {cs : List Value} (h : Slc w size (.slice A n cap) n cs) (hk : k ≤ n) : Slc w size (.slice A k cap) k (cs.take (k * size)) := by
  obtain ⟨A', cap', e, h1, h2, h3, h4⟩ := h
  injection e with e1 e2 e3
  subst e1 e3
  have hm : k * size ≤ n * size := Nat.mul_le_mul_right _ hk
  refine ⟨A, cap, rfl, by rw [List.length_take, h1]; omega, by omega, h3, fun hn => ?_⟩
  obtain ⟨b, off, rfl, hb, hc⟩ := h4 (by omega)
  refine ⟨b, off, rfl, hb, fun j hj => ?_⟩
  rw [List.length_take] at hj
  rw [hc j (by omega), List.getElem?_take, if_pos (by omega)]
theorem run_append_zero {P : Program} (w : World) (t e ty : TypeId) (A B : Option Addr) (size n cap c : Nat) (ht : P.underlying t = some (.slice e)) (hs : (Go.sizeOf e).run P w = .ok size w) (hnc : n ≤ cap) :
    (Builtin.append_ #[t, t] ty #[.slice A n cap, .slice B 0 c]).run P w = .ok (.slice A n cap) w := by
  cases A <;> cases B <;> simp [Builtin.append_, run_underlying ht, hs, hnc, Builtin.lenOf, Builtin.firstCells, storeCells, loadCells, loadCellsFrom]
theorem run_app {P : Program} {w : World} (t ty : TypeId) (base : Nat) (e : TypeId) (z : Value) (size bytes : Nat) (ht : P.underlying t = some (.slice e)) (hi : (P.info? e).map (fun i => (i.zero, i.size, i.bytes)) = some (some z, size, bytes))
    (hzs : z.cells.size = size) (hsz : 0 < size) {v : Value} {n : Nat} {xs : List Value} (hown : w.ownsRow base e size v n xs) {u : Value} {m : Nat} {cells : List Value} (hsl : Slc w size u m cells)
    (h1 : ∀ u ∈ cells, u.oneCell' = true) (hb : (n + m) * bytes ≤ 140737488355328) (hm : n + m ≤ maxLen) (hbase : base ≤ w.heap.size) :
    ∃ A cap w', (Builtin.append_ #[t, t] ty #[v, u]).run P w = .ok (.slice A (n + m) cap) w' ∧ w'.ownsRow base e size (.slice A (n + m) cap) (n + m) (xs ++ cells) ∧ Only v.ownBlock.toList w w' ∧
      ∀ g, (Value.slice A (n + m) cap).ownBlock = some g → v.ownBlock = some g ∨ w.heap.size ≤ g := by
  obtain ⟨i, hi1, hi2, hi3, hi4⟩ := info_parts hi
  obtain ⟨B, c, rfl, hl, hc1, hc2, hc⟩ := hsl
  by_cases h0 : m = 0
  · subst h0
    have hcn : cells = [] := List.eq_nil_of_length_eq_zero (by rw [hl]; simp)
    subst hcn
    obtain ⟨A, cap, rfl, hnc, _⟩ := own_form hown
    have hs : (Go.sizeOf e).run P w = .ok size w := by simp [Go.sizeOf, typeInfo, hi1, hi3]
    exact ⟨A, cap, w, run_append_zero w t e ty A B size n cap c ht hs hnc, by simpa using hown, Only.refl _ _, fun g hg => .inl hg⟩
  · obtain ⟨b, off, rfl, hb1, hcc⟩ := hc (by omega)
    obtain ⟨g, cap, w', hr, h2, h3, h4, _⟩ := run_append_lies (P := P) w t ty base e i z size bytes ht hi1 hi2 hi3 hi4 hzs hsz v n xs hown ⟨b, off, none⟩ m c cells hl (fun j x hx => by
      have hj : j < cells.length := (List.getElem?_eq_some_iff.1 hx).1
      rw [show ((⟨b, off, none⟩ : Addr).add j) = ⟨b, off + j, none⟩ by simp [Addr.add], hcc j hj, hx]) h1 (by omega) hm hb hbase w.heap.size rfl
    refine ⟨_, cap, w', hr, h2, (Only.refl _ _).grown h3 (fun k hk => .inl (by simp [hk])), fun x hx => ?_⟩
    have hx' : g = x := by simpa [Value.ownBlock] using hx
    subst hx'
    rcases h4 with h4 | h4
    · exact .inl h4
    · exact .inr (by omega)
theorem toList_decJ (a b : ByteArray) : (a.toList == b.toList) = decide (a = b) := by
  rw [ByteArray.toList_eq, ByteArray.toList_eq]
  by_cases h : a = b
  · rw [h]; simp
  · rw [decide_eq_false h, beq_eq_false_iff_ne]
    exact fun e => h (ba_inj e)
/-- From w to w' only blocks of H turned; those of H' are of H or new. -/
structure Stepped (w w' : World) (H H' : List Nat) : Prop where
  only : ∃ S, Only S w w' ∧ ∀ b ∈ S, b ∈ H
  blk : ∀ b ∈ H', b ∈ H ∨ w.heap.size ≤ b
section
variable {a w w' w'' : World} {H H' H'' : List Nat}
theorem Stepped.refl (w : World) (H : List Nat) : Stepped w w H H := ⟨⟨[], Only.refl _ _, by simp⟩, fun b hb => .inl hb⟩
theorem Stepped.size (h : Stepped w w' H H') : w.heap.size ≤ w'.heap.size := by
  obtain ⟨⟨S, h1, _⟩, _⟩ := h
  exact h1.size
theorem Stepped.trans (h : Stepped w w' H H') (k : Stepped w' w'' H' H'') : Stepped w w'' H H'' := by
  have hz := h.size
  obtain ⟨⟨S, h1, h2⟩, h3⟩ := h
  obtain ⟨⟨T, k1, k2⟩, k3⟩ := k
  refine ⟨⟨S ++ T.filter (fun b => decide (b < w.heap.size)), ?_, fun b hb => ?_⟩, fun b hb => ?_⟩
  · refine (h1.mono (fun b hb => List.mem_append_left _ hb)).step k1 (fun b hb => ?_)
    by_cases q : b < w.heap.size
    · exact .inl (List.mem_append_right _ (List.mem_filter.2 ⟨hb, by simpa using q⟩))
    · exact .inr (by omega)
  · rcases List.mem_append.1 hb with q | q
    · exact h2 b q
    · obtain ⟨q1, q2⟩ := List.mem_filter.1 q
      rcases h3 b (k2 b q1) with q3 | q3
      · exact q3
      · have : b < w.heap.size := by simpa using q2
        omega
  · rcases k3 b hb with q | q
    · exact h3 b q
    · exact .inr (by omega)
theorem Stepped.then0 (h : Stepped w w' H H') (k : Only [] w' w'') : Stepped w w'' H H' := h.trans ⟨⟨[], k, by simp⟩, fun b hb => .inl hb⟩
theorem Stepped.of {S : List Nat} (k : Only S w w') (hS : ∀ b ∈ S, b ∈ H) (hb : ∀ b ∈ H', b ∈ H ∨ w.heap.size ≤ b) : Stepped w w' H H' := ⟨⟨S, k, hS⟩, hb⟩
/-- Above the world a. -/
theorem Stepped.above (h : Stepped w w' H H') (ha : Only [] a w) (hH : ∀ b ∈ H, a.heap.size ≤ b) : Only [] a w' ∧ ∀ b ∈ H', a.heap.size ≤ b := by
  obtain ⟨⟨S, h1, h2⟩, h3⟩ := h
  refine ⟨ha.step h1 (fun b hb => .inr (hH b (h2 b hb))), fun b hb => ?_⟩
  rcases h3 b hb with q | q
  · exact hH b q
  · exact Nat.le_trans ha.size q
end
def DStr.cells (x : DStr) : List Value := [.string x.name, .int .i64 x.mt.maxCount, .int .i64 x.mt.maxAge, .int .i64 x.mt.before, .int .i64 x.kept, .bool x.deleted]
def dcells (l : List DStr) : List Value := l.flatMap DStr.cells
/-- The document's state r lies in block rb, its events in vl, its streams in vs. -/
structure DocAt (w : World) (rb : Nat) (vl vs : Value) (r : RS) : Prop where
  blk : Blk w rb 31 #[vl, vs, .int .i64 r.now, .int .i64 r.done]
  l : w.ownsRow 0 92 8 vl r.l.length (r.l.flatMap StoredR.cells)
  s : w.ownsRow 0 82 6 vs r.s.length (dcells r.s)
def hD (rb : Nat) (vl vs : Value) : List Nat := rb :: (vl.ownBlock.toList ++ vs.ownBlock.toList)
structure HasD (a w : World) (H : List Nat) (rb : Nat) (r : RS) : Prop where
  din : ∃ vl vs, DocAt w rb vl vs r ∧ H = hD rb vl vs
  only : Only [] a w
  above : ∀ b ∈ H, a.heap.size ≤ b
def DTo (a w : World) (H : List Nat) (rb : Nat) (r : RS) (w' : World) : Prop := ∃ H', HasD a w' H' rb r ∧ Stepped w w' H H'
section
variable {a w w' w'' : World} {H H' S : List Nat} {rb : Nat} {vl vs : Value} {r : RS}
theorem DocAt.lt (h : DocAt w rb vl vs r) : ∀ b ∈ hD rb vl vs, b < w.heap.size := by
  intro b hb
  simp only [hD, List.mem_cons, List.mem_append, Option.mem_toList] at hb
  rcases hb with rfl | q | q
  · exact h.blk.lt
  · exact (h.l.lt b q).2
  · exact (h.s.lt b q).2
theorem DocAt.only (h : DocAt w rb vl vs r) (k : Only S w w') (hd : ∀ b ∈ hD rb vl vs, b ∉ S) : DocAt w' rb vl vs r :=
  ⟨k.blk h.blk (hd rb (by simp [hD])), own_only h.l k (fun g hg => hd g (by simp [hD, hg])), own_only h.s k (fun g hg => hd g (by simp [hD, hg]))⟩
theorem DocAt.only0 (h : DocAt w rb vl vs r) (k : Only [] w w') : DocAt w' rb vl vs r := h.only k (by simp)
theorem DocAt.ne (h : DocAt w rb vl vs r) : (∀ g, vl.ownBlock = some g → g ≠ rb) ∧ (∀ g, vs.ownBlock = some g → g ≠ rb) ∧ ∀ g, vl.ownBlock = some g → vs.ownBlock ≠ some g := by
  refine ⟨fun g hg => ?_, fun g hg => ?_, fun g hg q => ?_⟩
  · obtain ⟨cur, hc⟩ := own_type h.l hg
    exact hc.other h.blk (by decide)
  · obtain ⟨cur, hc⟩ := own_type h.s hg
    exact hc.other h.blk (by decide)
  · obtain ⟨c1, hc1⟩ := own_type h.l hg
    obtain ⟨c2, hc2⟩ := own_type h.s q
    exact hc1.other hc2 (by decide) rfl
theorem HasD.lt (h : HasD a w H rb r) : ∀ b ∈ H, b < w.heap.size := by
  obtain ⟨⟨vl, vs, h1, rfl⟩, _⟩ := h
  exact h1.lt
theorem HasD.keep (h : HasD a w H rb r) (k : Only S w w') (ha : ∀ b ∈ S, a.heap.size ≤ b) (hS : ∀ b ∈ H, b ∉ S) : HasD a w' H rb r := by
  obtain ⟨⟨vl, vs, h1, rfl⟩, ho, hab⟩ := h
  exact ⟨⟨vl, vs, h1.only k hS, rfl⟩, ho.step k (fun i hi => .inr (ha i hi)), hab⟩
theorem HasD.keep0 (h : HasD a w H rb r) (k : Only [] w w') : HasD a w' H rb r := h.keep k (by simp) (by simp)
theorem DTo.refl (h : HasD a w H rb r) : DTo a w H rb r w := ⟨H, h, Stepped.refl _ _⟩
theorem DTo.trans (h : Stepped w w' H H') (k : DTo a w' H' rb r w'') : DTo a w H rb r w'' := by
  obtain ⟨H2, k1, k2⟩ := k
  exact ⟨H2, k1, h.trans k2⟩
/-- What is read of a state: its fields, each event, each stream. -/
theorem DocAt.open (h : DocAt w rb vl vs r) : ∃ Al cl As cs, vl = .slice Al r.l.length cl ∧ vs = .slice As r.s.length cs ∧ r.l.length ≤ cl ∧ cl ≤ maxLen ∧ r.s.length ≤ cs ∧ cs ≤ maxLen ∧
    (∀ j (hj : j < r.l.length), ∃ b off, Al = some ⟨b, off, none⟩ ∧ b < w.heap.size ∧ ∀ i, i < 8 → w.cell? ⟨b, off + j * 8 + i, none⟩ = (r.l[j].cells)[i]?) ∧
    (∀ j (hj : j < r.s.length), ∃ b off, As = some ⟨b, off, none⟩ ∧ b < w.heap.size ∧ ∀ i, i < 6 → w.cell? ⟨b, off + j * 6 + i, none⟩ = (r.s[j].cells)[i]?) := by
  obtain ⟨Al, cl, e1, q1, q2, q3⟩ := (Slc.of_own h.l).1.openE StoredR.cells (fun _ => rfl)
  obtain ⟨As, cs, e2, q4, q5, q6⟩ := (Slc.of_own h.s).1.openE DStr.cells (fun _ => rfl)
  exact ⟨Al, cl, As, cs, e1, e2, q1, q2, q4, q5, q3, q6⟩
end
end Go.Proofs.YteinoiicnmemhaaGreatDoor
/- Contracts of the document's state: fits, stream, Get, Of. -/
set_option linter.unusedVariables false
set_option linter.unusedSimpArgs false
namespace Go.Proofs.YteinoiicnmemhaaGreatDoor
open Go Go.RowKit Go.Sort
section
variable {a w : World} {H : List Nat} {rb : Nat} {r : RS}
theorem stored_one (l : List StoredR) : ∀ u ∈ l.flatMap StoredR.cells, u.oneCell' = true := by
  intro u hu
  obtain ⟨x, _, hx⟩ := List.mem_flatMap.1 hu
  simp [StoredR.cells, EventR.cells] at hx
  rcases hx with rfl | rfl | rfl | rfl | rfl | rfl | rfl | rfl <;> rfl
def DStr.val (x : DStr) : Value := .agg #[.string x.name, .int .i64 x.mt.maxCount, .int .i64 x.mt.maxAge, .int .i64 x.mt.before, .int .i64 x.kept, .bool x.deleted]
end
end Go.Proofs.YteinoiicnmemhaaGreatDoor
/- Contracts of the document's state: a floor. -/
set_option linter.unusedVariables false
set_option linter.unusedSimpArgs false
namespace Go.Proofs.YteinoiicnmemhaaGreatDoor
open Go Go.RowKit Go.Sort
end Go.Proofs.YteinoiicnmemhaaGreatDoor
/- Contracts of the document's state: Floor, put, keep. -/
set_option linter.unusedVariables false
set_option linter.unusedSimpArgs false
namespace Go.Proofs.YteinoiicnmemhaaGreatDoor
open Go Go.RowKit Go.Sort
section
variable {a w : World} {H : List Nat} {rb : Nat} {r : RS}
end
end Go.Proofs.YteinoiicnmemhaaGreatDoor
/- Contract of the document's Seen. -/
set_option linter.unusedVariables false
set_option linter.unusedSimpArgs false
namespace Go.Proofs.YteinoiicnmemhaaGreatDoor
open Go Go.RowKit Go.Sort
/-- What the contracts ask of the document's state. -/
structure RS.Fine (r : RS) : Prop where
  few : r.l.length ≤ 1000000
  mt : ∀ n, (r.get n).mt.ok = true
  kept : ∀ n, 0 ≤ (r.get n).kept ∧ (r.get n).kept ≤ 1000000000
  now : 0 ≤ r.now ∧ r.now ≤ 1099511627776
section
variable {a w : World} {H : List Nat} {rb : Nat} {r : RS}
end
end Go.Proofs.YteinoiicnmemhaaGreatDoor
/- Contract of the document's page, forward. -/
set_option linter.unusedVariables false
set_option linter.unusedSimpArgs false
namespace Go.Proofs.YteinoiicnmemhaaGreatDoor
open Go Go.RowKit Go.Sort
end Go.Proofs.YteinoiicnmemhaaGreatDoor
/- Contract of the document's page, backward. -/
set_option linter.unusedVariables false
set_option linter.unusedSimpArgs false
namespace Go.Proofs.YteinoiicnmemhaaGreatDoor
open Go Go.RowKit Go.Sort
end Go.Proofs.YteinoiicnmemhaaGreatDoor
/- Contracts of the document's Page and All. -/
set_option linter.unusedVariables false
set_option linter.unusedSimpArgs false
namespace Go.Proofs.YteinoiicnmemhaaGreatDoor
open Go Go.RowKit Go.Sort
end Go.Proofs.YteinoiicnmemhaaGreatDoor
/- Contract of the document's All. -/
set_option linter.unusedVariables false
set_option linter.unusedSimpArgs false
namespace Go.Proofs.YteinoiicnmemhaaGreatDoor
open Go Go.RowKit Go.Sort
section
variable {a w : World} {H : List Nat} {rb : Nat} {r : RS}
end
end Go.Proofs.YteinoiicnmemhaaGreatDoor
/- Contracts of the document's state: put, keep. -/
set_option linter.unusedVariables false
set_option linter.unusedSimpArgs false
namespace Go.Proofs.YteinoiicnmemhaaGreatDoor
open Go Go.RowKit Go.Sort
section
variable {a w : World} {H : List Nat} {rb : Nat} {r : RS}
end
end Go.Proofs.YteinoiicnmemhaaGreatDoor
/- Contracts: the document's Of, Canon; SamePage of pages that are the same. -/
set_option linter.unusedVariables false
set_option linter.unusedSimpArgs false
namespace Go.Proofs.YteinoiicnmemhaaGreatDoor
open Go Go.RowKit Go.Sort
end Go.Proofs.YteinoiicnmemhaaGreatDoor
/- Opening []api.Command. -/
set_option linter.unusedVariables false
set_option linter.unusedSimpArgs false
namespace Go.Proofs.YteinoiicnmemhaaGreatDoor
open Go.ChangeShapes Go.WideShapes Go.ChangeAt Go.RowKit Go.WideElems Go.ChangeMaps Go.Deep Go.Sort
/-- A command, and the slice of its events. -/
structure CmdV where
  c : Cmd
  ev : Value
def CmdV.cells (x : CmdV) : List Value := [.int .i64 x.c.kind, .int .i64 x.c.time, .string x.c.stream, .int .i64 x.c.expected, x.ev, .int .i64 x.c.mt.maxCount, .int .i64 x.c.mt.maxAge, .int .i64 x.c.mt.before]
structure CmdV.Ok (W : World) (x : CmdV) : Prop where
  ok : CmdOk x.c
  slc : Slc W 4 x.ev x.c.events.length (x.c.events.flatMap EventR.cells)
  own : ∀ g, x.ev.ownBlock = some g → g < W.heap.size ∨ x.c.events = []
theorem cellsI : Tryz.prog.cellsOf 3 = 1 := by kernel_rfl
theorem cellsS : Tryz.prog.cellsOf 9 = 1 := by kernel_rfl
theorem cellsF : Tryz.prog.cellsOf 88 = 1 := by kernel_rfl
theorem cellsEv : Tryz.prog.cellsOf 90 = 4 := by kernel_rfl
theorem cellsEvs : Tryz.prog.cellsOf 36 = 1 := by kernel_rfl
theorem cellsMt : Tryz.prog.cellsOf 38 = 3 := by kernel_rfl
theorem cellsCmd : Tryz.prog.cellsOf 40 = 8 := by kernel_rfl
section
variable {H : Type} {enc : TypeId × Value → H} {W : World}
theorem trod_float {P : Program} {base : Nat} {spare : Nat → Bool} {held : Bool} {fuel : Nat} {t : TypeId} {cs : List Value} {x : DataW H × List MemPlace} (ht : P.underlying t = some (.float .f64)) (h : DataW.trod enc P W base spare held fuel t cs = some x) : ∃ b, cs = [.float .f64 b] := by
  cases fuel with
  | zero => simp [DataW.trod] at h
  | succ n =>
    unfold DataW.trod at h
    rw [ht] at h
    split at h <;> simp_all
theorem one_at {cs : List Value} {i : Nat} {v : Value} (h : (cs.drop i).take 1 = [v]) : cs[i]? = some v := by
  have : ((cs.drop i).take 1)[0]? = some v := by rw [h]; rfl
  rw [List.getElem?_take] at this
  simpa using this
theorem open_ev (n : Nat) (cs : List Value) (x : DataW H × List MemPlace) (h : DataW.trod enc Tryz.prog W 0 (fun _ => true) true n 90 cs = some x) (hlt : ∀ y ∈ x.2, y.block < W.heap.size) :
    ∃ e : EventR, cs = e.cells ∧ (e.type.size ≤ maxLen ∧ e.data.size ≤ maxLen) := by
  obtain ⟨xs, m, _, hx, hl, hlen, hf⟩ := DataW.trod_struct Tryz.underlying90 h
  rw [cellsEv] at hl
  have g0 : DataW.trod enc Tryz.prog W 0 (fun _ => true) true m 3 ((cs.drop 0).take (Tryz.prog.cellsOf 3)) = xs[0]? := hf 0 _ rfl
  have g1 : DataW.trod enc Tryz.prog W 0 (fun _ => true) true m 9 ((cs.drop 1).take (Tryz.prog.cellsOf 9)) = xs[1]? := hf 1 _ rfl
  have g2 : DataW.trod enc Tryz.prog W 0 (fun _ => true) true m 9 ((cs.drop 2).take (Tryz.prog.cellsOf 9)) = xs[2]? := hf 2 _ rfl
  have g3 : DataW.trod enc Tryz.prog W 0 (fun _ => true) true m 88 ((cs.drop 3).take (Tryz.prog.cellsOf 88)) = xs[3]? := hf 3 _ rfl
  rw [cellsI] at g0
  rw [cellsS] at g1 g2
  rw [cellsF] at g3
  clear hf
  match xs, hlen with
  | [y0, y1, y2, y3], _ =>
    simp only [List.getElem?_cons_zero, List.getElem?_cons_succ] at g0 g1 g2 g3
    obtain ⟨k, c0, _, w0⟩ := DataW.trod_int Tryz.underlying3 g0
    obtain ⟨s1, c1, _, w1⟩ := DataW.trod_string Tryz.underlying9 g1
    obtain ⟨s2, c2, _, w2⟩ := DataW.trod_string Tryz.underlying9 g2
    obtain ⟨b, c3⟩ := trod_float Tryz.underlying88 g3
    refine ⟨⟨k, s1, s2, b⟩, ?_, w1, w2⟩
    apply List.ext_getElem?
    intro i
    unfold EventR.cells
    have a0 := one_at c0
    have a1 := one_at c1
    have a2 := one_at c2
    have a3 := one_at c3
    match i with
    | 0 => exact a0
    | 1 => exact a1
    | 2 => exact a2
    | 3 => exact a3
    | i + 4 => simp; omega
theorem open_mt (n : Nat) (cs : List Value) (x : DataW H × List MemPlace) (h : DataW.trod enc Tryz.prog W 0 (fun _ => true) true n 38 cs = some x) : ∃ m : MetaR, cs = m.cells := by
  obtain ⟨xs, m, _, hx, hl, hlen, hf⟩ := DataW.trod_struct Tryz.underlying38 h
  rw [cellsMt] at hl
  have g0 : DataW.trod enc Tryz.prog W 0 (fun _ => true) true m 3 ((cs.drop 0).take (Tryz.prog.cellsOf 3)) = xs[0]? := hf 0 _ rfl
  have g1 : DataW.trod enc Tryz.prog W 0 (fun _ => true) true m 3 ((cs.drop 1).take (Tryz.prog.cellsOf 3)) = xs[1]? := hf 1 _ rfl
  have g2 : DataW.trod enc Tryz.prog W 0 (fun _ => true) true m 3 ((cs.drop 2).take (Tryz.prog.cellsOf 3)) = xs[2]? := hf 2 _ rfl
  rw [cellsI] at g0 g1 g2
  clear hf
  match xs, hlen with
  | [y0, y1, y2], _ =>
    simp only [List.getElem?_cons_zero, List.getElem?_cons_succ] at g0 g1 g2
    obtain ⟨k0, c0, _, _⟩ := DataW.trod_int Tryz.underlying3 g0
    obtain ⟨k1, c1, _, _⟩ := DataW.trod_int Tryz.underlying3 g1
    obtain ⟨k2, c2, _, _⟩ := DataW.trod_int Tryz.underlying3 g2
    refine ⟨⟨k0, k1, k2⟩, ?_⟩
    apply List.ext_getElem?
    intro i
    unfold MetaR.cells
    have a0 := one_at c0
    have a1 := one_at c1
    have a2 := one_at c2
    match i with
    | 0 => exact a0
    | 1 => exact a1
    | 2 => exact a2
    | i + 3 => simp; omega
theorem open_cmd (n : Nat) (cs : List Value) (x : DataW H × List MemPlace) (h : DataW.trod enc Tryz.prog W 0 (fun _ => true) true n 40 cs = some x) (hlt : ∀ y ∈ x.2, y.block < W.heap.size) :
    ∃ o : CmdV, cs = o.cells ∧ o.Ok W := by
  obtain ⟨xs, m, _, hx, hl, hlen, hf⟩ := DataW.trod_struct Tryz.underlying40 h
  rw [cellsCmd] at hl
  have g0 : DataW.trod enc Tryz.prog W 0 (fun _ => true) true m 3 ((cs.drop 0).take (Tryz.prog.cellsOf 3)) = xs[0]? := hf 0 _ rfl
  have g1 : DataW.trod enc Tryz.prog W 0 (fun _ => true) true m 3 ((cs.drop 1).take (Tryz.prog.cellsOf 3)) = xs[1]? := hf 1 _ rfl
  have g2 : DataW.trod enc Tryz.prog W 0 (fun _ => true) true m 9 ((cs.drop 2).take (Tryz.prog.cellsOf 9)) = xs[2]? := hf 2 _ rfl
  have g3 : DataW.trod enc Tryz.prog W 0 (fun _ => true) true m 3 ((cs.drop 3).take (Tryz.prog.cellsOf 3)) = xs[3]? := hf 3 _ rfl
  have g4 : DataW.trod enc Tryz.prog W 0 (fun _ => true) true m 36 ((cs.drop 4).take (Tryz.prog.cellsOf 36)) = xs[4]? := hf 4 _ rfl
  have g5 : DataW.trod enc Tryz.prog W 0 (fun _ => true) true m 38 ((cs.drop 5).take (Tryz.prog.cellsOf 38)) = xs[5]? := hf 5 _ rfl
  rw [cellsI] at g0 g1 g3
  rw [cellsS] at g2
  rw [cellsEvs] at g4
  rw [cellsMt] at g5
  clear hf
  match xs, hlen with
  | [y0, y1, y2, y3, y4, y5], _ =>
    simp only [List.getElem?_cons_zero, List.getElem?_cons_succ] at g0 g1 g2 g3 g4 g5
    obtain ⟨k, c0, _, w0⟩ := DataW.trod_int Tryz.underlying3 g0
    obtain ⟨tm, c1, _, w1⟩ := DataW.trod_int Tryz.underlying3 g1
    obtain ⟨s2, c2, _, w2⟩ := DataW.trod_string Tryz.underlying9 g2
    obtain ⟨ex, c3, _, w3⟩ := DataW.trod_int Tryz.underlying3 g3
    obtain ⟨v, es, c4, q1, q2, q3⟩ := open_rows_at Tryz.underlying36 cellsEv (by omega) EventR.cells (fun e => e.type.size ≤ maxLen ∧ e.data.size ≤ maxLen) open_ev g4 (fun y hy => hlt y (by rw [hx]; simp; right; right; right; right; left; exact hy))
    obtain ⟨mt, c5⟩ := open_mt _ _ _ g5
    refine ⟨⟨⟨k, tm, s2, ex, es, mt⟩, v⟩, ?_, ⟨⟨w2, fun e he => (q2 e he).1⟩, q1, q3⟩⟩
    apply List.ext_getElem?
    intro i
    unfold CmdV.cells
    have a0 := one_at c0
    have a1 := one_at c1
    have a2 := one_at c2
    have a3 := one_at c3
    have a4 := one_at c4
    have b : ∀ j, j < 3 → cs[5 + j]? = mt.cells[j]? := fun j hj => by
      rw [← c5, List.getElem?_take, if_pos hj, List.getElem?_drop]
    match i with
    | 0 => exact a0
    | 1 => exact a1
    | 2 => exact a2
    | 3 => exact a3
    | 4 => exact a4
    | 5 => exact b 0 (by omega)
    | 6 => exact b 1 (by omega)
    | 7 => exact b 2 (by omega)
    | i + 8 => simp; omega
set_option maxRecDepth 100000 in
theorem open_cmds {base : Nat} {v : Value} {d : DataW H} {ps : List MemPlace} (hval : Value.okWide Tryz.prog W .any base 22 v) (hd : DataW.Trod enc Tryz.prog W 0 (fun _ => true) true 22 v d ps) (hlt : ∀ x ∈ ps, x.block < W.heap.size) :
    ∃ os : List CmdV, Slc W 8 v os.length (os.flatMap CmdV.cells) ∧ (∀ o ∈ os, o.Ok W ∧ o.cells.length = 8) ∧ ∀ g, v.ownBlock = some g → g < W.heap.size ∨ os = [] :=
  open_rows Tryz.underlying22 cellsCmd (by omega) CmdV.cells (CmdV.Ok W) open_cmd hval hd hlt
end
/-- Commands that lie below the world a. -/
structure CmdsAt (a w : World) (v : Value) (l : List CmdV) : Prop where
  slc : Slc w 8 v l.length (l.flatMap CmdV.cells)
  own : ∀ g, v.ownBlock = some g → g < a.heap.size ∨ l = []
  cmd : ∀ x ∈ l, CmdOk x.c ∧ Slc w 4 x.ev x.c.events.length (x.c.events.flatMap EventR.cells) ∧ ∀ g, x.ev.ownBlock = some g → g < a.heap.size ∨ x.c.events = []
section
variable {a w w' : World} {R : List Nat} {v : Value} {l : List CmdV}
theorem CmdsAt.of {W : World} (h1 : Slc W 8 v l.length (l.flatMap CmdV.cells)) (h2 : ∀ o ∈ l, o.Ok W ∧ o.cells.length = 8) (h3 : ∀ g, v.ownBlock = some g → g < W.heap.size ∨ l = []) : CmdsAt W W v l :=
  ⟨h1, h3, fun x hx => ⟨(h2 x hx).1.ok, (h2 x hx).1.slc, (h2 x hx).1.own⟩⟩
theorem Keeps.slcE {size n : Nat} {u : Value} {cs : List Value} {E : Type} {os : List E} (h : Keeps a R w w') (hn : n = os.length) (hs : Slc w size u n cs) (hg : ∀ g, u.ownBlock = some g → g < a.heap.size ∨ os = []) : Slc w' size u n cs := by
  by_cases h0 : os = []
  · subst h0
    subst hn
    exact hs.empty
  · exact h.slc hs (fun g q => .inl ((hg g q).resolve_right h0))
theorem CmdsAt.keep (h : CmdsAt a w v l) (k : Keeps a R w w') : CmdsAt a w' v l :=
  ⟨k.slcE rfl h.slc h.own, h.own, fun x hx => ⟨(h.cmd x hx).1, k.slcE rfl (h.cmd x hx).2.1 (h.cmd x hx).2.2, (h.cmd x hx).2.2⟩⟩
theorem CmdsAt.keep0 (h : CmdsAt a w v l) (k : Only [] w w') : CmdsAt a w' v l := h.keep (R := []) (.of0 k)
theorem CmdsAt.ev (h : CmdsAt a w v l) {E : List Nat} {x : CmdV} (hx : x ∈ l) : EvIn a w E x.ev x.c.events := ⟨(h.cmd x hx).2.1, fun g hg => by
  rcases (h.cmd x hx).2.2 g hg with q | q
  · exact .inl (.inl q)
  · exact .inr (by rw [q]; rfl)⟩
/-- The cells of the command at j. -/
theorem CmdsAt.cells (h : CmdsAt a w v l) : ∃ A cap, v = .slice A l.length cap ∧ l.length ≤ cap ∧ cap ≤ maxLen ∧ ∀ j (hj : j < l.length), ∃ b off, A = some ⟨b, off, none⟩ ∧ b < w.heap.size ∧ b < a.heap.size ∧ ∀ r, r < 8 → w.cell? ⟨b, off + j * 8 + r, none⟩ = (l[j].cells)[r]? := by
  obtain ⟨A, cap, rfl, h1, h2, h3⟩ := h.slc.openE CmdV.cells (fun _ => rfl)
  refine ⟨A, cap, rfl, h1, h2, fun j hj => ?_⟩
  obtain ⟨b, off, rfl, q1, q2⟩ := h3 j hj
  refine ⟨b, off, rfl, q1, ?_, q2⟩
  rcases h.own b rfl with q | q
  · exact q
  · rw [q] at hj
    simp at hj
end
end Go.Proofs.YteinoiicnmemhaaGreatDoor
/- Small, Light, run. -/
set_option linter.unusedVariables false
set_option linter.unusedSimpArgs false
namespace Go.Proofs.YteinoiicnmemhaaGreatDoor
open Go.RowKit Go.Sort
def RetB (e : Ending) (Q : Bool → Prop) : Prop := ∃ b : Bool, e = .returned (.bool b) ∧ Q b
theorem RetB.mk {b : Bool} {Q : Bool → Prop} (h : Q b) : RetB (.returned (.bool b)) Q := ⟨b, rfl, h⟩
section
variable {a w : World} {v : Value} {l : List CmdV}
variable {R E : List Nat} {sb mb N : Nat} {s : MS}
end
end Go.Proofs.YteinoiicnmemhaaGreatDoor
/- Contracts: the document's Check, of an append of one event. -/
set_option linter.unusedVariables false
set_option linter.unusedSimpArgs false
namespace Go.Proofs.YteinoiicnmemhaaGreatDoor
open Go.RowKit Go.Sort
end Go.Proofs.YteinoiicnmemhaaGreatDoor
/- Light, and what it tells of the events. -/
set_option linter.unusedVariables false
set_option linter.unusedSimpArgs false
namespace Go.Proofs.YteinoiicnmemhaaGreatDoor
open Go.RowKit
set_option maxRecDepth 100000 in
set_option maxHeartbeats 2000000 in
theorem small12_any {w : World} {c : Cmd} {ev : Value} (hc : CmdOk c) (he : Slc w 4 ev c.events.length (c.events.flatMap EventR.cells)) :
    Calls Tryz.prog 18 #[c.val ev] w fun e w' => RetB e (fun b => b = true → c.events.length ≤ 12) ∧ Only [] w w' := by
  obtain ⟨A, cap, rfl, hnc, hcm, hel⟩ := he.openE EventR.cells (fun _ => rfl)
  unfold maxLen at hcm
  have hst := hc.stream
  unfold maxLen at hst
  have hes := hc.evs
  obtain ⟨W1, hW1⟩ : ∃ W1, W1 = w.alloc (.cells #[.int .i64 c.kind, .int .i64 c.time, .string c.stream, .int .i64 c.expected, .slice A c.events.length cap, .int .i64 c.mt.maxCount, .int .i64 c.mt.maxAge, .int .i64 c.mt.before] 40) := ⟨_, rfl⟩
  have hB := Blk.new w 40 #[.int .i64 c.kind, .int .i64 c.time, .string c.stream, .int .i64 c.expected, .slice A c.events.length cap, .int .i64 c.mt.maxCount, .int .i64 c.mt.maxAge, .int .i64 c.mt.before]
  have hO1 := (Only.refl [] w).alloc (.cells #[.int .i64 c.kind, .int .i64 c.time, .string c.stream, .int .i64 c.expected, .slice A c.events.length cap, .int .i64 c.mt.maxCount, .int .i64 c.mt.maxAge, .int .i64 c.mt.before] 40)
  rw [← hW1] at hB hO1
  rw [show c.val (.slice A c.events.length cap) = .agg #[.int .i64 c.kind, .int .i64 c.time, .string c.stream, .int .i64 c.expected, .slice A c.events.length cap, .int .i64 c.mt.maxCount, .int .i64 c.mt.maxAge, .int .i64 c.mt.before] from rfl]
  have HW := Lib.hid hW1
  clear hW1
  go_enter Tryz.func18, Tryz.ntmps18
  go_wp2
  rw [← HW.out]
  go_loopw [3] (fun i wr => ∃ k : Nat, k ≤ 20 ∧ i = .int .i64 k ∧ Only [] W1 wr) (fun i _ => 20 - (intOf i).toNat)
  case atStart => exact ⟨0, by omega, rfl, Only.refl _ _⟩
  case round =>
    obtain ⟨k, hk, rfl, hO⟩ := hrel
    have hb := fun i => (hO.blk hB (by simp)).cell i
    have hend : ∀ W, Only [] wr W → Only [] w W := fun W h => (hO1.trans hO).trans h
    have HEnd := Lib.hid hend
    clear hend
    by_cases hlt : k < c.events.length
    · by_cases h20 : k < 20
      · obtain ⟨b, off, rfl, hbb, hcc⟩ := hel k hlt
        obtain ⟨y, hy⟩ : ∃ y, y = c.events[k] := ⟨_, rfl⟩
        have hys := hes y (by rw [hy]; exact List.getElem_mem hlt)
        rw [← hy] at hcc
        have c1 : wr.cell? ⟨b, off + k * 4 + 1, none⟩ = some (.string y.type) := ((hO1.trans hO).cell hbb (by simp)).trans (hcc 1 (by omega))
        have c2 : wr.cell? ⟨b, off + k * 4 + 2, none⟩ = some (.string y.data) := ((hO1.trans hO).cell hbb (by simp)).trans (hcc 2 (by omega))
        obtain ⟨hy1, hy2⟩ := hys
        unfold maxLen at hy1 hy2
        clear hcc hes hy hel he
        by_cases h1 : y.type.size > 100
        · go_wp2
          go_ret
          first | exact ⟨⟨_, rfl, rfl⟩, HEnd.out _ (Only.refl _ _)⟩ | exact ⟨⟨_, rfl, fun q => by first | exact h12 | (simp at q; done) | (simp at q; omega)⟩, HEnd.out _ (Only.refl _ _)⟩
        · by_cases h2 : y.data.size > 300
          · go_wp2
            go_ret
            first | exact ⟨⟨_, rfl, rfl⟩, HEnd.out _ (Only.refl _ _)⟩ | exact ⟨⟨_, rfl, fun q => by first | exact h12 | (simp at q; done) | (simp at q; omega)⟩, HEnd.out _ (Only.refl _ _)⟩
          · go_wp2
            exact ⟨⟨k + 1, by omega, by simp, hO⟩, by simp [intOf]; omega⟩
      · clear hel he hes
        by_cases h12 : c.events.length ≤ 12
        · omega
        · go_wp2
          go_ret
          first | exact ⟨⟨_, rfl, rfl⟩, HEnd.out _ (Only.refl _ _)⟩ | exact ⟨⟨_, rfl, fun q => by first | exact h12 | (simp at q; done) | (simp at q; omega)⟩, HEnd.out _ (Only.refl _ _)⟩
    · clear hel he hes
      by_cases h12 : c.events.length ≤ 12
      · go_wp2
        go_ret
        first | exact ⟨⟨_, rfl, rfl⟩, HEnd.out _ (Only.refl _ _)⟩ | exact ⟨⟨_, rfl, fun q => by first | exact h12 | (simp at q; done) | (simp at q; omega)⟩, HEnd.out _ (Only.refl _ _)⟩
      · go_wp2
        go_ret
        first | exact ⟨⟨_, rfl, rfl⟩, HEnd.out _ (Only.refl _ _)⟩ | exact ⟨⟨_, rfl, fun q => by first | exact h12 | (simp at q; done) | (simp at q; omega)⟩, HEnd.out _ (Only.refl _ _)⟩
section
variable {a w : World} {v : Value} {l : List CmdV}
set_option maxRecDepth 100000 in
set_option maxHeartbeats 2000000 in
theorem light12_any (h : CmdsAt a w v l) (few : Nat) (hf : few ≤ 1000) :
    Calls Tryz.prog 6 #[.int .i64 few, v] w fun e w' => RetB e (fun b => b = true → l.length ≤ few ∧ ∀ x ∈ l, x.c.events.length ≤ 12) ∧ Only [] w w' := by
  obtain ⟨A, cap, rfl, hnc, hcm, hel⟩ := h.cells
  unfold maxLen at hcm
  go_enter Tryz.func6, Tryz.ntmps6
  go_wp2
  go_loopw [5] (fun i wr => ∃ k : Nat, k ≤ few ∧ i = .int .i64 k ∧ Only [] w wr ∧ Hid (∀ x ∈ l.take k, x.c.events.length ≤ 12)) (fun i _ => few - (intOf i).toNat)
  case atStart => exact ⟨0, by omega, rfl, Only.refl _ _, by simp [Hid]⟩
  case round =>
    obtain ⟨k, hk, rfl, hO, hsm12⟩ := hrel
    by_cases hlt : k < l.length
    · by_cases h20 : k < few
      · have hcell : ∀ b (h1 : b < w.heap.size) (h2 : b < a.heap.size) (i : Nat), wr.cell? ⟨b, i, none⟩ = w.cell? ⟨b, i, none⟩ := fun b h1 h2 i => hO.cell h1 (by simp)
        obtain ⟨b, off, rfl, hbb, hba, hcc⟩ := hel k hlt
        obtain ⟨x, hx⟩ : ∃ x, x = l[k] := ⟨_, rfl⟩
        have hxm : x ∈ l := by rw [hx]; exact List.getElem_mem hlt
        rw [← hx] at hcc
        have hxo := (h.cmd x hxm).1
        obtain ⟨Ax, capx, hxv, hx1, hx2, _⟩ := (h.cmd x hxm).2.1.openE EventR.cells (fun _ => rfl)
        have c0 : wr.cell? ⟨b, off + k * 8, none⟩ = some (.int .i64 x.c.kind) := (hcell b hbb hba _).trans (hcc 0 (by omega))
        have c1 : wr.cell? ⟨b, off + k * 8 + 1, none⟩ = some (.int .i64 x.c.time) := (hcell b hbb hba _).trans (hcc 1 (by omega))
        have c2 : wr.cell? ⟨b, off + k * 8 + 2, none⟩ = some (.string x.c.stream) := (hcell b hbb hba _).trans (hcc 2 (by omega))
        have c3 : wr.cell? ⟨b, off + k * 8 + 3, none⟩ = some (.int .i64 x.c.expected) := (hcell b hbb hba _).trans (hcc 3 (by omega))
        have c4 : wr.cell? ⟨b, off + k * 8 + 4, none⟩ = some (.slice Ax x.c.events.length capx) := (hcell b hbb hba _).trans ((hcc 4 (by omega)).trans (by rw [← hxv]; rfl))
        have c5 : wr.cell? ⟨b, off + k * 8 + 5, none⟩ = some (.int .i64 x.c.mt.maxCount) := (hcell b hbb hba _).trans (hcc 5 (by omega))
        have c6 : wr.cell? ⟨b, off + k * 8 + 6, none⟩ = some (.int .i64 x.c.mt.maxAge) := (hcell b hbb hba _).trans (hcc 6 (by omega))
        have c7 : wr.cell? ⟨b, off + k * 8 + 7, none⟩ = some (.int .i64 x.c.mt.before) := (hcell b hbb hba _).trans (hcc 7 (by omega))
        have HTk : Hid (l.take (k + 1) = l.take k ++ [x]) := by unfold Hid; rw [List.take_succ_eq_append_getElem hlt, ← hx]
        have hsm := small12_any (w := wr) hxo ((h.cmd x hxm).2.1.only0 hO)
        rw [hxv] at hsm
        unfold Cmd.val at hsm
        have HS := Lib.hid hsm
        clear hcc hel hx hxv hsm hcell
        go_wp2_with (go_at_call 18; refine HS.out.mono ?_; rintro e w1 ⟨⟨bb, rfl, hb12⟩, ho1⟩; have HB12 := Lib.hid hb12; clear hb12; cases bb)
        · go_ret
          exact ⟨⟨false, rfl, fun q => by cases q⟩, hO.trans ho1⟩
        · exact ⟨⟨k + 1, by omega, by simp, hO.trans ho1, fun y hy => by rw [HTk.out] at hy; rcases List.mem_append.1 hy with q | q; exact hsm12.out y q; simp at q; rw [q]; first | exact HB12.out rfl | exact HB12.out trivial | exact HB12.out⟩, by simp [intOf]; omega⟩
      · clear hel
        have h2 : ¬ (l.length ≤ few) := by omega
        go_wp2
        go_ret
        exact ⟨⟨_, rfl, fun q => by simp at q <;> omega⟩, hO⟩
    · clear hel
      have h2 : l.length ≤ few := by omega
      go_wp2
      go_ret
      exact ⟨⟨_, rfl, fun q => ⟨h2, fun y hy => hsm12.out y (by rw [List.take_of_length_le (by omega)]; exact hy)⟩⟩, hO⟩
end
end Go.Proofs.YteinoiicnmemhaaGreatDoor
/- Contract of the document's Read. -/
set_option linter.unusedVariables false
set_option linter.unusedSimpArgs false
namespace Go.Proofs.YteinoiicnmemhaaGreatDoor
open Go Go.RowKit Go.Sort
section
variable {a w : World} {H : List Nat} {rb : Nat} {r : RS}
end
end Go.Proofs.YteinoiicnmemhaaGreatDoor
/- What the document's contracts ask, from the program's state. -/
set_option linter.unusedVariables false
set_option linter.unusedSimpArgs false
namespace Go.Proofs.YteinoiicnmemhaaGreatDoor
open Go Go.RowKit Go.Sort
theorem Alike.fine {s : MS} {r : RS} {N : Nat} (h : Alike s r) (ok : s.Ok N) (hN : N ≤ 100000) : r.Fine := by
  have ha := ok.all
  have hl : r.l.length = s.all.length := by rw [h.l]
  refine ⟨by omega, fun n => ?_, fun n => ?_, ?_⟩
  · rw [h.mt]
    exact (ok.find n).1
  · have h1 := h.kept n
    have h2 := ok.find n
    have h3 := floorS_bd s n
    omega
  · rw [h.now]
    exact ok.now
end Go.Proofs.YteinoiicnmemhaaGreatDoor
/- Contracts: the document's Check (chronicleref7) of every command. -/
set_option linter.unusedVariables false
set_option linter.unusedSimpArgs false
namespace Go.Proofs.YteinoiicnmemhaaGreatDoor
open Go Go.RowKit Go.Sort
end Go.Proofs.YteinoiicnmemhaaGreatDoor
/- Contracts: the document's Check (chronicleref7) of an append; of every command. -/
set_option linter.unusedVariables false
set_option linter.unusedSimpArgs false
namespace Go.Proofs.YteinoiicnmemhaaGreatDoor
open Go Go.RowKit Go.Sort
end Go.Proofs.YteinoiicnmemhaaGreatDoor
/- The document's state, for its Do: what stays fine, what a step keeps, plain lemmas of the loops. -/
set_option linter.unusedVariables false
set_option linter.unusedSimpArgs false
namespace Go.Proofs.YteinoiicnmemhaaGreatDoor
open Go Go.RowKit Go.Sort
section
variable {a w w' : World} {H H' : List Nat} {rb : Nat} {r : RS} {vl vs : Value}
end
section
variable {r : RS}
theorem dfloor_bd (r : RS) (n : ByteArray) (h : r.l.length ≤ 1000000) : 0 ≤ r.floor n ∧ r.floor n ≤ 1000000 := by
  have h1 := floorE_bd (r.get n).mt (r.get n).kept r.now ((r.of n).map (·.time))
  have h2 : (r.of n).length ≤ r.l.length := List.length_filter_le _ _
  rw [List.length_map] at h1
  unfold RS.floor
  omega
theorem RS.Fine.put (h : r.Fine) {x : DStr} (h1 : x.mt.ok = true) (h2 : 0 ≤ x.kept ∧ x.kept ≤ 1000000000) : (r.put x).Fine :=
  ⟨h.few, fun n => by rw [get_put]; split; exact h1; exact h.mt n, fun n => by rw [get_put]; split; exact h2; exact h.kept n, h.now⟩
theorem RS.Fine.keep (h : r.Fine) (n : ByteArray) : (r.keep n).Fine := by
  have hb := dfloor_bd r n h.few
  exact h.put (x := { r.get n with kept := r.floor n }) (h.mt n) ⟨hb.1, by dsimp only; omega⟩
theorem RS.Fine.tick (h : r.Fine) {t : Int} (ht : within t = true) : (r.tick t).Fine := by
  refine ⟨h.few, h.mt, h.kept, ?_⟩
  have := h.now
  simp [within] at ht
  show 0 ≤ max r.now t ∧ max r.now t ≤ 1099511627776
  omega
theorem RS.Fine.more (h : r.Fine) {l : List StoredR} (hl : l.length ≤ 1000000) : ({ r with l := l } : RS).Fine := ⟨hl, h.mt, h.kept, h.now⟩
theorem putD_len (l : List DStr) (x : DStr) : (putD l x).length ≤ l.length + 1 := by
  induction l with
  | nil => simp [putD]
  | cons y l ih =>
    unfold putD
    split
    · simp
    · simp only [List.length_cons]; omega
theorem put_len (r : RS) (x : DStr) : (r.put x).s.length ≤ r.s.length + 1 := putD_len r.s x
theorem keep_len (r : RS) (n : ByteArray) : (r.keep n).s.length ≤ r.s.length + 1 := putD_len r.s _
end
end Go.Proofs.YteinoiicnmemhaaGreatDoor
/- The place of a name among rising names, step by step (for the document's Streams). -/
set_option linter.unusedVariables false
set_option linter.unusedSimpArgs false
namespace Go.Proofs.YteinoiicnmemhaaGreatDoor
open Go Go.RowKit Go.Sort
end Go.Proofs.YteinoiicnmemhaaGreatDoor
/- Contract of the document's Streams. -/
set_option linter.unusedVariables false
set_option linter.unusedSimpArgs false
namespace Go.Proofs.YteinoiicnmemhaaGreatDoor
open Go Go.RowKit Go.Sort
theorem strs_one (l : List ByteArray) : ∀ u ∈ strs l, u.oneCell' = true := by
  intro u hu
  obtain ⟨x, _, rfl⟩ := List.mem_map.1 hu
  rfl
section
variable {a w : World} {H : List Nat} {rb : Nat} {r : RS}
end
end Go.Proofs.YteinoiicnmemhaaGreatDoor
/- A book of lists that are kept (texts, stored events), in memory. -/
set_option linter.unusedVariables false
set_option linter.unusedSimpArgs false
namespace Go.Proofs.YteinoiicnmemhaaGreatDoor
open Go.RowKit Go Go.Sort Go.Lib
def scs (l : List StoredR) : List Value := l.flatMap StoredR.cells
theorem scs_len (l : List StoredR) : (scs l).length = l.length * 8 := by
  unfold scs
  induction l with
  | nil => rfl
  | cons x l ih =>
    rw [List.flatMap_cons, List.length_append, ih, List.length_cons]
    have : (StoredR.cells x).length = 8 := rfl
    omega
theorem scs_one (l : List StoredR) : ∀ u ∈ scs l, u.oneCell' = true := stored_one l
def blocksV {α : Type} (L : List (Value × α)) : List Nat := L.flatMap fun p => p.1.ownBlock.toList
theorem mem_blocksV {α : Type} {L : List (Value × α)} {b : Nat} : b ∈ blocksV L ↔ ∃ p ∈ L, p.1.ownBlock = some b := by simp [blocksV]
theorem blocksV_app {α : Type} (L M : List (Value × α)) : blocksV (L ++ M) = blocksV L ++ blocksV M := by simp [blocksV]
/-- Rows of one's own beside each other. -/
structure Kpt (w : World) (e : TypeId) (L : List (Value × List Value)) : Prop where
  own : ∀ p ∈ L, w.ownsRow 0 e 1 p.1 p.2.length p.2
  nod : (blocksV L).Nodup
  lit : ∀ p ∈ L, ∃ A c, p.1 = .slice A p.2.length c
section
variable {w w' : World} {e : TypeId} {L M : List (Value × List Value)} {S : List Nat}
theorem Kpt.only (h : Kpt w e L) (k : Only S w w') (hd : ∀ b ∈ blocksV L, b ∉ S) : Kpt w' e L := ⟨fun p hp => own_only (h.own p hp) k (fun g hg => hd g (mem_blocksV.2 ⟨p, hp, hg⟩)), h.nod, h.lit⟩
theorem Kpt.lt (h : Kpt w e L) : ∀ b ∈ blocksV L, b < w.heap.size := fun b hb => by
  obtain ⟨p, hp, q⟩ := mem_blocksV.1 hb
  exact (World.ownsRow.lt (h.own p hp) b q).2
theorem Kpt.sub (h : Kpt w e (L ++ M)) : Kpt w e L ∧ Kpt w e M := by
  have hn := h.nod
  rw [blocksV_app] at hn
  obtain ⟨n1, n2, _⟩ := List.nodup_append.1 hn
  exact ⟨⟨fun p hp => h.own p (List.mem_append_left _ hp), n1, fun p hp => h.lit p (List.mem_append_left _ hp)⟩, ⟨fun p hp => h.own p (List.mem_append_right _ hp), n2, fun p hp => h.lit p (List.mem_append_right _ hp)⟩⟩
theorem Kpt.perm (h : Kpt w e L) (p : L.Perm M) : Kpt w e M := ⟨fun q hq => h.own q (p.mem_iff.2 hq), (List.Perm.flatMap_right _ p).nodup_iff.1 h.nod, fun q hq => h.lit q (p.mem_iff.2 hq)⟩
theorem Kpt.cons (h : Kpt w e L) {A : Option Addr} {c : Nat} {cs : List Value} (ho : w.ownsRow 0 e 1 (.slice A cs.length c) cs.length cs) (hf : ∀ b, (Value.slice A cs.length c).ownBlock = some b → b ∉ blocksV L) : Kpt w e ((.slice A cs.length c, cs) :: L) := by
  refine ⟨fun p hp => ?_, ?_, fun p hp => ?_⟩
  · rcases List.mem_cons.1 hp with rfl | hp
    · exact ho
    · exact h.own p hp
  · show ((Value.slice A cs.length c).ownBlock.toList ++ blocksV L).Nodup
    refine List.nodup_append.2 ⟨by cases (Value.slice A cs.length c).ownBlock <;> simp, h.nod, fun a ha b hb e => ?_⟩
    exact hf a (by simpa using ha) (by rw [e]; exact hb)
  · rcases List.mem_cons.1 hp with rfl | hp
    · exact ⟨A, c, rfl⟩
    · exact h.lit p hp
end
/-- Rows of one's own beside each other. -/
structure KpS (w : World) (L : List (Value × List StoredR)) : Prop where
  own : ∀ p ∈ L, w.ownsRow 0 92 8 p.1 p.2.length (scs p.2)
  nod : (blocksV L).Nodup
  lit : ∀ p ∈ L, ∃ A c, p.1 = .slice A p.2.length c
section
variable {w w' : World} {L M : List (Value × List StoredR)} {S : List Nat}
theorem KpS.only (h : KpS w L) (k : Only S w w') (hd : ∀ b ∈ blocksV L, b ∉ S) : KpS w' L := ⟨fun p hp => own_only (h.own p hp) k (fun g hg => hd g (mem_blocksV.2 ⟨p, hp, hg⟩)), h.nod, h.lit⟩
theorem KpS.lt (h : KpS w L) : ∀ b ∈ blocksV L, b < w.heap.size := fun b hb => by
  obtain ⟨p, hp, q⟩ := mem_blocksV.1 hb
  exact (World.ownsRow.lt (h.own p hp) b q).2
theorem KpS.sub (h : KpS w (L ++ M)) : KpS w L ∧ KpS w M := by
  have hn := h.nod
  rw [blocksV_app] at hn
  obtain ⟨n1, n2, _⟩ := List.nodup_append.1 hn
  exact ⟨⟨fun p hp => h.own p (List.mem_append_left _ hp), n1, fun p hp => h.lit p (List.mem_append_left _ hp)⟩, ⟨fun p hp => h.own p (List.mem_append_right _ hp), n2, fun p hp => h.lit p (List.mem_append_right _ hp)⟩⟩
theorem KpS.perm (h : KpS w L) (p : L.Perm M) : KpS w M := ⟨fun q hq => h.own q (p.mem_iff.2 hq), (List.Perm.flatMap_right _ p).nodup_iff.1 h.nod, fun q hq => h.lit q (p.mem_iff.2 hq)⟩
theorem KpS.cons (h : KpS w L) {A : Option Addr} {c : Nat} {cs : List StoredR} (ho : w.ownsRow 0 92 8 (.slice A cs.length c) cs.length (scs cs)) (hf : ∀ b, (Value.slice A cs.length c).ownBlock = some b → b ∉ blocksV L) : KpS w ((.slice A cs.length c, cs) :: L) := by
  refine ⟨fun p hp => ?_, ?_, fun p hp => ?_⟩
  · rcases List.mem_cons.1 hp with rfl | hp
    · exact ho
    · exact h.own p hp
  · show ((Value.slice A cs.length c).ownBlock.toList ++ blocksV L).Nodup
    refine List.nodup_append.2 ⟨by cases (Value.slice A cs.length c).ownBlock <;> simp, h.nod, fun a ha b hb e => ?_⟩
    exact hf a (by simpa using ha) (by rw [e]; exact hb)
  · rcases List.mem_cons.1 hp with rfl | hp
    · exact ⟨A, c, rfl⟩
    · exact h.lit p hp
end
section
variable {a w w' : World} {H H' S : List Nat} {bb : Nat} {vt vx vi vy : Value} {T X : List (Value × List Value)} {I Y : List (Value × List StoredR)}
end
end Go.Proofs.YteinoiicnmemhaaGreatDoor
/- One more list in the book: Stored. -/
set_option linter.unusedVariables false
set_option linter.unusedSimpArgs false
namespace Go.Proofs.YteinoiicnmemhaaGreatDoor
open Go.RowKit Go Go.Sort Go.Lib
end Go.Proofs.YteinoiicnmemhaaGreatDoor
/- One more list in the book: Texts. -/
set_option linter.unusedVariables false
set_option linter.unusedSimpArgs false
namespace Go.Proofs.YteinoiicnmemhaaGreatDoor
open Go.RowKit Go Go.Sort Go.Lib
end Go.Proofs.YteinoiicnmemhaaGreatDoor
/- An append leaves the old slice readable, as it was. -/
set_option linter.unusedVariables false
set_option linter.unusedSimpArgs false
namespace Go.Proofs.YteinoiicnmemhaaGreatDoor
open Go.RowKit Go Go.Sort
theorem run_app_old {P : Program} {w : World} (t ty : TypeId) (base : Nat) (e : TypeId) (z : Value) (size bytes : Nat) (ht : P.underlying t = some (.slice e)) (hi : (P.info? e).map (fun i => (i.zero, i.size, i.bytes)) = some (some z, size, bytes))
    (hzs : z.cells.size = size) (hsz : 0 < size) {v : Value} {n : Nat} {xs : List Value} (hown : w.ownsRow base e size v n xs) {u : Value} {m : Nat} {cells : List Value} (hsl : Slc w size u m cells)
    (h1 : ∀ u ∈ cells, u.oneCell' = true) (hb : (n + m) * bytes ≤ 140737488355328) (hm : n + m ≤ maxLen) (hbase : base ≤ w.heap.size) {v' : Value} {w' : World} (hr : (Builtin.append_ #[t, t] ty #[v, u]).run P w = .ok v' w')
    (hown' : w'.ownsRow base e size v' (n + m) (xs ++ cells)) : Slc w' size v n xs := by
  have hold := (Slc.of_own hown).1
  have hm2 := hm
  unfold maxLen at hm2
  obtain ⟨i, hi1, hi2, hi3, hi4⟩ := info_parts hi
  obtain ⟨B, c, rfl, hl, hc1, hc2, hc⟩ := hsl
  by_cases h0 : m = 0
  · subst h0
    obtain ⟨A, cap, rfl, hnc, _⟩ := own_form hown
    have hs : (Go.sizeOf e).run P w = .ok size w := by simp [Go.sizeOf, typeInfo, hi1, hi3]
    rw [run_append_zero w t e ty A B size n cap c ht hs hnc] at hr
    injection hr with _ e2
    rw [← e2]
    exact hold
  · obtain ⟨b, off, rfl, hb1, hcc⟩ := hc (by omega)
    have hnews : ∀ j x, cells[j]? = some x → w.cell? ((⟨b, off, none⟩ : Addr).add j) = some x := fun j x hx => by
      have hj : j < cells.length := (List.getElem?_eq_some_iff.1 hx).1
      rw [show ((⟨b, off, none⟩ : Addr).add j) = ⟨b, off + j, none⟩ by simp [Addr.add], hcc j hj, hx]
    rcases hown.2 with ⟨rfl, rfl⟩ | ⟨g, cap, cur, rfl, hbg, hg, hnc, hcm, hcs, htake⟩
    · have hx : xs = [] := List.eq_nil_of_length_eq_zero (by simpa using hown.1)
      subst hx
      exact Slc.nil _ _
    · subst hi3 hi4
      by_cases hroom : n + m ≤ cap
      · have hfit : n * i.size + cells.length ≤ cur.size := by rw [hl, hcs, ← Nat.add_mul]; exact Nat.mul_le_mul_right _ hroom
        have hr2 := run_append_room (P := P) w t ty e i ht hi1 g n cap cur hg ⟨b, off, none⟩ m c cells hl hnews h1 hroom hfit
        rw [hr2] at hr
        injection hr with e1 e2
        subst e1
        have hs := slc_take (Slc.of_own hown').1 (Nat.le_add_right n m)
        rwa [← hown.1, List.take_left] at hs
      · have holds : ∀ j u, xs[j]? = some u → w.cell? ((⟨g, 0, none⟩ : Addr).add j) = some u := hown.cells (g := g) rfl
        have hr2 := run_append_grow (P := P) w t ty e i z ht hi1 hi2 ⟨g, 0, none⟩ n cap xs hown.1 holds ⟨b, off, none⟩ m c cells hl hnews (by omega) (by omega) (growslice_fits (by omega) hb)
        rw [hr2] at hr
        injection hr with e1 e2
        rw [← e2]
        exact hold.only ((Only.refl [] w).drew.alloc _) (by simp)
theorem Kpt.set {w w' : World} {e : TypeId} {L : List (Value × List Value)} (h : Kpt w e L) {i : Nat} (hi : i < L.length) {cs : List Value} (hl : cs.length = L[i].2.length) (k : Only (L[i].1.ownBlock.toList) w w') (ho : w'.ownsRow 0 e 1 L[i].1 cs.length cs) : Kpt w' e (L.set i (L[i].1, cs)) := by
  have hsp : L = L.take i ++ L[i] :: L.drop (i + 1) := by
    conv => lhs; rw [← List.take_append_drop i L, List.drop_eq_getElem_cons hi]
  obtain ⟨p, hp⟩ : ∃ p, p = L[i] := ⟨_, rfl⟩
  rw [← hp] at hl k ho hsp ⊢
  have h1 := h.perm (M := p :: (L.take i ++ L.drop (i + 1))) (by
    conv => lhs; rw [hsp]
    exact List.perm_middle)
  have hn := h1.nod
  have hrest : Kpt w e (L.take i ++ L.drop (i + 1)) := ⟨fun q hq => h1.own q (List.mem_cons_of_mem _ hq), (List.nodup_append.1 (show (p.1.ownBlock.toList ++ blocksV (L.take i ++ L.drop (i + 1))).Nodup from hn)).2.1, fun q hq => h1.lit q (List.mem_cons_of_mem _ hq)⟩
  have hdis : ∀ b ∈ blocksV (L.take i ++ L.drop (i + 1)), b ∉ p.1.ownBlock.toList := fun b hb q => (List.nodup_append.1 (show (p.1.ownBlock.toList ++ blocksV (L.take i ++ L.drop (i + 1))).Nodup from hn)).2.2 b q b hb rfl
  obtain ⟨A, c, e1⟩ := h1.lit p (by simp)
  rw [← hl] at e1
  have h2 := (hrest.only k hdis).cons (A := A) (c := c) (cs := cs) (by rw [← e1]; exact ho) (fun b q z => hdis b z (by rw [e1]; simpa using q))
  rw [← e1] at h2
  refine h2.perm ?_
  have hst : L.set i (p.1, cs) = L.take i ++ (p.1, cs) :: L.drop (i + 1) := by rw [List.set_eq_take_append_cons_drop, if_pos hi]
  rw [hst]
  exact List.perm_middle.symm
theorem KpS.set {w w' : World} {L : List (Value × List StoredR)} (h : KpS w L) {i : Nat} (hi : i < L.length) {cs : List StoredR} (hl : cs.length = L[i].2.length) (k : Only (L[i].1.ownBlock.toList) w w') (ho : w'.ownsRow 0 92 8 L[i].1 cs.length (scs cs)) : KpS w' (L.set i (L[i].1, cs)) := by
  have hsp : L = L.take i ++ L[i] :: L.drop (i + 1) := by
    conv => lhs; rw [← List.take_append_drop i L, List.drop_eq_getElem_cons hi]
  obtain ⟨p, hp⟩ : ∃ p, p = L[i] := ⟨_, rfl⟩
  rw [← hp] at hl k ho hsp ⊢
  have h1 := h.perm (M := p :: (L.take i ++ L.drop (i + 1))) (by
    conv => lhs; rw [hsp]
    exact List.perm_middle)
  have hn := h1.nod
  have hrest : KpS w (L.take i ++ L.drop (i + 1)) := ⟨fun q hq => h1.own q (List.mem_cons_of_mem _ hq), (List.nodup_append.1 (show (p.1.ownBlock.toList ++ blocksV (L.take i ++ L.drop (i + 1))).Nodup from hn)).2.1, fun q hq => h1.lit q (List.mem_cons_of_mem _ hq)⟩
  have hdis : ∀ b ∈ blocksV (L.take i ++ L.drop (i + 1)), b ∉ p.1.ownBlock.toList := fun b hb q => (List.nodup_append.1 (show (p.1.ownBlock.toList ++ blocksV (L.take i ++ L.drop (i + 1))).Nodup from hn)).2.2 b q b hb rfl
  obtain ⟨A, c, e1⟩ := h1.lit p (by simp)
  rw [← hl] at e1
  have h2 := (hrest.only k hdis).cons (A := A) (c := c) (cs := cs) (by rw [← e1]; exact ho) (fun b q z => hdis b z (by rw [e1]; simpa using q))
  rw [← e1] at h2
  refine h2.perm ?_
  have hst : L.set i (p.1, cs) = L.take i ++ (p.1, cs) :: L.drop (i + 1) := by rw [List.set_eq_take_append_cons_drop, if_pos hi]
  rw [hst]
  exact List.perm_middle.symm
theorem keep_old {w1 w2 : World} {Ap Al : Option Addr} {n m cp cl B : Nat} {e : TypeId} {xs ys : List Value} (hs : Slc w1 1 (.slice Ap n cp) n xs) (hpa : ∀ b off, Ap = some ⟨b, off, none⟩ → off = 0) (ho : w1.ownsRow B e 1 (.slice Al m cl) m ys) (hy : ys.take n = xs) (hnm : n ≤ m)
    (hk : Only (Value.slice Al m cl).ownBlock.toList w1 w2) (hs2 : Slc w2 1 (.slice Al m cl) m ys) : Slc w2 1 (.slice Ap n cp) n xs := by
  obtain ⟨A', c', e1, h1, h2, h3, h4⟩ := hs
  injection e1 with q1 q2 q3
  subst q1 q3
  refine ⟨Ap, cp, rfl, h1, h2, h3, fun hn => ?_⟩
  obtain ⟨b, off, rfl, hb, hc⟩ := h4 hn
  by_cases q : (Value.slice Al m cl).ownBlock = some b
  · obtain ⟨g, cap, ef, _, _⟩ := ho.form (by omega)
    injection ef with f1 f2 f3
    subst f1
    have hgb : g = b := by simpa [Value.ownBlock] using q
    subst hgb
    have ho0 := hpa g off rfl
    subst ho0
    obtain ⟨A2, c2, e2, k1, k2, k3, k4⟩ := hs2
    injection e2 with r1 r2 r3
    subst r1
    obtain ⟨g2, off2, e3, hb2, hc2⟩ := k4 (by omega)
    cases e3
    refine ⟨g, 0, rfl, hb2, fun j hj => ?_⟩
    rw [hc2 j (by omega), ← hy, List.getElem?_take, if_pos (by omega)]
  · refine ⟨b, off, rfl, Nat.lt_of_lt_of_le hb hk.size, fun j hj => ?_⟩
    rw [hk.cell (by exact hb) (by simpa using q), hc j hj]
theorem keep_oldS {w1 w2 : World} {Ap Al : Option Addr} {n m cp cl B : Nat} {e : TypeId} {xs ys : List Value} (hs : Slc w1 8 (.slice Ap n cp) n xs) (hpa : ∀ b off, Ap = some ⟨b, off, none⟩ → off = 0) (ho : w1.ownsRow B e 8 (.slice Al m cl) m ys) (hy : ys.take (n * 8) = xs) (hnm : n ≤ m)
    (hk : Only (Value.slice Al m cl).ownBlock.toList w1 w2) (hs2 : Slc w2 8 (.slice Al m cl) m ys) : Slc w2 8 (.slice Ap n cp) n xs := by
  obtain ⟨A', c', e1, h1, h2, h3, h4⟩ := hs
  injection e1 with q1 q2 q3
  subst q1 q3
  refine ⟨Ap, cp, rfl, h1, h2, h3, fun hn => ?_⟩
  obtain ⟨b, off, rfl, hb, hc⟩ := h4 hn
  by_cases q : (Value.slice Al m cl).ownBlock = some b
  · obtain ⟨g, cap, ef, _, _⟩ := ho.form (by omega)
    injection ef with f1 f2 f3
    subst f1
    have hgb : g = b := by simpa [Value.ownBlock] using q
    subst hgb
    have ho0 := hpa g off rfl
    subst ho0
    obtain ⟨A2, c2, e2, k1, k2, k3, k4⟩ := hs2
    injection e2 with r1 r2 r3
    subst r1
    obtain ⟨g2, off2, e3, hb2, hc2⟩ := k4 (by omega)
    cases e3
    refine ⟨g, 0, rfl, hb2, fun j hj => ?_⟩
    rw [hc2 j (by omega), ← hy, List.getElem?_take, if_pos (by omega)]
  · refine ⟨b, off, rfl, Nat.lt_of_lt_of_le hb hk.size, fun j hj => ?_⟩
    rw [hk.cell (by exact hb) (by simpa using q), hc j hj]
end Go.Proofs.YteinoiicnmemhaaGreatDoor
/- The book's marks for stored events; what is still as it was. -/
set_option linter.unusedVariables false
set_option linter.unusedSimpArgs false
namespace Go.Proofs.YteinoiicnmemhaaGreatDoor
open Go.RowKit Go Go.Sort
def mkOne (p : Int) : StoredR := ⟨⟨0, ⟨#[]⟩, ⟨#[]⟩, 0⟩, ⟨#[]⟩, 0, p, 0⟩
def mkS (i f n : Nat) : List StoredR := (List.range n).map (fun k : Nat => mkOne (-1000 * (i : Int) - ((f : Int) + (k : Int)) - 1))
theorem mkS_len (i f n : Nat) : (mkS i f n).length = n := by simp [mkS]
theorem mkS_succ (i f n : Nat) : mkS i f (n + 1) = mkS i f n ++ [mkOne (-1000 * (i : Int) - ((f : Int) + (n : Int)) - 1)] := by simp [mkS, List.range_succ]
theorem mkS_app (i f n m : Nat) : mkS i f n ++ mkS i (f + n) m = mkS i f (n + m) := by
  induction m with
  | zero => simp [mkS]
  | succ m ih =>
    rw [mkS_succ, ← List.append_assoc, ih, ← Nat.add_assoc, mkS_succ]
    congr 4
    omega
end Go.Proofs.YteinoiicnmemhaaGreatDoor
/- The book: all lists of stored events are marked. -/
set_option linter.unusedVariables false
set_option linter.unusedSimpArgs false
namespace Go.Proofs.YteinoiicnmemhaaGreatDoor
open Go.RowKit Go Go.Sort
end Go.Proofs.YteinoiicnmemhaaGreatDoor
/- The book: putStored. -/
set_option linter.unusedVariables false
set_option linter.unusedSimpArgs false
namespace Go.Proofs.YteinoiicnmemhaaGreatDoor
open Go.RowKit Go Go.Sort
section
variable {w w' : World} {bb : Nat} {cs : Array Value} {A : Option Addr} {c : Nat} {I : List (Value × List StoredR)}
end
end Go.Proofs.YteinoiicnmemhaaGreatDoor
/- The book: markedStored. -/
set_option linter.unusedVariables false
set_option linter.unusedSimpArgs false
namespace Go.Proofs.YteinoiicnmemhaaGreatDoor
open Go.RowKit Go Go.Sort
/-- Lists that have their marks. -/
structure MkdS (w : World) (A : Option Addr) (c : Nat) (L : List (Value × Nat)) : Prop where
  cap : L.length ≤ c ∧ c ≤ 2 ^ 63 - 1
  few : L.length ≤ 250
  row : ∀ i (h : i < L.length), ∃ vb, A = some ⟨vb, 0, none⟩ ∧ vb < w.heap.size ∧ w.cell? ⟨vb, i, none⟩ = some L[i].1
  lit : ∀ i (h : i < L.length), ∃ A' c', L[i].1 = .slice A' L[i].2 c'
  slc : ∀ i (h : i < L.length), Slc w 8 L[i].1 L[i].2 (scs (mkS i 0 L[i].2))
  len : ∀ i (h : i < L.length), L[i].2 ≤ 1000000
theorem MkdS.keep0 {w w' : World} {A : Option Addr} {c : Nat} {L : List (Value × Nat)} (h : MkdS w A c L) (k : Only [] w w') : MkdS w' A c L :=
  ⟨h.cap, h.few, fun i hi => by
    obtain ⟨vb, e, hl, hc⟩ := h.row i hi
    exact ⟨vb, e, Nat.lt_of_lt_of_le hl k.size, (k.cell hl (by simp)).trans hc⟩, h.lit, fun i hi => (h.slc i hi).only k (by simp), h.len⟩
end Go.Proofs.YteinoiicnmemhaaGreatDoor
/- The book: growing a list of stored events, plain part. -/
set_option linter.unusedVariables false
set_option linter.unusedSimpArgs false
namespace Go.Proofs.YteinoiicnmemhaaGreatDoor
open Go.RowKit Go Go.Sort
/-- A list on its way to be grown. -/
structure GrInS (w0 W : World) (i n : Nat) (Ap : Option Addr) (cp : Nat) (nt : Nat) (Al : Option Addr) (cl : Nat) : Prop where
  own : W.ownsRow 0 92 8 (.slice Al nt cl) nt (scs (mkS i 0 nt))
  le : n ≤ nt
  blk : ∀ b, (Value.slice Al nt cl).ownBlock = some b → (Value.slice Ap n cp).ownBlock = some b ∨ w0.heap.size ≤ b
  only : Only (Value.slice Ap n cp).ownBlock.toList w0 W
  old : Slc W 8 (.slice Ap n cp) n (scs (mkS i 0 n))
  zero : ∀ b off, Ap = some ⟨b, off, none⟩ → off = 0
theorem scs_app (l m : List StoredR) : scs (l ++ m) = scs l ++ scs m := by simp [scs]
theorem scs_take (i n m : Nat) (h : n ≤ m) : (scs (mkS i 0 m)).take (n * 8) = scs (mkS i 0 n) := by
  obtain ⟨k, rfl⟩ : ∃ k, m = n + k := ⟨m - n, by omega⟩
  rw [← mkS_app, scs_app, List.take_append_of_le_length (by rw [scs_len, mkS_len]; exact Nat.le_refl _), List.take_of_length_le (by rw [scs_len, mkS_len]; exact Nat.le_refl _)]
theorem GrInS.step {w0 W w1 : World} {i n cp nt cl q cm : Nat} {Ap Al Am : Option Addr} (h : GrInS w0 W i n Ap cp nt Al cl) (k1 : Only [] W w1) (hm : w1.ownsRow W.heap.size 92 8 (.slice Am q cm) q (scs (mkS i nt q))) (hb : nt + q ≤ 2000000) :
    ∃ A' c' w2, (Builtin.append_ #[28, 28] 28 #[.slice Al nt cl, .slice Am q cm]).run Tryz.prog w1 = .ok (.slice A' (nt + q) c') w2 ∧ GrInS w0 w2 i n Ap cp (nt + q) A' c' := by
  have hl1 := own_only h.own k1 (by simp)
  have hms := (Slc.of_own hm).1
  obtain ⟨A', c', w2, hr, ho2, hO, hf⟩ := run_app (P := Tryz.prog) 28 28 0 92 (.agg #[.int .i64 0, .string ⟨#[]⟩, .string ⟨#[]⟩, .float .f64 0, .string ⟨#[]⟩, .int .i64 0, .int .i64 0, .int .i64 0]) 8 88 Tryz.underlying28 infoSt rfl (by decide) hl1 hms (scs_one _) (by omega) (by unfold maxLen; omega) (Nat.zero_le _)
  have hold := run_app_old (P := Tryz.prog) 28 28 0 92 (.agg #[.int .i64 0, .string ⟨#[]⟩, .string ⟨#[]⟩, .float .f64 0, .string ⟨#[]⟩, .int .i64 0, .int .i64 0, .int .i64 0]) 8 88 Tryz.underlying28 infoSt rfl (by decide) hl1 hms (scs_one _) (by omega) (by unfold maxLen; omega) (Nat.zero_le _) hr ho2
  have hcs : scs (mkS i 0 nt) ++ scs (mkS i nt q) = scs (mkS i 0 (nt + q)) := by
    rw [← mkS_app i 0 nt q, Nat.zero_add, scs_app]
  rw [hcs] at ho2
  have hsz := h.only.size
  have hsz1 := k1.size
  refine ⟨A', c', w2, hr, ho2, by have := h.le; omega, fun b z => ?_, ?_, keep_oldS (h.old.only k1 (by simp)) h.zero hl1 (scs_take i n nt h.le) h.le hO hold, h.zero⟩
  · rcases hf b z with y | y
    · exact h.blk b y
    · exact .inr (by omega)
  · refine (h.only.trans k1.of_nil).step hO (fun b z => ?_)
    rcases h.blk b (by simpa using z) with y | y
    · exact .inl (by simp [y])
    · exact .inr y
end Go.Proofs.YteinoiicnmemhaaGreatDoor
/- The book: growStored, plain part. -/
set_option linter.unusedVariables false
set_option linter.unusedSimpArgs false
namespace Go.Proofs.YteinoiicnmemhaaGreatDoor
open Go.RowKit Go Go.Sort
/-- The lists that are grown so far. -/
structure GrOS (w W : World) (J : List (Value × Nat)) (i : Nat) (O : List (Value × Nat)) (Ao : Option Addr) (co : Nat) : Prop where
  olen : O.length = i
  out : W.ownsRow w.heap.size 28 1 (.slice Ao i co) i (O.map (·.1))
  two : ∀ k (h : k < O.length) (hk : k < J.length), O[k].2 = J[k].2 + 72
  lit : ∀ k (h : k < O.length), ∃ A' c', O[k].1 = .slice A' O[k].2 c'
  slc : ∀ k (h : k < O.length), Slc W 8 O[k].1 O[k].2 (scs (mkS k 0 O[k].2))
  typ : ∀ k (h : k < O.length) b, O[k].1.ownBlock = some b → ∃ cur, Blk W b 92 cur
  blk : ∀ k (h : k < O.length) (hk : k < J.length) b, O[k].1.ownBlock = some b → J[k].1.ownBlock = some b ∨ w.heap.size ≤ b
  old : ∀ k (hk : k < J.length), k < i → Slc W 8 J[k].1 J[k].2 (scs (mkS k 0 J[k].2))
  rest : ∀ k (hk : k < J.length), i ≤ k → W.ownsRow 0 92 8 J[k].1 J[k].2 (scs (mkS k 0 J[k].2))
/-- The lists, as they were when growing began. -/
structure GrJS (w : World) (J : List (Value × Nat)) : Prop where
  own : ∀ k (hk : k < J.length), w.ownsRow 0 92 8 J[k].1 J[k].2 (scs (mkS k 0 J[k].2))
  lit : ∀ k (hk : k < J.length), ∃ A' c', J[k].1 = .slice A' J[k].2 c'
  dis : ∀ k l (hk : k < J.length) (hl : l < J.length), k ≠ l → ∀ b, J[k].1.ownBlock = some b → J[l].1.ownBlock ≠ some b
  len : ∀ k (hk : k < J.length), J[k].2 ≤ 900000
  few : J.length ≤ 250
theorem GrJS.start {w : World} {J : List (Value × Nat)} (h : GrJS w J) : GrOS w w J 0 [] none 0 :=
  ⟨rfl, World.ownsRow_nil _ _ _ _, fun k q => absurd q (Nat.not_lt_zero _), fun k q => absurd q (Nat.not_lt_zero _), fun k q => absurd q (Nat.not_lt_zero _), fun k q => absurd q (Nat.not_lt_zero _), fun k q => absurd q (Nat.not_lt_zero _), fun k hk q => absurd q (Nat.not_lt_zero _), fun k hk _ => h.own k hk⟩
/-- One more list is grown, and put behind the others. -/
theorem GrOS.next {w W W3 w5 : World} {J O : List (Value × Nat)} {i co cp cl c5 : Nat} {Ao Ap Al A5 : Option Addr} (hJ : GrJS w J) (h : GrOS w W J i O Ao co) (hi : i < J.length) (hp : J[i].1 = .slice Ap J[i].2 cp) (hW : w.heap.size ≤ W.heap.size) (hg : GrInS W W3 i J[i].2 Ap cp (J[i].2 + 72) Al cl)
    (hO5 : Only (Value.slice Ao i co).ownBlock.toList (W3.alloc (.cells #[.slice Al (J[i].2 + 72) cl] 28)) w5) (ho5 : w5.ownsRow w.heap.size 28 1 (.slice A5 (i + 1) c5) (i + 1) (O.map (·.1) ++ [.slice Al (J[i].2 + 72) cl])) :
    GrOS w w5 J (i + 1) (O ++ [(.slice Al (J[i].2 + 72) cl, J[i].2 + 72)]) A5 c5 := by
  have hout := World.ownsRow.lt h.out
  have hpl := World.ownsRow.lt (hJ.own i hi)
  have ko : Only (Value.slice Ao i co).ownBlock.toList W3 w5 := (((Only.refl [] W3).alloc _).of_nil).trans hO5
  have hpW : ∀ b, J[i].1.ownBlock = some b → b < w.heap.size := fun b q => (hpl b q).2
  -- what lies in numbers is not turned by the list of lists
  have hnt : ∀ b cur, Blk W3 b 92 cur → b ∉ (Value.slice Ao i co).ownBlock.toList := fun b cur hb q => by
    have q' : (Value.slice Ao i co).ownBlock = some b := by simpa using q
    obtain ⟨c1, h1⟩ := own_type h.out q'
    have hbp : b ∉ (Value.slice Ap J[i].2 cp).ownBlock.toList := fun z => by
      have h2 := (hout b q').1
      have h3 := hpW b (by rw [hp]; simpa using z)
      omega
    exact (hg.only.blk h1 hbp).other hb (by decide) rfl
  have hOl : (O ++ [(Value.slice Al (J[i].2 + 72) cl, J[i].2 + 72)]).length = i + 1 := by rw [List.length_append, h.olen]; rfl
  have hget : ∀ k (hk : k < (O ++ [(Value.slice Al (J[i].2 + 72) cl, J[i].2 + 72)]).length), (∃ hk2 : k < O.length, (O ++ [(Value.slice Al (J[i].2 + 72) cl, J[i].2 + 72)])[k] = O[k]) ∨ (k = i ∧ (O ++ [(Value.slice Al (J[i].2 + 72) cl, J[i].2 + 72)])[k] = (.slice Al (J[i].2 + 72) cl, J[i].2 + 72)) := fun k hk => by
    by_cases q : k < O.length
    · exact .inl ⟨q, List.getElem_append_left q⟩
    · right
      have hki : k = i := by
        have := h.olen
        rw [hOl] at hk
        omega
      refine ⟨hki, ?_⟩
      rw [List.getElem_append_right (by omega)]
      simp
  have hOp : ∀ k (hk : k < O.length) b, O[k].1.ownBlock = some b → b ∉ (Value.slice Ap J[i].2 cp).ownBlock.toList := fun k hk b q z => by
    have z' : J[i].1.ownBlock = some b := by rw [hp]; simpa using z
    have hki : k < i := by rw [h.olen] at hk; exact hk
    rcases h.blk k hk (by omega) b q with y | y
    · exact hJ.dis k i (by omega) hi (by omega) b y z'
    · have := hpW b z'
      omega
  have hJp : ∀ k (hk : k < J.length), k ≠ i → ∀ b, J[k].1.ownBlock = some b → b ∉ (Value.slice Ap J[i].2 cp).ownBlock.toList := fun k hk hki b q z => hJ.dis k i hk hi hki b q (by rw [hp]; simpa using z)
  have hJo : ∀ k (hk : k < J.length) b, J[k].1.ownBlock = some b → b ∉ (Value.slice Ao i co).ownBlock.toList := fun k hk b q z => by
    have h1 := (hout b (by simpa using z)).1
    have h2 := (World.ownsRow.lt (hJ.own k hk) b q).2
    omega
  have hlt3 := World.ownsRow.lt hg.own
  refine ⟨hOl, by rw [List.map_append]; exact ho5, fun k hk hkJ => ?_, fun k hk => ?_, fun k hk => ?_, fun k hk b q => ?_, fun k hk hkJ b q => ?_, fun k hk hki => ?_, fun k hk hki => ?_⟩
  · rcases hget k hk with ⟨hk2, e⟩ | ⟨e1, e⟩
    · rw [e]; exact h.two k hk2 hkJ
    · subst e1; rw [e]
  · rcases hget k hk with ⟨hk2, e⟩ | ⟨e1, e⟩
    · rw [e]; exact h.lit k hk2
    · rw [e]; exact ⟨Al, cl, rfl⟩
  · rcases hget k hk with ⟨hk2, e⟩ | ⟨e1, e⟩
    · rw [e]
      refine ((h.slc k hk2).only hg.only (fun b q => hOp k hk2 b q)).only ko (fun b q => ?_)
      obtain ⟨cur, hb⟩ := h.typ k hk2 b q
      exact hnt b cur (hg.only.blk hb (hOp k hk2 b q))
    · rw [e]
      subst e1
      refine (Slc.of_own hg.own).1.only ko (fun b q => ?_)
      obtain ⟨cur, hb⟩ := own_type hg.own q
      exact hnt b cur hb
  · rcases hget k hk with ⟨hk2, e⟩ | ⟨e1, e⟩
    · rw [e] at q
      obtain ⟨cur, hb⟩ := h.typ k hk2 b q
      have hb3 := hg.only.blk hb (hOp k hk2 b q)
      exact ⟨cur, ko.blk hb3 (hnt b cur hb3)⟩
    · rw [e] at q
      obtain ⟨cur, hb⟩ := own_type hg.own q
      exact ⟨cur, ko.blk hb (hnt b cur hb)⟩
  · rcases hget k hk with ⟨hk2, e⟩ | ⟨e1, e⟩
    · rw [e] at q; exact h.blk k hk2 hkJ b q
    · rw [e] at q
      subst e1
      rcases hg.blk b q with y | y
      · exact .inl (by rw [hp]; exact y)
      · exact .inr (by omega)
  · by_cases e : k = i
    · subst e
      have ho := hg.old
      rw [← hp] at ho
      exact ho.only ko (fun b q => hJo k hk b q)
    · exact ((h.old k hk (by omega)).only hg.only (fun b q => hJp k hk e b q)).only ko (fun b q => hJo k hk b q)
  · have hne : k ≠ i := by omega
    exact own_only (own_only (h.rest k hk (by omega)) hg.only (fun b q => hJp k hk hne b q)) ko (fun b q => hJo k hk b q)
end Go.Proofs.YteinoiicnmemhaaGreatDoor
/- The book: growStored, the walk. -/
set_option linter.unusedVariables false
set_option linter.unusedSimpArgs false
namespace Go.Proofs.YteinoiicnmemhaaGreatDoor
open Go.RowKit Go Go.Sort
end Go.Proofs.YteinoiicnmemhaaGreatDoor
/- The document's Do: what is refused, what is only marked, a stream that is deleted. -/
set_option linter.unusedVariables false
set_option linter.unusedSimpArgs false
namespace Go.Proofs.YteinoiicnmemhaaGreatDoor
open Go Go.RowKit Go.Sort
theorem HasD.ls {a w : World} {H : List Nat} {rb : Nat} {r : RS} (h : HasD a w H rb r) : ∃ A c, w.cell? ⟨rb, 0, none⟩ = some (.slice A r.l.length c) ∧ r.l.length ≤ c ∧ c ≤ 2 ^ 63 - 1 := by
  obtain ⟨⟨vl, vs, hA, rfl⟩, -, -⟩ := h
  obtain ⟨A, c, e, h1, h2⟩ := own_form hA.l
  subst e
  exact ⟨A, c, hA.blk.cell 0, h1, by unfold maxLen at h2; exact h2⟩
section
variable {a w : World} {H : List Nat} {rb : Nat} {r : RS}
end
end Go.Proofs.YteinoiicnmemhaaGreatDoor
/- The document's Do: metadata, deletion. -/
set_option linter.unusedVariables false
set_option linter.unusedSimpArgs false
namespace Go.Proofs.YteinoiicnmemhaaGreatDoor
open Go Go.RowKit Go.Sort
section
variable {a w : World} {H : List Nat} {rb : Nat} {r : RS}
end
end Go.Proofs.YteinoiicnmemhaaGreatDoor
/- The document's Do: deletion. -/
set_option linter.unusedVariables false
set_option linter.unusedSimpArgs false
namespace Go.Proofs.YteinoiicnmemhaaGreatDoor
open Go Go.RowKit Go.Sort
section
variable {a w : World} {H : List Nat} {rb : Nat} {r : RS}
end
end Go.Proofs.YteinoiicnmemhaaGreatDoor
/- The document's Do: an append. -/
set_option linter.unusedVariables false
set_option linter.unusedSimpArgs false
namespace Go.Proofs.YteinoiicnmemhaaGreatDoor
open Go Go.RowKit Go.Sort
section
variable {a w : World} {H : List Nat} {rb : Nat} {r : RS}
end
end Go.Proofs.YteinoiicnmemhaaGreatDoor
/- The document's Do: an append of what is not there. -/
set_option linter.unusedVariables false
set_option linter.unusedSimpArgs false
namespace Go.Proofs.YteinoiicnmemhaaGreatDoor
open Go Go.RowKit Go.Sort
section
variable {a w : World} {H : List Nat} {rb : Nat} {r : RS}
end
end Go.Proofs.YteinoiicnmemhaaGreatDoor
/- The document's Do: every command. -/
set_option linter.unusedVariables false
set_option linter.unusedSimpArgs false
namespace Go.Proofs.YteinoiicnmemhaaGreatDoor
open Go Go.RowKit Go.Sort
section
variable {a w : World} {H : List Nat} {rb : Nat} {r : RS}
theorem do_slen (r : RS) (c : Cmd) : (r.do c).2.s.length ≤ r.s.length + 3 := by
  have k1 := fun (R : RS) n => keep_len R n
  have p1 := fun (R : RS) x => put_len R x
  unfold RS.do
  split
  · show r.s.length ≤ _; omega
  · dsimp only
    split
    · show r.s.length ≤ _; omega
    · split
      · have := k1 (r.tick c.time) c.stream
        have e : (r.tick c.time).s.length = r.s.length := rfl
        dsimp only at *
        omega
      · unfold RS.act
        dsimp only
        have e : (r.tick c.time).s.length = r.s.length := rfl
        split
        · have q1 := k1 (r.tick c.time) c.stream
          have q2 := p1 ((r.tick c.time).keep c.stream) { ((r.tick c.time).keep c.stream).get c.stream with mt := c.mt }
          have q3 := k1 (((r.tick c.time).keep c.stream).put { ((r.tick c.time).keep c.stream).get c.stream with mt := c.mt }) c.stream
          dsimp only at *
          omega
        · split
          · split
            · have q1 := k1 (r.tick c.time) c.stream
              dsimp only at *
              omega
            · have q2 := p1 (r.tick c.time) { (r.tick c.time).get c.stream with deleted := true }
              have q3 := k1 ((r.tick c.time).put { (r.tick c.time).get c.stream with deleted := true }) c.stream
              dsimp only at *
              omega
          · split
            · have q1 := k1 (r.tick c.time) c.stream
              dsimp only at *
              omega
            · split
              · have q1 := k1 (r.tick c.time) c.stream
                dsimp only at *
                omega
              · have q1 := k1 ({ r.tick c.time with l := (r.tick c.time).l ++ storedOf c.stream (r.tick c.time).now c.events ((r.tick c.time).of c.stream).length (r.tick c.time).l.length } : RS) c.stream
                have e2 : ({ r.tick c.time with l := (r.tick c.time).l ++ storedOf c.stream (r.tick c.time).now c.events ((r.tick c.time).of c.stream).length (r.tick c.time).l.length } : RS).s.length = r.s.length := rfl
                dsimp only at *
                omega
end
end Go.Proofs.YteinoiicnmemhaaGreatDoor
/- The book's names. -/
set_option linter.unusedVariables false
set_option linter.unusedSimpArgs false
namespace Go.Proofs.YteinoiicnmemhaaGreatDoor
open Go.RowKit Go Go.Sort
def nmL (i k : Nat) : List UInt8 := [109, UInt8.ofNat (65 + i % 26), UInt8.ofNat (65 + i / 26 % 26), UInt8.ofNat (48 + k % 10), UInt8.ofNat (48 + k / 10 % 10), UInt8.ofNat (48 + k / 100 % 10)]
def nm (i k : Nat) : ByteArray := ⟨(nmL i k).toArray⟩
end Go.Proofs.YteinoiicnmemhaaGreatDoor
/- The book's marks for texts; what is still as it was. Printed by t2t.py from Ra1. -/
set_option linter.unusedVariables false
set_option linter.unusedSimpArgs false
namespace Go.Proofs.YteinoiicnmemhaaGreatDoor
open Go.RowKit Go Go.Sort
theorem infoTx : (Tryz.prog.info? 9).map (fun i => (i.zero, i.size, i.bytes)) = some (some (.string ⟨#[]⟩), 1, 16) := by kernel_rfl
def mkT (i f n : Nat) : List ByteArray := (List.range n).map (fun k : Nat => nm i (f + k))
theorem mkT_len (i f n : Nat) : (mkT i f n).length = n := by simp [mkT]
theorem mkT_succ (i f n : Nat) : mkT i f (n + 1) = mkT i f n ++ [nm i (f + n)] := by simp [mkT, List.range_succ]
theorem mkT_app (i f n m : Nat) : mkT i f n ++ mkT i (f + n) m = mkT i f (n + m) := by
  induction m with
  | zero => simp [mkT]
  | succ m ih =>
    rw [mkT_succ, ← List.append_assoc, ih, ← Nat.add_assoc, mkT_succ, Nat.add_assoc]
end Go.Proofs.YteinoiicnmemhaaGreatDoor
/- The book: all lists of numbers are marked. -/
set_option linter.unusedVariables false
set_option linter.unusedSimpArgs false
namespace Go.Proofs.YteinoiicnmemhaaGreatDoor
open Go.RowKit Go Go.Sort
end Go.Proofs.YteinoiicnmemhaaGreatDoor
/- The book: putInts. -/
set_option linter.unusedVariables false
set_option linter.unusedSimpArgs false
namespace Go.Proofs.YteinoiicnmemhaaGreatDoor
open Go.RowKit Go Go.Sort
section
variable {w w' : World} {bb : Nat} {cs : Array Value} {A : Option Addr} {c : Nat} {I : List (Value × List Value)}
end
end Go.Proofs.YteinoiicnmemhaaGreatDoor
/- The book: markedInts. -/
set_option linter.unusedVariables false
set_option linter.unusedSimpArgs false
namespace Go.Proofs.YteinoiicnmemhaaGreatDoor
open Go.RowKit Go Go.Sort
/-- Lists that have their marks. -/
structure MkdT (w : World) (A : Option Addr) (c : Nat) (L : List (Value × Nat)) : Prop where
  cap : L.length ≤ c ∧ c ≤ 2 ^ 63 - 1
  few : L.length ≤ 250
  row : ∀ i (h : i < L.length), ∃ vb, A = some ⟨vb, 0, none⟩ ∧ vb < w.heap.size ∧ w.cell? ⟨vb, i, none⟩ = some L[i].1
  lit : ∀ i (h : i < L.length), ∃ A' c', L[i].1 = .slice A' L[i].2 c'
  slc : ∀ i (h : i < L.length), Slc w 1 L[i].1 L[i].2 (strs (mkT i 0 L[i].2))
  len : ∀ i (h : i < L.length), L[i].2 ≤ 1100000
theorem MkdT.keep0 {w w' : World} {A : Option Addr} {c : Nat} {L : List (Value × Nat)} (h : MkdT w A c L) (k : Only [] w w') : MkdT w' A c L :=
  ⟨h.cap, h.few, fun i hi => by
    obtain ⟨vb, e, hl, hc⟩ := h.row i hi
    exact ⟨vb, e, Nat.lt_of_lt_of_le hl k.size, (k.cell hl (by simp)).trans hc⟩, h.lit, fun i hi => (h.slc i hi).only k (by simp), h.len⟩
end Go.Proofs.YteinoiicnmemhaaGreatDoor
/- The book: growing a list, plain part. -/
set_option linter.unusedVariables false
set_option linter.unusedSimpArgs false
namespace Go.Proofs.YteinoiicnmemhaaGreatDoor
open Go.RowKit Go Go.Sort
/-- A list on its way to be grown. -/
structure GrInT (w0 W : World) (i n : Nat) (Ap : Option Addr) (cp : Nat) (nt : Nat) (Al : Option Addr) (cl : Nat) : Prop where
  own : W.ownsRow 0 9 1 (.slice Al nt cl) nt (strs (mkT i 0 nt))
  le : n ≤ nt
  blk : ∀ b, (Value.slice Al nt cl).ownBlock = some b → (Value.slice Ap n cp).ownBlock = some b ∨ w0.heap.size ≤ b
  only : Only (Value.slice Ap n cp).ownBlock.toList w0 W
  old : Slc W 1 (.slice Ap n cp) n (strs (mkT i 0 n))
  zero : ∀ b off, Ap = some ⟨b, off, none⟩ → off = 0
theorem strs_take (i n m : Nat) (h : n ≤ m) : (strs (mkT i 0 m)).take n = strs (mkT i 0 n) := by
  obtain ⟨k, rfl⟩ : ∃ k, m = n + k := ⟨m - n, by omega⟩
  rw [← mkT_app]
  simp [strs, mkT_len]
theorem GrInT.step {w0 W w1 : World} {i n cp nt cl q cm : Nat} {Ap Al Am : Option Addr} (h : GrInT w0 W i n Ap cp nt Al cl) (k1 : Only [] W w1) (hm : w1.ownsRow W.heap.size 9 1 (.slice Am q cm) q (strs (mkT i nt q))) (hb : nt + q ≤ 2000000) :
    ∃ A' c' w2, (Builtin.append_ #[96, 96] 96 #[.slice Al nt cl, .slice Am q cm]).run Tryz.prog w1 = .ok (.slice A' (nt + q) c') w2 ∧ GrInT w0 w2 i n Ap cp (nt + q) A' c' := by
  have hl1 := own_only h.own k1 (by simp)
  have hms := (Slc.of_own hm).1
  obtain ⟨A', c', w2, hr, ho2, hO, hf⟩ := run_app (P := Tryz.prog) 96 96 0 9 (.string ⟨#[]⟩) 1 16 Tryz.underlying96 infoTx rfl (by decide) hl1 hms (strs_one _) (by omega) (by unfold maxLen; omega) (Nat.zero_le _)
  have hold := run_app_old (P := Tryz.prog) 96 96 0 9 (.string ⟨#[]⟩) 1 16 Tryz.underlying96 infoTx rfl (by decide) hl1 hms (strs_one _) (by omega) (by unfold maxLen; omega) (Nat.zero_le _) hr ho2
  have hcs : strs (mkT i 0 nt) ++ strs (mkT i nt q) = strs (mkT i 0 (nt + q)) := by
    rw [← mkT_app i 0 nt q, Nat.zero_add]
    simp [strs]
  rw [hcs] at ho2
  have hsz := h.only.size
  have hsz1 := k1.size
  refine ⟨A', c', w2, hr, ho2, by have := h.le; omega, fun b z => ?_, ?_, keep_old (h.old.only k1 (by simp)) h.zero hl1 (strs_take i n nt h.le) h.le hO hold, h.zero⟩
  · rcases hf b z with y | y
    · exact h.blk b y
    · exact .inr (by omega)
  · refine (h.only.trans k1.of_nil).step hO (fun b z => ?_)
    rcases h.blk b (by simpa using z) with y | y
    · exact .inl (by simp [y])
    · exact .inr y
end Go.Proofs.YteinoiicnmemhaaGreatDoor
/- The book: growInts. -/
set_option linter.unusedVariables false
set_option linter.unusedSimpArgs false
namespace Go.Proofs.YteinoiicnmemhaaGreatDoor
open Go.RowKit Go Go.Sort
/-- The lists that are grown so far. -/
structure GrOT (w W : World) (J : List (Value × Nat)) (i : Nat) (O : List (Value × Nat)) (Ao : Option Addr) (co : Nat) : Prop where
  olen : O.length = i
  out : W.ownsRow w.heap.size 96 1 (.slice Ao i co) i (O.map (·.1))
  two : ∀ k (h : k < O.length) (hk : k < J.length), O[k].2 = J[k].2 + 72
  lit : ∀ k (h : k < O.length), ∃ A' c', O[k].1 = .slice A' O[k].2 c'
  slc : ∀ k (h : k < O.length), Slc W 1 O[k].1 O[k].2 (strs (mkT k 0 O[k].2))
  typ : ∀ k (h : k < O.length) b, O[k].1.ownBlock = some b → ∃ cur, Blk W b 9 cur
  blk : ∀ k (h : k < O.length) (hk : k < J.length) b, O[k].1.ownBlock = some b → J[k].1.ownBlock = some b ∨ w.heap.size ≤ b
  old : ∀ k (hk : k < J.length), k < i → Slc W 1 J[k].1 J[k].2 (strs (mkT k 0 J[k].2))
  rest : ∀ k (hk : k < J.length), i ≤ k → W.ownsRow 0 9 1 J[k].1 J[k].2 (strs (mkT k 0 J[k].2))
/-- The lists, as they were when growing began. -/
structure GrJT (w : World) (J : List (Value × Nat)) : Prop where
  own : ∀ k (hk : k < J.length), w.ownsRow 0 9 1 J[k].1 J[k].2 (strs (mkT k 0 J[k].2))
  lit : ∀ k (hk : k < J.length), ∃ A' c', J[k].1 = .slice A' J[k].2 c'
  dis : ∀ k l (hk : k < J.length) (hl : l < J.length), k ≠ l → ∀ b, J[k].1.ownBlock = some b → J[l].1.ownBlock ≠ some b
  len : ∀ k (hk : k < J.length), J[k].2 ≤ 1000000
  few : J.length ≤ 250
theorem GrJT.start {w : World} {J : List (Value × Nat)} (h : GrJT w J) : GrOT w w J 0 [] none 0 :=
  ⟨rfl, World.ownsRow_nil _ _ _ _, fun k q => absurd q (Nat.not_lt_zero _), fun k q => absurd q (Nat.not_lt_zero _), fun k q => absurd q (Nat.not_lt_zero _), fun k q => absurd q (Nat.not_lt_zero _), fun k q => absurd q (Nat.not_lt_zero _), fun k hk q => absurd q (Nat.not_lt_zero _), fun k hk _ => h.own k hk⟩
/-- One more list is grown, and put behind the others. -/
theorem GrOT.next {w W W3 w5 : World} {J O : List (Value × Nat)} {i co cp cl c5 : Nat} {Ao Ap Al A5 : Option Addr} (hJ : GrJT w J) (h : GrOT w W J i O Ao co) (hi : i < J.length) (hp : J[i].1 = .slice Ap J[i].2 cp) (hW : w.heap.size ≤ W.heap.size) (hg : GrInT W W3 i J[i].2 Ap cp (J[i].2 + 72) Al cl)
    (hO5 : Only (Value.slice Ao i co).ownBlock.toList (W3.alloc (.cells #[.slice Al (J[i].2 + 72) cl] 96)) w5) (ho5 : w5.ownsRow w.heap.size 96 1 (.slice A5 (i + 1) c5) (i + 1) (O.map (·.1) ++ [.slice Al (J[i].2 + 72) cl])) :
    GrOT w w5 J (i + 1) (O ++ [(.slice Al (J[i].2 + 72) cl, J[i].2 + 72)]) A5 c5 := by
  have hout := World.ownsRow.lt h.out
  have hpl := World.ownsRow.lt (hJ.own i hi)
  have ko : Only (Value.slice Ao i co).ownBlock.toList W3 w5 := (((Only.refl [] W3).alloc _).of_nil).trans hO5
  have hpW : ∀ b, J[i].1.ownBlock = some b → b < w.heap.size := fun b q => (hpl b q).2
  -- what lies in numbers is not turned by the list of lists
  have hnt : ∀ b cur, Blk W3 b 9 cur → b ∉ (Value.slice Ao i co).ownBlock.toList := fun b cur hb q => by
    have q' : (Value.slice Ao i co).ownBlock = some b := by simpa using q
    obtain ⟨c1, h1⟩ := own_type h.out q'
    have hbp : b ∉ (Value.slice Ap J[i].2 cp).ownBlock.toList := fun z => by
      have h2 := (hout b q').1
      have h3 := hpW b (by rw [hp]; simpa using z)
      omega
    exact (hg.only.blk h1 hbp).other hb (by decide) rfl
  have hOl : (O ++ [(Value.slice Al (J[i].2 + 72) cl, J[i].2 + 72)]).length = i + 1 := by rw [List.length_append, h.olen]; rfl
  have hget : ∀ k (hk : k < (O ++ [(Value.slice Al (J[i].2 + 72) cl, J[i].2 + 72)]).length), (∃ hk2 : k < O.length, (O ++ [(Value.slice Al (J[i].2 + 72) cl, J[i].2 + 72)])[k] = O[k]) ∨ (k = i ∧ (O ++ [(Value.slice Al (J[i].2 + 72) cl, J[i].2 + 72)])[k] = (.slice Al (J[i].2 + 72) cl, J[i].2 + 72)) := fun k hk => by
    by_cases q : k < O.length
    · exact .inl ⟨q, List.getElem_append_left q⟩
    · right
      have hki : k = i := by
        have := h.olen
        rw [hOl] at hk
        omega
      refine ⟨hki, ?_⟩
      rw [List.getElem_append_right (by omega)]
      simp
  have hOp : ∀ k (hk : k < O.length) b, O[k].1.ownBlock = some b → b ∉ (Value.slice Ap J[i].2 cp).ownBlock.toList := fun k hk b q z => by
    have z' : J[i].1.ownBlock = some b := by rw [hp]; simpa using z
    have hki : k < i := by rw [h.olen] at hk; exact hk
    rcases h.blk k hk (by omega) b q with y | y
    · exact hJ.dis k i (by omega) hi (by omega) b y z'
    · have := hpW b z'
      omega
  have hJp : ∀ k (hk : k < J.length), k ≠ i → ∀ b, J[k].1.ownBlock = some b → b ∉ (Value.slice Ap J[i].2 cp).ownBlock.toList := fun k hk hki b q z => hJ.dis k i hk hi hki b q (by rw [hp]; simpa using z)
  have hJo : ∀ k (hk : k < J.length) b, J[k].1.ownBlock = some b → b ∉ (Value.slice Ao i co).ownBlock.toList := fun k hk b q z => by
    have h1 := (hout b (by simpa using z)).1
    have h2 := (World.ownsRow.lt (hJ.own k hk) b q).2
    omega
  have hlt3 := World.ownsRow.lt hg.own
  refine ⟨hOl, by rw [List.map_append]; exact ho5, fun k hk hkJ => ?_, fun k hk => ?_, fun k hk => ?_, fun k hk b q => ?_, fun k hk hkJ b q => ?_, fun k hk hki => ?_, fun k hk hki => ?_⟩
  · rcases hget k hk with ⟨hk2, e⟩ | ⟨e1, e⟩
    · rw [e]; exact h.two k hk2 hkJ
    · subst e1; rw [e]
  · rcases hget k hk with ⟨hk2, e⟩ | ⟨e1, e⟩
    · rw [e]; exact h.lit k hk2
    · rw [e]; exact ⟨Al, cl, rfl⟩
  · rcases hget k hk with ⟨hk2, e⟩ | ⟨e1, e⟩
    · rw [e]
      refine ((h.slc k hk2).only hg.only (fun b q => hOp k hk2 b q)).only ko (fun b q => ?_)
      obtain ⟨cur, hb⟩ := h.typ k hk2 b q
      exact hnt b cur (hg.only.blk hb (hOp k hk2 b q))
    · rw [e]
      subst e1
      refine (Slc.of_own hg.own).1.only ko (fun b q => ?_)
      obtain ⟨cur, hb⟩ := own_type hg.own q
      exact hnt b cur hb
  · rcases hget k hk with ⟨hk2, e⟩ | ⟨e1, e⟩
    · rw [e] at q
      obtain ⟨cur, hb⟩ := h.typ k hk2 b q
      have hb3 := hg.only.blk hb (hOp k hk2 b q)
      exact ⟨cur, ko.blk hb3 (hnt b cur hb3)⟩
    · rw [e] at q
      obtain ⟨cur, hb⟩ := own_type hg.own q
      exact ⟨cur, ko.blk hb (hnt b cur hb)⟩
  · rcases hget k hk with ⟨hk2, e⟩ | ⟨e1, e⟩
    · rw [e] at q; exact h.blk k hk2 hkJ b q
    · rw [e] at q
      subst e1
      rcases hg.blk b q with y | y
      · exact .inl (by rw [hp]; exact y)
      · exact .inr (by omega)
  · by_cases e : k = i
    · subst e
      have ho := hg.old
      rw [← hp] at ho
      exact ho.only ko (fun b q => hJo k hk b q)
    · exact ((h.old k hk (by omega)).only hg.only (fun b q => hJp k hk e b q)).only ko (fun b q => hJo k hk b q)
  · have hne : k ≠ i := by omega
    exact own_only (own_only (h.rest k hk (by omega)) hg.only (fun b q => hJp k hk hne b q)) ko (fun b q => hJo k hk b q)
end Go.Proofs.YteinoiicnmemhaaGreatDoor
/- The book: growInts, the walk. -/
set_option linter.unusedVariables false
set_option linter.unusedSimpArgs false
namespace Go.Proofs.YteinoiicnmemhaaGreatDoor
open Go.RowKit Go Go.Sort
end Go.Proofs.YteinoiicnmemhaaGreatDoor
/- The book's kinds of which there is no list. -/
set_option linter.unusedVariables false
set_option linter.unusedSimpArgs false
namespace Go.Proofs.YteinoiicnmemhaaGreatDoor
open Go.RowKit Go Go.Sort
end Go.Proofs.YteinoiicnmemhaaGreatDoor
/- The book, apart: from one part to the next. -/
set_option linter.unusedVariables false
set_option linter.unusedSimpArgs false
namespace Go.Proofs.YteinoiicnmemhaaGreatDoor
open Go.RowKit Go Go.Sort
section
variable {w w' : World} {bb : Nat} {cs : Array Value} {A : Option Addr} {c : Nat} {I : List (Value × List Value)} {S : List Nat}
end
section
variable {w w' : World} {bb : Nat} {cs : Array Value} {A : Option Addr} {c : Nat} {I : List (Value × List StoredR)} {S : List Nat}
end
end Go.Proofs.YteinoiicnmemhaaGreatDoor
/- The book: Apart. -/
set_option linter.unusedVariables false
set_option linter.unusedSimpArgs false
namespace Go.Proofs.YteinoiicnmemhaaGreatDoor
open Go.RowKit Go Go.Sort
end Go.Proofs.YteinoiicnmemhaaGreatDoor
/- A region inside a round of a range over a function: what is shown of it outside of rounds holds there too. No program is named. -/
set_option linter.unusedVariables false
set_option linter.unusedSimpArgs false
namespace Go.Proofs.YteinoiicnmemhaaGreatDoor
open Go Go.RowKit Go.Sort
section
variable {P : Program} {md : Region.Mode} {ops : Array Oper} {Q : Exit → Act → World → Prop} {ly n : Nat}
theorem rows_wide {row : String} {args : Array Value} {w : World} {R : Value → World → Prop} (h : Rows P row args w R) : RowsIn (Fence.wide.inRound ly) n P row args w R := fun c cs _ => by
  obtain ⟨v, w', r, s⟩ := h c cs
  exact ⟨v, w', r, stepsIn_wide.2 s⟩
theorem opIn_of {i : Nat} {K K' : Act → World → Prop} {a : Act} {w : World} (hout : ¬ LetsOut Q) (hd : ∀ o : Oper, ops[i]? = some o → ∀ c : Call, o.op ≠ .defer c) (hK : ∀ a w, K a w → K' a w) (h : wpOp P ops Q i K a w) : wpOpIn (Fence.wide.inRound ly) n P ops Q i K' a w := by
  unfold wpOp at h
  unfold wpOpIn
  cases ho : ops[i]? with
  | none =>
    rw [ho] at h
    exact hK _ _ h
  | some o =>
    rw [ho] at h
    dsimp only at h ⊢
    by_cases hw : Region.wanted o (yielded ops a.tmps) = true
    · rw [if_pos hw] at h ⊢
      have h1 := h.resolve_right (fun q => hout q.2)
      refine ⟨fun f _ => trivial, ?_⟩
      rw [Oper.semAt_eq _ _ _ (hd o ho)]
      unfold Oper.wp at h1
      generalize (execOp a.eval o).run P w = r at h1 ⊢
      cases r with
      | ok x w' =>
        cases x with
        | value v => exact hK _ _ h1
        | skip => exact hK _ _ h1
        | defer d => exact hK _ _ h1
        | enter f args =>
          refine ⟨fun q => (by cases q), CallsIn.inRound ly (callsIn_wide.2 (Calls.mono h1 (fun e w'' he => ?_)))⟩
          cases e <;> first | exact hK _ _ he | exact he
        | row row args => exact ⟨fun q => (by cases q), (rows_wide h1).mono (fun v w'' he => hK _ _ he)⟩
        | _ => exact h1.elim
      | halt x w' =>
        cases x <;> first | exact h1 | exact h1.elim
    · rw [if_neg hw] at h ⊢
      exact ⟨fun f _ => trivial, hK _ _ h⟩
theorem anyIn_of (hout : ¬ LetsOut Q) (hd : ∀ (i : Nat) (o : Oper), ops[i]? = some o → ∀ c : Call, o.op ≠ .defer c) : ∀ (fuel : Nat) (listed : Array Bool) (a : Act) (w : World), wpAny P md ops Q fuel listed a w → wpAnyIn (Fence.wide.inRound ly) n P md ops Q fuel listed a w
  | 0, listed, a, w, h => h
  | fuel + 1, listed, a, w, h => ⟨h.1, fun i hi => opIn_of hout (hd i) (fun a w => anyIn_of hout hd fuel _ a w) (h.2 i hi)⟩
def noDefer (ops : Array Oper) : Bool := ops.all fun o => match o.op with | .defer _ => false | _ => true
theorem noDefer_spec {ops : Array Oper} (h : noDefer ops = true) : ∀ (i : Nat) (o : Oper), ops[i]? = some o → ∀ c : Call, o.op ≠ .defer c := fun i o ho c q => by
  have h1 := Array.all_eq_true_iff_forall_mem.1 h o (Array.mem_of_getElem? ho)
  rw [q] at h1
  cases h1
end
section
variable {P : Program} {md : Region.Mode} {C : World → Prop} {Q : Exit → Act → World → Prop} {l : List Oper} {ly n : Nat}
theorem wpIn_region_plan {id : Nat} {a : Act} {w : World} (H T1 T2 : List Nat) (hout : ¬ LetsOut Q) (hnd : noDefer l.toArray = true) (hm : P.follows .mixedOrders = true) (hB : planB .any l.toArray H T1 T2 = true) (hQ : ∀ c d u a w, Q (.panic c) (Act.put a d u) w → Q (.panic c) a w) (hC : C w.drew)
    (h : wpQuiet P l.toArray C (fun a' => wpT1 P l.toArray C Q (opsAt l T1) (fun a w => wpList P l.toArray Q (opsAt l T2) a w) a' w.drew) (opsAt l H) a) : (Code.region id l.toArray true).wpIn (Fence.wide.inRound ly) n P Q a w := by
  simp only [planB, Bool.and_eq_true, decide_eq_true_eq, List.all_eq_true, Bool.or_eq_true, List.contains_iff_mem, Bool.not_eq_true'] at hB
  obtain ⟨⟨hsel, hpl⟩, ⟨hcov, hd1, hd2⟩, hlen, hbe, hhd⟩ := hB
  refine wpIn_region_any hm (anyIn_of hout (noDefer_spec hnd) _ _ _ _ ?_)
  have inv0 : Closed .any l.toArray (Array.replicate l.toArray.size false) := fun j oj _ hl => by rw [getD_replicate_false] at hl; cases hl
  have hd1' : ∀ t ∈ T1 ++ T2, t ∉ H := fun t ht q => by
    have := hd1 t ht
    rw [List.contains_eq_mem, decide_eq_true q] at this
    cases this
  have hd2' : ∀ t ∈ T2, t ∉ T1 := fun t ht q => by
    have := hd2 t ht
    rw [List.contains_eq_mem, decide_eq_true q] at this
    cases this
  have h2 : ∀ t ∈ T2, t ∉ H ∧ t ∉ T1 := fun t ht => ⟨hd1' t (by simp [ht]), hd2' t ht⟩
  have := plan_H (md := .any) (H := H) (T1 := T1) (T := T1 ++ T2) hsel hQ hC (fun listed a hs hl => plan_T1 h2 T1 listed a w.drew (fun t ht => hd1' t (by simp [ht])) hs hl) H _ a (fun h hh => ⟨hh, hpl h hh⟩) hhd h
  rw [hlen] at this
  exact anyP_any hbe (fun i hi => hcov i (List.mem_range.2 hi)) _ _ _ _ inv0 (.inl hC) this
theorem wpIn_region_in {id : Nat} {a : Act} {w : World} (S H T1 T2 : List Nat) (hout : ¬ LetsOut Q) (hnd : noDefer l.toArray = true) (hm : P.follows .mixedOrders = true) (hB : planB .any l.toArray H T1 T2 = true) (hQ : ∀ c d u a w, Q (.panic c) (Act.put a d u) w → Q (.panic c) a w)
    (h : wpQuiet P l.toArray (fun W => ∃ p : Within S w, W = p.W) (fun a' => wpT1 P l.toArray (fun W => ∃ p : Within S w, W = p.W) Q (opsAt l T1) (fun a w => wpList P l.toArray Q (opsAt l T2) a w) a' w.drew) (opsAt l H) a) : (Code.region id l.toArray true).wpIn (Fence.wide.inRound ly) n P Q a w :=
  wpIn_region_plan H T1 T2 hout hnd hm hB hQ ⟨⟨_, (Only.refl S w).drew⟩, rfl⟩ h
end
end Go.Proofs.YteinoiicnmemhaaGreatDoor
/- Plans of many parts, where each part may hold forks: reads; pairs of early ones in either order; further early ones. No program is named. -/
set_option linter.unusedVariables false
set_option linter.unusedSimpArgs false
namespace Go.Proofs.YteinoiicnmemhaaGreatDoor
open Go Go.RowKit Go.Sort
/-- Reads, forks, early ones. -/
abbrev GStage := List Nat × List (Nat × Nat) × List Nat
section
variable {P : Program} {md : Region.Mode} {C : World → Prop} {Q : Exit → Act → World → Prop} {l : List Oper}
def forksTo (md : Region.Mode) (ops : Array Oper) (S : Array Bool → Bool) : List (Nat × Nat) → Array Bool → Bool
  | [] => S
  | (x, y) :: r => forkTo md ops (forksTo md ops S r) x y
def gTo (md : Region.Mode) (ops : Array Oper) (S : Array Bool → Bool) : List GStage → Array Bool → Bool
  | [] => S
  | (H, F, A) :: r => headTo md ops (forksTo md ops (seqTo md ops (gTo md ops S r) A) F) H
def wpForks (P : Program) (l : List Oper) (C : World → Prop) (Q : Exit → Act → World → Prop) (R : Act → World → Prop) : List (Nat × Nat) → Act → World → Prop
  | [] => R
  | (x, y) :: r => ForkGo P l C Q x y (wpForks P l C Q R r)
def wpG (P : Program) (l : List Oper) (C : World → Prop) (Q : Exit → Act → World → Prop) (K : Act → World → Prop) : List GStage → Act → World → Prop
  | [] => K
  | (H, F, A) :: r => fun a w => wpQuiet P l.toArray C (fun a' => wpForks P l C Q (fun a w => wpT1 P l.toArray C Q (opsAt l A) (wpG P l C Q K r) a w) F a' w) (opsAt l H) a
def fLen : List (Nat × Nat) → Nat → Nat
  | [], n => n
  | _ :: r, n => fLen r n + 1 + 1
def gLen : List GStage → Nat → Nat
  | [], n => n
  | (H, F, A) :: r, n => H.length + fLen F (A.length + gLen r n)
theorem plan_forks {H T1 : List Nat} {n : Nat} {S : Array Bool → Bool} {R : Act → World → Prop} (hR : ∀ listed a w, S listed = true → R a w → AnyP P md l.toArray C Q H T1 n listed a w) :
    ∀ (F : List (Nat × Nat)) (listed : Array Bool) (a : Act) (w : World), (∀ p ∈ F, p.1 ∉ H ∧ p.2 ∉ H) → forksTo md l.toArray S F listed = true → wpForks P l C Q R F a w → AnyP P md l.toArray C Q H T1 (fLen F n) listed a w
  | [], listed, a, w, _, hs, h => hR listed a w hs h
  | (x, y) :: r, listed, a, w, hd, hs, h => by
    obtain ⟨M, m1, m2, m3⟩ := h
    exact plan_fork (S := forksTo md l.toArray S r) (L := M) (fun listed a w hs hM => plan_forks hR r listed a w (fun p hp => hd p (by simp [hp])) hs (m3 a w hM)) x y listed a w (hd (x, y) (by simp)).1 (hd (x, y) (by simp)).2 hs m1 m2
theorem plan_g {H T1 : List Nat} {n : Nat} {S : Array Bool → Bool} {K : Act → World → Prop} (hsel : Region.noSelect l.toArray = true) (hQ : ∀ c d u a w, Q (.panic c) (Act.put a d u) w → Q (.panic c) a w)
    (hK : ∀ listed a w, S listed = true → K a w → AnyP P md l.toArray C Q H T1 n listed a w) :
    ∀ (st : List GStage) (listed : Array Bool) (a : Act) (w : World), (∀ p ∈ st, (∀ h ∈ p.1, h ∈ H ∧ plainAt l.toArray h = true) ∧ (∀ q ∈ p.2.1, q.1 ∉ H ∧ q.2 ∉ H) ∧ ∀ t ∈ p.2.2, t ∉ H) → gTo md l.toArray S st listed = true → wpG P l C Q K st a w →
      AnyP P md l.toArray C Q H T1 (gLen st n) listed a w
  | [], listed, a, w, _, hs, h => hK listed a w hs h
  | (H1, F, A) :: r, listed, a, w, hd, hs, h =>
    plan_Hn (S := forksTo md l.toArray (seqTo md l.toArray (gTo md l.toArray S r) A) F) hsel hQ
      (fun listed a hs h => plan_forks (S := seqTo md l.toArray (gTo md l.toArray S r) A) (fun listed a w hs h => plan_A (S := gTo md l.toArray S r) (fun listed a w hs h => plan_g hsel hQ hK r listed a w (fun p hp => hd p (by simp [hp])) hs h) A listed a w (hd (H1, F, A) (by simp)).2.2 hs h) F listed a w (hd (H1, F, A) (by simp)).2.1 hs h)
      H1 listed a (hd (H1, F, A) (by simp)).1 hs h
def forksL (F : List (Nat × Nat)) : List Nat := F.flatMap fun p => [p.1, p.2]
def gOrder : List GStage → List Nat
  | [] => []
  | (H, F, A) :: r => H ++ (forksL F ++ (A ++ gOrder r))
def gH (st : List GStage) : List Nat := st.flatMap (·.1)
def gT (st : List GStage) : List Nat := st.flatMap fun p => forksL p.2.1 ++ p.2.2
def planG (md : Region.Mode) (ops : Array Oper) (st : List GStage) (T2 : List Nat) : Bool :=
  (Region.noSelect ops && ((gH st).all (plainAt ops) && (gT st).all (fun i => !(gH st).contains i))) &&
    (((List.range ops.size).all (fun i => (gH st).contains i || ((gT st).contains i || T2.contains i)) && T2.all (fun i => !(gH st).contains i && !(gT st).contains i)) &&
      ((gH st).all (fun i => (gOrder st).contains i) && (decide (gLen st T2.length = ops.size) && (behindB md ops (gOrder st) T2 && gTo md ops (seqL md ops T2) st (Array.replicate ops.size false)))))
theorem any_region_g {a : Act} {w : World} (st : List GStage) (T2 : List Nat) (hB : planG .any l.toArray st T2 = true) (hQ : ∀ c d u a w, Q (.panic c) (Act.put a d u) w → Q (.panic c) a w) (hC : C w.drew)
    (h : wpG P l C Q (fun a w => wpList P l.toArray Q (opsAt l T2) a w) st a w.drew) : wpAny P .any l.toArray Q l.toArray.size (Array.replicate l.toArray.size false) a w.drew := by
  simp only [planG, Bool.and_eq_true, decide_eq_true_eq, List.all_eq_true, Bool.or_eq_true, List.contains_iff_mem, Bool.not_eq_true'] at hB
  obtain ⟨⟨hsel, hpl, hd1⟩, ⟨hcov, hd2⟩, hz, hlen, hbe, hst⟩ := hB
  have inv0 : Closed .any l.toArray (Array.replicate l.toArray.size false) := fun j oj _ hl => by rw [getD_replicate_false] at hl; cases hl
  have no : ∀ {L : List Nat} {t : Nat}, L.contains t = false → t ∉ L := fun {L t} h q => by rw [List.contains_eq_mem, decide_eq_true q] at h; cases h
  have := plan_g (C := C) (md := .any) (H := gH st) (T1 := gT st) (S := seqL .any l.toArray T2) hsel hQ
    (fun listed a w hs h => plan_T2 T2 listed a w (fun t ht => ⟨no (hd2 t ht).1, no (hd2 t ht).2⟩) hs h) st _ a w.drew
    (fun p hp => ⟨fun x hx => ⟨List.mem_flatMap.2 ⟨p, hp, hx⟩, hpl x (List.mem_flatMap.2 ⟨p, hp, hx⟩)⟩,
      fun q hq => ⟨no (hd1 q.1 (List.mem_flatMap.2 ⟨p, hp, List.mem_append_left _ (List.mem_flatMap.2 ⟨q, hq, by simp⟩)⟩)), no (hd1 q.2 (List.mem_flatMap.2 ⟨p, hp, List.mem_append_left _ (List.mem_flatMap.2 ⟨q, hq, by simp⟩)⟩))⟩,
      fun t ht => no (hd1 t (List.mem_flatMap.2 ⟨p, hp, List.mem_append_right _ ht⟩))⟩) hst h
  rw [hlen] at this
  exact anyP_anyZ hbe (fun x hx => hz x hx) (fun i hi => by
    rcases hcov i (List.mem_range.2 hi) with q | q | q
    · exact .inl q
    · exact .inr (.inl q)
    · exact .inr (.inr q)) _ _ _ _ inv0 (.inl hC) this
theorem wpIn_region_g {ly n id : Nat} {a : Act} {w : World} (st : List GStage) (T2 : List Nat) (hout : ¬ LetsOut Q) (hnd : noDefer l.toArray = true) (hm : P.follows .mixedOrders = true) (hB : planG .any l.toArray st T2 = true) (hQ : ∀ c d u a w, Q (.panic c) (Act.put a d u) w → Q (.panic c) a w) (hC : C w.drew)
    (h : wpG P l C Q (fun a w => wpList P l.toArray Q (opsAt l T2) a w) st a w.drew) : (Code.region id l.toArray true).wpIn (Fence.wide.inRound ly) n P Q a w := wpIn_region_any hm (anyIn_of hout (noDefer_spec hnd) _ _ _ _ (any_region_g st T2 hB hQ hC h))
variable {K : Act → World → Prop} {a : Act} {w : World} {H A : List Nat} {r : List GStage} {x y : Nat} {T2 : List Nat}
theorem gNext (h : wpQuiet P l.toArray C (fun a' => wpT1 P l.toArray C Q (opsAt l A) (wpG P l C Q K r) a' w) (opsAt l H) a) : wpT1 P l.toArray C Q (opsAt l []) (wpG P l C Q K ((H, [], A) :: r)) a w := h
/-- A part with one fork. -/
theorem gFirstF (h : wpQuiet P l.toArray C (fun a' => ForkGo P l C Q x y (fun a w => wpT1 P l.toArray C Q (opsAt l A) (wpG P l C Q K r) a w) a' w) (opsAt l H) a) : wpG P l C Q K ((H, [(x, y)], A) :: r) a w := h
theorem gEnd (h : wpList P l.toArray Q (opsAt l T2) a w) : wpT1 P l.toArray C Q (opsAt l []) (wpG P l C Q (fun a w => wpList P l.toArray Q (opsAt l T2) a w) []) a w := h
end
end Go.Proofs.YteinoiicnmemhaaGreatDoor
/- slices.Backward over stored events: its iterator, for every loop body that keeps two blocks (the list's and the closure's). -/
set_option linter.unusedVariables false
set_option linter.unusedSimpArgs false
namespace Go.Proofs.YteinoiicnmemhaaGreatDoor
open Go Go.RowKit Go.Shelf Go.Proofs
attribute [local go_sem] Oper.semAt_some
/-- An event of the list, and its place. -/
structure BkE (l : List StoredR) where
  i : Int
  x : StoredR
  mem : x ∈ l
def bkV {l : List StoredR} (e : BkE l) : Array Value := #[.int .i64 e.i, .agg #[.int .i64 e.x.ev.id, .string e.x.ev.type, .string e.x.ev.data, .float .f64 e.x.ev.value, .string e.x.stream, .int .i64 e.x.version, .int .i64 e.x.position, .int .i64 e.x.time]]
theorem bk_step {l : List StoredR} {k : Nat} (hk : k < l.length) {pre : List (BkE l)} (h : pre.map (·.x) = (l.drop (l.length - k)).reverse) (hm : l[l.length - k - 1] ∈ l) :
    (pre ++ [(⟨((l.length - k - 1 : Nat) : Int), l[l.length - k - 1], hm⟩ : BkE l)]).map (·.x) = (l.drop (l.length - (k + 1))).reverse := by
  have e : l.length - (k + 1) = l.length - k - 1 := by omega
  rw [List.map_append, h, e, List.drop_eq_getElem_cons (i := l.length - k - 1) (by omega), List.reverse_cons]
  have e2 : l.length - k - 1 + 1 = l.length - k := by omega
  rw [e2]
  rfl
/-- The blocks of T stay as they are. -/
def KeepT (T : List Nat) (A B : World) : Prop := A.heap.size ≤ B.heap.size ∧ ∀ i ∈ T, B.heap[i]? = A.heap[i]?
theorem KeepT.refl (T : List Nat) (A : World) : KeepT T A A := ⟨Nat.le_refl _, fun _ _ => rfl⟩
theorem KeepT.trans {T : List Nat} {A B C : World} (h : KeepT T A B) (k : KeepT T B C) : KeepT T A C := ⟨Nat.le_trans h.1 k.1, fun i hi => (k.2 i hi).trans (h.2 i hi)⟩
theorem KeepT.cell {T : List Nat} {A B : World} (h : KeepT T A B) {p : Addr} (hp : p.block ∈ T) : B.cell? p = A.cell? p := World.cell?_of_block (h.2 _ hp)
theorem KeepT.put {T : List Nat} {w : World} (hT : ∀ i ∈ T, i < w.heap.size) : ∀ (W : World) (l : Nat) (o o' : Obj), w.heap.size ≤ l → W.heap[l]? = some o → o.isCells = false → o.isWalk = false → KeepT T W (W.putObj l o') := fun W l o o' hl _ _ _ => ⟨by simp [World.putObj], fun i hi => by
  have := hT i hi
  have h : l ≠ i := by omega
  simp [World.putObj, Array.getElem?_setIfInBounds, h]⟩
theorem KeepT.only {T S : List Nat} {A B : World} (k : Only S A B) (hT : ∀ i ∈ T, i < A.heap.size ∧ i ∉ S) : KeepT T A B := ⟨k.size, fun i hi => k.block i (hT i hi).1 (hT i hi).2⟩
set_option maxRecDepth 100000 in
set_option maxHeartbeats 2000000 in
theorem bk1_in (F : Fence) (n : Nat) (h8 : F.fn 172) (hro : F.round = none) (hn : 1 ≤ n) (T : List Nat) (ly Bs b off cap : Nat) (l : List StoredR) (hreach : l.length ≤ 1000000) (hb : b ∈ T) (J Jx : List (BkE l) → World → Prop)
    (hY : ∀ pre x W, J pre W → pre.length < l.length → YieldAt F (n - 1) Tryz.prog ly (bkV x) W fun e W' =>
      (e = .returned (.bool true) ∧ J (pre ++ [x]) W' ∧ KeepT T W W') ∨ (e = .returned (.bool false) ∧ Jx (pre ++ [x]) W'))
    (W : World) (hBl : Bs ∈ T) (hBs : W.cell? ⟨Bs, 0, none⟩ = some (.slice (some ⟨b, off, none⟩) l.length cap))
    (hc : ∀ j (hj : j < l.length), ∀ r, r < 8 → W.cell? ⟨b, off + j * 8 + r, none⟩ = (l[j].cells)[r]?) (h0 : J [] W) :
    CallsIn F n Tryz.prog 172 #[.func (.yield ly) #[] #[], .pointer (some ⟨Bs, 0, none⟩)] W fun e W' => (∃ v, e = .returned v) ∧
      ((∃ ys, ys.map (·.x) = l.reverse ∧ J ys W') ∨ (∃ pre, pre.map (·.x) <+: l.reverse ∧ Jx pre W')) := by
  refine callsIn_of_wp Tryz.func172 rfl h8 ?_ hro
  simp only [Tryz.ntmps172, List.size_toArray, List.length_cons, List.length_nil, Nat.reduceAdd, Nat.reduceSub, Array.replicate_succ, Array.replicate_zero, List.push_toArray, List.append_toArray, List.nil_append, List.cons_append]
  have hbd : ∀ k, k < l.length → l.length - k - 1 < l.length := fun k h => by omega
  have e0 := IntWalk.i64_in ((l.length : Int) - 1) ⟨by omega, by omega⟩
  gi_wp2
  gi_loopw [3] (fun i wr => ∃ (k : Nat) (pre : List (BkE l)), k ≤ l.length ∧ i = .int .i64 ((l.length : Int) - k - 1) ∧ pre.length = k ∧ pre.map (·.x) = (l.drop (l.length - k)).reverse ∧ J pre wr ∧ KeepT T W wr)
    (fun i _ => (intOf i + 1).toNat)
  case atStart => exact ⟨0, [], Nat.zero_le _, by simp, rfl, by simp, h0, KeepT.refl _ _⟩
  case round =>
    obtain ⟨k, pre, hk, rfl, hpl, hpm, hJs, hnx⟩ := hrel
    have hbx : wr.cell? ⟨Bs, 0, none⟩ = some (.slice (some ⟨b, off, none⟩) l.length cap) := (hnx.cell (p := ⟨Bs, 0, none⟩) hBl).trans hBs
    by_cases hlt : k < l.length
    · have hm : l[l.length - k - 1]'(hbd k hlt) ∈ l := List.getElem_mem (hbd k hlt)
      have hst := bk_step hlt hpm hm
      obtain ⟨fn, tmps, assign, body, hy, hR⟩ := hY pre ⟨((l.length - k - 1 : Nat) : Int), l[l.length - k - 1]'(hbd k hlt), hm⟩ wr hJs (by omega)
      have hcc := hc (l.length - k - 1) (hbd k hlt)
      obtain ⟨j, hj⟩ : ∃ j, j = l.length - k - 1 := ⟨_, rfl⟩
      have hjl : j < l.length := by omega
      have hi : (l.length : Int) - k - 1 = (j : Int) := by omega
      obtain ⟨s, hs⟩ : ∃ s, s = l[l.length - k - 1]'(hbd k hlt) := ⟨_, rfl⟩
      rw [← hs] at hcc
      unfold bkV at hy
      dsimp only at hy
      rw [← hs] at hy
      rw [← hj] at hy hcc
      rw [hi]
      have c0 : wr.cell? ⟨b, off + j * 8, none⟩ = some (.int .i64 s.ev.id) := (hnx.cell (p := ⟨b, off + j * 8, none⟩) hb).trans (hcc 0 (by omega))
      have c1 : wr.cell? ⟨b, off + j * 8 + 1, none⟩ = some (.string s.ev.type) := (hnx.cell (p := ⟨b, off + j * 8 + 1, none⟩) hb).trans (hcc 1 (by omega))
      have c2 : wr.cell? ⟨b, off + j * 8 + 2, none⟩ = some (.string s.ev.data) := (hnx.cell (p := ⟨b, off + j * 8 + 2, none⟩) hb).trans (hcc 2 (by omega))
      have c3 : wr.cell? ⟨b, off + j * 8 + 3, none⟩ = some (.float .f64 s.ev.value) := (hnx.cell (p := ⟨b, off + j * 8 + 3, none⟩) hb).trans (hcc 3 (by omega))
      have c4 : wr.cell? ⟨b, off + j * 8 + 4, none⟩ = some (.string s.stream) := (hnx.cell (p := ⟨b, off + j * 8 + 4, none⟩) hb).trans (hcc 4 (by omega))
      have c5 : wr.cell? ⟨b, off + j * 8 + 5, none⟩ = some (.int .i64 s.version) := (hnx.cell (p := ⟨b, off + j * 8 + 5, none⟩) hb).trans (hcc 5 (by omega))
      have c6 : wr.cell? ⟨b, off + j * 8 + 6, none⟩ = some (.int .i64 s.position) := (hnx.cell (p := ⟨b, off + j * 8 + 6, none⟩) hb).trans (hcc 6 (by omega))
      have c7 : wr.cell? ⟨b, off + j * 8 + 7, none⟩ = some (.int .i64 s.time) := (hnx.cell (p := ⟨b, off + j * 8 + 7, none⟩) hb).trans (hcc 7 (by omega))
      have hsf := stF
      have e1 := IntWalk.i64_in ((j : Int) - 1) ⟨by omega, by omega⟩
      have HST := Lib.hid hst
      have HPL := Lib.hid hpl
      have HR := Lib.hid hR
      have hjk : (j : Int) - 1 = (l.length : Int) - ((k + 1 : Nat) : Int) - 1 := by omega
      have HJK := Lib.hid hjk
      clear hst hpm hcc hs hpl hi hR hjk hj
      gi_wp2
      refine HR.out.mono ?_
      rintro e W3 (⟨rfl, hJ3, hk3⟩ | ⟨rfl, hJx3⟩)
      · gi_wp2
        go_roundw
        case rel => exact ⟨k + 1, _, hlt, by rw [← HJK.out], by rw [List.length_append, HPL.out]; rfl, HST.out, hJ3, hnx.trans hk3⟩
        case measure => simp [intOf]
      · gi_wp2
        refine bodyPost_ret (results_none rfl _ _ _) rfl ?_
        exact ⟨⟨_, rfl⟩, .inr ⟨_, by rw [HST.out]; exact List.reverse_prefix.2 (List.drop_suffix _ _), hJx3⟩⟩
    · have hkl : k = l.length := by omega
      have hi : (l.length : Int) - k - 1 = -1 := by omega
      rw [hi]
      have hfin : pre.map (·.x) = l.reverse := by rw [hpm, hkl, Nat.sub_self]; rfl
      clear hpm hi hkl
      gi_wp2
      go_end0
      exact ⟨⟨_, rfl⟩, .inl ⟨_, hfin, hJs⟩⟩
set_option maxRecDepth 100000 in
theorem bk1_nil_in (F : Fence) (n : Nat) (h8 : F.fn 172) (hro : F.round = none) (ly Bs cap : Nat) (A : Option Addr) (l : List StoredR) (J : List (BkE l) → World → Prop) (W : World) (hBs : W.cell? ⟨Bs, 0, none⟩ = some (.slice A 0 cap)) (h0 : J [] W) :
    CallsIn F n Tryz.prog 172 #[.func (.yield ly) #[] #[], .pointer (some ⟨Bs, 0, none⟩)] W fun e W' => (∃ v, e = .returned v) ∧ J [] W' := by
  refine callsIn_of_wp Tryz.func172 rfl h8 ?_ hro
  simp only [Tryz.ntmps172, List.size_toArray, List.length_cons, List.length_nil, Nat.reduceAdd, Nat.reduceSub, Array.replicate_succ, Array.replicate_zero, List.push_toArray, List.append_toArray, List.nil_append, List.cons_append]
  gi_wp2
  gi_loopw [3] (fun i wr => i = .int .i64 (-1) ∧ J [] wr) (fun _ _ => 0)
  case atStart => exact ⟨rfl, h0⟩
  case round =>
    obtain ⟨rfl, hJs⟩ := hrel
    gi_wp2
    go_end0
    exact ⟨⟨_, rfl⟩, hJs⟩
set_option maxRecDepth 100000 in
theorem back_in (F : Fence) (n : Nat) (h5 : F.fn 145) (hro : F.round = none) (A : Option Addr) (len cap : Nat) (w : World) :
    CallsIn F n Tryz.prog 145 #[.slice A len cap] w fun e w' => e = .returned (.func (.func 172) #[] #[.pointer (some ⟨w.heap.size, 0, none⟩)]) ∧ w' = w.alloc (.cells #[.slice A len cap] 28) := by
  refine callsIn_of_wp Tryz.func145 rfl h5 ?_ hro
  simp only [Tryz.ntmps145, List.size_toArray, List.length_cons, List.length_nil, Nat.reduceAdd, Nat.reduceSub, Array.replicate_succ, Array.replicate_zero, List.push_toArray, List.append_toArray, List.nil_append, List.cons_append]
  gi_wp2
  go_ret
  exact ⟨rfl, rfl⟩
theorem slc_keepT {T : List Nat} {A B : World} {size n : Nat} {v : Value} {cs : List Value} (h : Slc A size v n cs) (hv : ∀ g, v.ownBlock = some g → g ∈ T ∨ n = 0) (k : KeepT T A B) : Slc B size v n cs := by
  rcases Nat.eq_zero_or_pos n with h0 | h0
  · subst h0
    exact h.empty
  · refine h.keep k.1 fun g hg _ => k.2 g ?_
    rcases hv g hg with q | q
    · exact q
    · omega
/-- All of l from the last one on; or the last ones of it. -/
theorem bk_stops2 (F : Fence) (n : Nat) (h8 : F.fn 172) (hro : F.round = none) (hn : 1 ≤ n) (T : List Nat) (Bs : Nat) (A : Option Addr) (cap : Nat) (l : List StoredR) (hreach : l.length ≤ 1000000) (w : World) (hBl : Bs ∈ T) (hTw : ∀ i ∈ T, i < w.heap.size)
    (hc : w.cell? ⟨Bs, 0, none⟩ = some (.slice A l.length cap)) (hI : Slc w 8 (.slice A l.length cap) l.length (l.flatMap StoredR.cells)) (hv : ∀ g, (Value.slice A l.length cap).ownBlock = some g → g ∈ T ∨ l.length = 0) :
    SeqStopsK F n Tryz.prog 172 #[.pointer (some ⟨Bs, 0, none⟩)] (fun x : BkE l => bkV x) (KeepT T) (fun ys => ys.map (·.x) = l.reverse) (fun pre => pre.map (·.x) <+: l.reverse) l.length w := fun ly J Jx W hW _ _ hY h0 => by
  have hKW : KeepT T w W := ⟨hW.size, fun i hi => hW.block i (hTw i hi)⟩
  have hc' := (hKW.cell (p := ⟨Bs, 0, none⟩) hBl).trans hc
  have hI' := slc_keepT hI hv hKW
  rcases Nat.eq_zero_or_pos l.length with h0' | h0'
  · have hl : l.reverse = [] := by rw [List.length_eq_zero_iff.1 h0']; rfl
    rw [h0'] at hc'
    exact (bk1_nil_in F n h8 hro ly Bs cap A l J W hc' h0).mono fun e W' ⟨he, hj⟩ => ⟨he, .inl ⟨_, by rw [hl]; rfl, hj⟩⟩
  · obtain ⟨A', cap', e, h1, h2, h3⟩ := hI'.openE StoredR.cells (fun _ => rfl)
    injection e with e1 e2 e3
    subst e1 e3
    obtain ⟨b, off, rfl, hb, _⟩ := h3 0 h0'
    have hbn : b ∈ T := by
      rcases hv b rfl with q | q
      · exact q
      · omega
    exact bk1_in F n h8 hro hn T ly Bs b off cap l hreach hbn J Jx hY W hBl hc' (fun j hj r hr => by
      obtain ⟨b', off', e, _, hcc⟩ := h3 j hj
      cases e
      exact hcc r hr) h0
end Go.Proofs.YteinoiicnmemhaaGreatDoor
