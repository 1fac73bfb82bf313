/- Proved here: contracts of functions and plain laws, part 10 of one proof. Conditions: each theorem names its own. -/
import Derived.Test.YteinoiicnmemhaaGreatDoorZ3
import Derived.Test.YteinoiicnmemhaaGreatDoorZ7
import Derived.Deep.RegionHeld3
import Derived.StillTailTactics
set_option linter.unusedSimpArgs false
set_option linter.unusedVariables false
namespace Go.Proofs.YteinoiicnmemhaaGreatDoor
section
open Go.RowKit
theorem zeroS (w : World) : (zeroValue 75).run Tryz.prog w = .ok (StreamR.zero.val (.slice none 0 0)) w := by kernel_rfl
theorem find_any {w : World} {M : List Nat} {sb mb : Nat} {av : Value} {pf : ByteArray → Value} {s : MS} (h : StAt w M sb mb av pf s) (n : ByteArray) :
    Calls Tryz.prog 21 #[.pointer (some ⟨sb, 0, none⟩), .string n] w fun e w' => e = .returned ((s.find n).val (pvOf s pf n)) ∧ Only [] w w' := by
  obtain ⟨A, cap, hpv, _⟩ := (h.rd n).1.openI
  have c1 : ∀ o, (w.alloc o).cell? ⟨sb, 1, none⟩ = some (.map (some mb)) := fun o => (World.cell?_alloc_lt w o _ h.blk.lt).trans (h.blk.cell 1)
  have hl := h.look n
  obtain ⟨x, hx⟩ : ∃ x, x = s.find n := ⟨_, rfl⟩
  rw [hpv] at hl ⊢
  rw [← hx] at hl ⊢
  clear hpv hx
  obtain ⟨places, ⟨a, b, d⟩, fl, del⟩ := x
  have HL := Lib.hid hl
  clear hl
  unfold StreamR.val
  go_enter Tryz.func21, Tryz.ntmps21
  go_wp2_with (at_lookup; refine wpList_lookup_is rfl 70 rfl keyEnc_string Tryz.underlying70 Tryz.underlying9 (zeroS _) n rfl rfl (h.map.alloc _) (.agg #[.slice A places.length cap, .int .i64 a, .int .i64 b, .int .i64 d, .int .i64 fl, .bool del]) HL.out ?_)
  exact bodyPost_ret (v := .agg #[.slice A places.length cap, .int .i64 a, .int .i64 b, .int .i64 d, .int .i64 fl, .bool del]) (by simp [results, Tryz.results21, go_sem]) rfl ⟨rfl, (Only.refl [] w).alloc _⟩
theorem infoI : (Tryz.prog.info? 3).map (fun i => (i.zero, i.size, i.bytes)) = some (some (.int .i64 0), 1, 8) := by kernel_rfl
theorem news_one {w : World} {u : Value} {e : TypeId} : ∀ j x, [u][j]? = some x → (w.alloc (.cells #[u] e)).cell? ((⟨w.heap.size, 0, none⟩ : Addr).add j) = some x := by
  intro j x hx
  match j with
  | 0 => exact (cell_of_row _ _ 0 _ _ _ (heap_alloc_new w (.cells #[u] e))).trans hx
  | j + 1 => simp at hx
theorem timeAt_nat {all : List StoredR} {q : Nat} (h : q < all.length) : timeAt all (q : Int) = all[q].time := by simp [timeAt, h]
theorem times_len (all : List StoredR) (x : StreamR) : (times all x).length = x.places.length := by simp [times]
theorem ints_take {ts : List Int} {k : Nat} {t : Int} (h : ts[k]? = some t) : ints (ts.take (k + 1)) = ints (ts.take k) ++ [.int .i64 t] := by
  obtain ⟨h1, h2⟩ := List.getElem?_eq_some_iff.1 h
  rw [List.take_succ_eq_append_getElem h1, h2]
  unfold ints
  rw [List.map_append]
  rfl
set_option maxHeartbeats 1000000 in
theorem times_any {w : World} {M : List Nat} {sb mb : Nat} {av pv : Value} {pf : ByteArray → Value} {s : MS} {x : StreamR} (h : StAt w M sb mb av pf s) (hp : Slc w 1 pv x.places.length (ints x.places))
    (hx : ∀ p ∈ x.places, 0 ≤ p ∧ p < s.all.length) (hl : x.places.length ≤ 1000000000) :
    Calls Tryz.prog 58 #[.pointer (some ⟨sb, 0, none⟩), x.val pv] w fun e w' => ∃ v, e = .returned v ∧ Slc w' 1 v (times s.all x).length (ints (times s.all x)) ∧ Only [] w w' := by
  obtain ⟨A, cap, rfl, hnc, hcm, hel⟩ := hp.openI
  obtain ⟨A2, cap2, rfl, hnc2, hcm2, hel2⟩ := h.cell
  obtain ⟨i0, hi, hz0, hz1, hz2⟩ := info_parts infoI
  have htl := times_len s.all x
  have htk : ∀ k (hk : k < x.places.length) (q : Nat), x.places[k] = (q : Int) → (hq : q < s.all.length) → (times s.all x)[k]? = some s.all[q].time := by
    intro k hk q he hq
    simp only [times, List.getElem?_map, List.getElem?_eq_getElem hk, he, Option.map_some]
    rw [timeAt_nat hq]
  obtain ⟨ts, hts⟩ : ∃ ts, ts = times s.all x := ⟨_, rfl⟩
  rw [← hts] at htk htl ⊢
  clear hts
  obtain ⟨places, ⟨a, b, d⟩, fl, del⟩ := x
  simp only [] at hx hl hel hnc htl htk
  unfold maxLen at hcm hcm2
  have hbb := h.blk.lt
  have c0 : w.cell? ⟨sb, 0, none⟩ = some (.slice A2 s.all.length cap2) := h.blk.cell 0
  have C0 := Lib.hid c0
  clear c0
  unfold StreamR.val
  go_enter Tryz.func58, Tryz.ntmps58
  go_wp2
  go_loopw [5, 11] (fun u i wr => ∃ k : Nat, k ≤ places.length ∧ i = .int .i64 k ∧ wr.ownsRow w.heap.size 3 1 u k (ints (ts.take k)) ∧ Only [] w wr) (fun _ i _ => places.length - (intOf i).toNat)
  case atStart => exact ⟨0, Nat.zero_le _, rfl, World.ownsRow_nil _ _ _ _, (Only.refl [] w).alloc _⟩
  case round =>
    obtain ⟨k, hk, rfl, hown, hO⟩ := hrel
    by_cases hlt : k < places.length
    · obtain ⟨b1, off1, rfl, hb1, hc1⟩ := hel k hlt
      obtain ⟨hp0, hp1⟩ := hx _ (List.getElem_mem hlt)
      obtain ⟨q, hq⟩ := Int.eq_ofNat_of_zero_le hp0
      have hqa : q < s.all.length := by omega
      obtain ⟨b2, rfl, hb2, hc2⟩ := hel2 q hqa
      have ht := ints_take (htk k hlt q hq hqa)
      rw [hq, ← hO.cell hb1 (by simp)] at hc1
      have hc7 := hc2 7 (by omega)
      rw [← hO.cell hb2 (by simp)] at hc7
      have c7 : wr.cell? ⟨b2, q * 8 + 7, none⟩ = some (.int .i64 s.all[q].time) := hc7
      have c0 : wr.cell? ⟨sb, 0, none⟩ = some (.slice (some ⟨b2, 0, none⟩) s.all.length cap2) := (hO.cell hbb (by simp)).trans C0.out
      have hqi : (q : Int) < s.all.length := by omega
      obtain ⟨z, hz⟩ : ∃ z, z = s.all[q].time := ⟨_, rfl⟩
      rw [← hz] at c7 ht
      have HT := Lib.hid ht
      clear hel hel2 hc2 hc7 hz ht hq hx htk
      have htl' := Lib.hid htl
      clear htl
      go_wp2_with (at_builtin; refine wpList_append_own _ rfl (.tmp 15) (.tmp 24) 48 rfl w.heap.size 3 i0 (.int .i64 0) 1 8 Tryz.underlying48 hi hz0 hz1 hz2 rfl (by decide) _ _ _ rfl (World.ownsRow.alloc hown _) ⟨wr.heap.size, 0, none⟩ 1 1 [.int .i64 z] rfl rfl news_one ?c2 ?c3 ?c4 ?c5 ?_)
      case c2 => simp [Value.oneCell']
      case c3 => unfold maxLen; omega
      case c4 => omega
      case c5 => have := hO.size; simp; omega
      intro v' w4 hown' hgrow _
      rw [← HT.out] at hown'
      have ho4 : Only [] w w4 := (hO.alloc _).grown hgrow (fun k hk => .inr (hown.lt k hk).1)
      clear hgrow
      go_wp2
      exact ⟨⟨k + 1, hlt, by simp, hown', ho4⟩, by simp [intOf]; omega⟩
    · have hkl : k = ts.length := by omega
      rw [hkl, List.take_length] at hown
      have htl' := Lib.hid htl
      clear hkl htl htk
      go_wp2
      go_ret
      exact ⟨_, rfl, (Slc.of_own hown).1, hO⟩
end
end Go.Proofs.YteinoiicnmemhaaGreatDoor
