/- Contracts: BinarySearch, Insert, Delete of a row of numbers; insert and remove of sub. -/
import Derived.Test.YthjgplgfcbhihaaGst
import Derived.Test.YthjgplgfcbhihaaShelf
set_option linter.unusedVariables false
set_option linter.unusedSimpArgs false
namespace Go.Proofs.Ythjgplgfcbhihaa
open Go.RowKit Go.Sort Go.Lib
theorem ints_get (xs : List Int) (j : Nat) : (ints xs)[j]? = (xs[j]?).map (Value.int .i64) := by simp [ints]
theorem ints_one : ∀ (xs : List Int), ∀ v ∈ ints xs, v.oneCell' = true := fun xs v hv => by
  obtain ⟨x, _, rfl⟩ := List.mem_map.1 hv
  rfl
theorem bsearch_any {w : World} {v : Value} {xs : List Int} (h : Slc w 1 v xs.length (ints xs)) (hr : Ris xs) (hb : xs.length ≤ 1000000000) (n : Int) :
    Calls Try.prog 48 #[v, .int .i64 n] w fun e w' => e = .returned (.tuple #[.int .i64 (lb xs n : Nat), .bool (xs.contains n)]) ∧ Only [] w w' := by
  obtain ⟨A, cap, rfl, hnc, hcm, hel⟩ := h.openI
  by_cases h0 : xs = []
  · subst h0
    exact (Try.slices_BinarySearch_int_empty A cap n w).mono fun e w' ⟨q1, q2⟩ => ⟨q1, by rw [q2]; exact Only.refl _ _⟩
  · have hpos : 0 < xs.length := List.length_pos_iff.2 h0
    obtain ⟨b, off, rfl, hbb, _⟩ := hel 0 hpos
    refine (Try.slices_BinarySearch_int b off xs.length cap xs n w (Nat.le_refl _) (by omega) (fun j hj => ?_) (by rw [List.take_length]; exact hr.le)).mono fun e w' ⟨q1, q, q2⟩ => ⟨?_, ?_⟩
    · obtain ⟨b', off', e1, _, hc⟩ := hel j hj
      injection e1 with e1
      injection e1 with e2 e3
      subst e2 e3
      rw [hc]
      simp [hj]
    · rw [q1, List.take_length]
      rfl
    · rw [q2]
      exact (Only.refl _ _).drewN q
theorem own_of {w : World} {g cap : Nat} {cs : Array Value} {ys : List Int} (hg : Blk w g 3 cs) (hn : ys.length ≤ cap) (hm : cap ≤ maxLen) (hs : cs.size = cap) (ht : ∀ j, j < ys.length → cs[j]? = (ints ys)[j]?) : Own w (.slice (some ⟨g, 0, none⟩) ys.length cap) ys := by
  refine ⟨by simp [ints], .inr ⟨g, cap, cs, rfl, Nat.zero_le _, hg, hn, hm, by omega, ?_⟩⟩
  apply List.ext_getElem?
  intro j
  by_cases hj : j < ys.length
  · rw [List.getElem?_take_of_lt (by omega), Array.getElem?_toList]
    exact ht j hj
  · rw [List.getElem?_eq_none (by simp; omega), List.getElem?_eq_none (by simp [ints]; omega)]
theorem own_parts {w : World} {v : Value} {xs : List Int} (h : Own w v xs) : (v = .slice none 0 0 ∧ xs = []) ∨
    ∃ g cap cs, v = .slice (some ⟨g, 0, none⟩) xs.length cap ∧ Blk w g 3 cs ∧ xs.length ≤ cap ∧ cap ≤ maxLen ∧ cs.size = cap ∧ ∀ j, j < xs.length → cs[j]? = (ints xs)[j]? := by
  obtain ⟨h1, h2⟩ := h
  rcases h2 with ⟨rfl, q⟩ | ⟨g, cap, cur, rfl, hb, hg, hn, hc, hs, ht⟩
  · exact .inl ⟨rfl, List.length_eq_zero_iff.1 q⟩
  · refine .inr ⟨g, cap, cur, rfl, hg, hn, hc, by omega, fun j hj => ?_⟩
    rw [← ht, List.getElem?_take_of_lt (by omega), Array.getElem?_toList]
theorem ints_ins (xs : List Int) (i : Nat) (n : Int) (j : Nat) (hi : i ≤ xs.length) : (ints (xs.take i ++ n :: xs.drop i))[j]? = if j < i then (ints xs)[j]? else if j = i then some (.int .i64 n) else (ints xs)[j - 1]? := by
  rw [ints_get]
  by_cases h1 : j < i
  · rw [if_pos h1, List.getElem?_append_left (by simp; omega), List.getElem?_take_of_lt h1, ints_get]
  · rw [if_neg h1, List.getElem?_append_right (by simp; omega)]
    have hl : (xs.take i).length = i := by simp; omega
    rw [hl]
    by_cases h2 : j = i
    · subst h2
      simp
    · rw [if_neg h2]
      obtain ⟨k, hk⟩ : ∃ k, j - i = k + 1 := ⟨j - i - 1, by omega⟩
      rw [hk, List.getElem?_cons_succ, List.getElem?_drop, ints_get, show i + k = j - 1 by omega]
theorem zero_size (n : Nat) : (Builtin.zeroCells (Value.int .i64 0).cells n).size = n := by simp [Builtin.zeroCells, Value.cells]
set_option maxHeartbeats 2000000 in
/-- Insert of one number: the row grows, in place or into a new block. -/
theorem insertI_any {w : World} {v : Value} {xs : List Int} (h : Own w v xs) (hb : xs.length ≤ 1000000000) {i : Nat} (hi : i ≤ xs.length) {vb : Nat} {n : Int} (hv : Blk w vb 3 #[.int .i64 n]) (hvb : ∀ g, v.ownBlock = some g → vb ≠ g) :
    Calls Try.prog 49 #[v, .int .i64 i, .slice (some ⟨vb, 0, none⟩) 1 1] w fun e w' => ∃ v', e = .returned v' ∧ RowTo w v w' v' (xs.take i ++ n :: xs.drop i) := by
  have hlen : (xs.take i ++ n :: xs.drop i).length = xs.length + 1 := by simp; omega
  have hvs : ∀ j u, [Value.int .i64 n][j]? = some u → w.cell? ⟨vb, 0 + j, none⟩ = some u := fun j u hu => by
    rw [Nat.zero_add, hv.cell j]
    simpa using hu
  have h1v : ∀ u ∈ [Value.int .i64 n], u.oneCell' = true := fun u hu => by simp at hu; subst hu; rfl
  have hge := grownCap_ge w (xs.length + 1)
  have hle := fun c => grownCap_le_maxLen w (xs.length + 1) c 3 (by unfold maxLen; omega)
  rcases own_parts h with ⟨rfl, rfl⟩ | ⟨g, cap, cs, rfl, hg, hn, hm, hs, hc⟩
  · obtain rfl : i = 0 := by simpa using hi
    refine (Any2.slices_Insert_int_end_grow Try.insI none 0 0 vb 0 1 1 [] [.int .i64 n] w (by omega) (Nat.le_refl _) (by omega) (by omega) rfl rfl (fun _ => rfl) (fun a q => by cases q) hvs h1v).mono ?_
    rintro e w' ⟨rfl, rfl⟩
    refine ⟨_, rfl, ?_, ((Only.refl _ w).drew.alloc _), fun b hb => .inr ?_⟩
    · have := own_of (ys := [n]) (cap := grownCap w (0 + 1) 0 3) (Blk.new w.drew 3 (([] ++ [Value.int .i64 n]).toArray ++ Builtin.zeroCells (Value.int .i64 0).cells (grownCap w (0 + 1) 0 3 - (0 + 1)))) (hge 0 3) (hle 0) (by rw [Array.size_append, zero_size]; have := hge 0 3; simp at this ⊢; omega) (fun j hj => by
        have hj0 : j = 0 := by simpa using hj
        subst hj0
        rw [Array.getElem?_append_left (by simp)]
        rfl)
      exact this
    · cases hb
      exact Nat.le_refl _
  · have hcell : ∀ j u, (ints xs)[j]? = some u → w.cell? ⟨g, 0 + j, none⟩ = some u := fun j u hu => by
      have hj : j < xs.length := by
        have := (List.getElem?_eq_some_iff.1 hu).1
        simpa [ints] using this
      rw [Nat.zero_add, hg.cell j, hc j hj]
      exact hu
    have hll : (ints xs).length = xs.length := by simp [ints]
    have hgv : vb ≠ g := hvb g rfl
    have hbig : (xs.length + 1) * 8 ≤ 140737488355328 := by omega
    have hcs? : ∀ k, k < cap → ∃ u, cs[k]? = some u := fun k hk => ⟨cs[k]'(by omega), Array.getElem?_eq_getElem (by omega)⟩
    by_cases hie : i = xs.length
    · subst hie
      have hys : xs.take xs.length ++ n :: xs.drop xs.length = xs ++ [n] := by simp
      by_cases hroom : xs.length + 1 ≤ cap
      · refine (Any2.slices_Insert_int_end_room Try.insI g 0 xs.length cap vb 0 1 1 [.int .i64 n] w (by omega) hroom (by unfold maxLen at hm; omega) rfl (fun j hj => ?_) (fun j hj => hg.free _) hvs h1v).mono ?_
        · obtain ⟨u, hu⟩ := hcs? (0 + xs.length + j) (by omega)
          rw [hg.cell, hu]
          rfl
        rintro e w' ⟨rfl, rfl⟩
        obtain ⟨cs', k1, k2, k3, k4, k5⟩ := hg.sets [.int .i64 n] (0 + xs.length)
        refine ⟨_, rfl, ?_, (Only.refl _ w).setCells (.inl (by simp [Value.ownBlock])) _ _, fun b hb => .inl hb⟩
        have := own_of (ys := xs.take xs.length ++ n :: xs.drop xs.length) (cap := cap) k1 (by omega) hm (by omega) (fun j hj => by
          rw [ints_ins xs xs.length n j (Nat.le_refl _)]
          by_cases hj1 : j < xs.length
          · rw [if_pos hj1, k3 j (by omega), hc j hj1]
          · obtain rfl : j = xs.length := by omega
            rw [if_neg hj1, if_pos rfl]
            have := k5 0 (by simp) (by omega)
            simpa using this)
        rw [hlen] at this
        exact this
      · refine (Any2.slices_Insert_int_end_grow Try.insI (some ⟨g, 0, none⟩) xs.length cap vb 0 1 1 (ints xs) [.int .i64 n] w (by omega) hn (by omega) hbig hll rfl (fun q => by cases q) (fun a q j u hu => by cases q; rw [Addr.add_lit]; exact hcell j u hu) hvs h1v).mono ?_
        rintro e w' ⟨rfl, rfl⟩
        refine ⟨_, rfl, ?_, ((Only.refl _ w).drew.alloc _), fun b hb => .inr ?_⟩
        · have := own_of (ys := xs.take xs.length ++ n :: xs.drop xs.length) (cap := grownCap w (xs.length + 1) cap 3) (Blk.new w.drew 3 ((ints xs ++ [Value.int .i64 n]).toArray ++ Builtin.zeroCells (Value.int .i64 0).cells (grownCap w (xs.length + 1) cap 3 - (xs.length + 1)))) (by rw [hlen]; exact hge cap 3) (hle cap) (by rw [Array.size_append, zero_size]; have := hge cap 3; simp [ints]; omega) (fun j hj => by
            rw [hlen] at hj
            rw [hys, Array.getElem?_append_left (by simp [ints]; omega)]
            simp [ints])
          rw [hlen] at this
          exact this
        · cases hb
          exact Nat.le_refl _
    · have hlt : i < xs.length := by omega
      by_cases hroom : xs.length + 1 ≤ cap
      · refine (Any2.slices_Insert_int_shift Try.insI g 0 xs.length cap i vb 0 1 1 (ints xs) [.int .i64 n] w hlt (by omega) hroom (by unfold maxLen at hm; omega) hgv hll rfl hcell (fun j hj => ?_) (fun j hj => hg.free _) hvs (ints_one xs) h1v 3 3 1 cap (by unfold World.shape?; rw [show w.heap[vb]? = _ from hv]; rfl) (by unfold World.shape?; rw [show w.heap[g]? = _ from hg, ← hs]) (by omega) (hv.free _) (hv.free _)).mono ?_
        · obtain ⟨u, hu⟩ := hcs? (0 + j) (by omega)
          rw [hg.cell, hu]
          rfl
        rintro e w' ⟨rfl, rfl⟩
        have hgd : Blk w.drew g 3 cs := hg
        obtain ⟨c1, k1, k2, k3, k4, k5⟩ := hgd.sets ((ints xs).drop i) (0 + (i + 1))
        obtain ⟨c2, l1, l2, l3, l4, l5⟩ := k1.sets [.int .i64 n] (0 + i)
        refine ⟨_, rfl, ?_, ((Only.refl _ w).drew.setCells (.inl (by simp [Value.ownBlock])) _ _).setCells (.inl (by simp [Value.ownBlock])) _ _, fun b hb => .inl hb⟩
        have := own_of (ys := xs.take i ++ n :: xs.drop i) (cap := cap) l1 (by omega) hm (by omega) (fun j hj => by
          rw [hlen] at hj
          rw [ints_ins xs i n j hi]
          by_cases hj1 : j < i
          · rw [if_pos hj1, l3 j (by omega), k3 j (by omega), hc j (by omega)]
          · rw [if_neg hj1]
            by_cases hj2 : j = i
            · subst hj2
              rw [if_pos rfl]
              have := l5 0 (by simp) (by omega)
              simpa using this
            · rw [if_neg hj2, l4 j (by simp; omega)]
              have := k5 (j - (i + 1)) (by simp [ints]; omega) (by omega)
              rw [show 0 + (i + 1) + (j - (i + 1)) = j by omega] at this
              rw [this, List.getElem?_drop, show i + (j - (i + 1)) = j - 1 by omega])
        rw [hlen] at this
        exact this
      · refine (Any2.slices_Insert_int_grow Try.insI g 0 xs.length cap i vb 0 1 1 (ints xs) [.int .i64 n] w hlt (by omega) hn (by omega) hbig hll rfl hcell hvs (ints_one xs) h1v).mono ?_
        rintro e w' ⟨rfl, rfl⟩
        obtain ⟨c0, hc0⟩ : ∃ c0, c0 = ((ints xs).take i).toArray ++ Builtin.zeroCells (Value.int .i64 0).cells (xs.length + 1 - i) ++ Builtin.zeroCells (Value.int .i64 0).cells (grownCap w (xs.length + 1) cap 3 - (xs.length + 1)) := ⟨_, rfl⟩
        have hsz0 : c0.size = grownCap w (xs.length + 1) cap 3 := by
          rw [hc0, Array.size_append, Array.size_append, zero_size, zero_size]
          have := hge cap 3
          simp [ints]
          omega
        have hren : Try.insI_ren.t 3 = 3 := rfl
        simp only [hren]
        rw [← hc0]
        have hN : Blk (w.alloc (.cells c0 3)).drew w.heap.size 3 c0 := Blk.new w 3 c0
        obtain ⟨c1, k1, k2, k3, k4, k5⟩ := hN.sets [.int .i64 n] i
        have k1' : Blk ((w.alloc (.cells c0 3)).drew.setCells w.heap.size i [.int .i64 n]).drew w.heap.size 3 c1 := k1
        obtain ⟨c2, l1, l2, l3, l4, l5⟩ := k1'.sets ((ints xs).drop i) (i + 1)
        refine ⟨_, rfl, ?_, (((((Only.refl _ w).alloc _).drew.setCells (.inr (Nat.le_refl _)) _ _).drew).setCells (.inr (Nat.le_refl _)) _ _), fun b hb => .inr ?_⟩
        · have := own_of (ys := xs.take i ++ n :: xs.drop i) (cap := grownCap w (xs.length + 1) cap 3) l1 (by rw [hlen]; exact hge cap 3) (hle cap) (by omega) (fun j hj => by
            rw [hlen] at hj
            rw [ints_ins xs i n j hi]
            have hgc := hge cap 3
            by_cases hj1 : j < i
            · rw [if_pos hj1, l3 j (by omega), k3 j (by omega), hc0, Array.append_assoc, Array.getElem?_append_left (by simp [ints]; omega)]
              simp [ints, hj1]
            · rw [if_neg hj1]
              by_cases hj2 : j = i
              · subst hj2
                rw [if_pos rfl, l3 j (by omega)]
                have := k5 0 (by simp) (by omega)
                simpa using this
              · rw [if_neg hj2]
                have := l5 (j - (i + 1)) (by simp [ints]; omega) (by omega)
                rw [show i + 1 + (j - (i + 1)) = j by omega] at this
                rw [this, List.getElem?_drop, show i + (j - (i + 1)) = j - 1 by omega])
          rw [hlen] at this
          exact this
        · cases hb
          exact Nat.le_refl _
theorem deleteI_any {w : World} {v : Value} {xs : List Int} (h : Own w v xs) (hb : xs.length ≤ 1000000000) {i : Nat} (hi : i < xs.length) :
    Calls Try.prog 34 #[v, .int .i64 i, .int .i64 ((i + 1 : Nat) : Int)] w fun e w' => ∃ v', e = .returned v' ∧ RowTo w v w' v' (xs.take i ++ xs.drop (i + 1)) := by
  have hv : v ≠ .slice none 0 0 := by
    rintro rfl
    rcases own_parts h with ⟨_, rfl⟩ | ⟨g, cap, cs, q, _⟩
    · simp at hi
    · cases q
  obtain ⟨g, cap, rfl, _, hg, hn, hm, hz, hH⟩ := holds_of_ownsRow (enc := Value.int .i64) (zs := xs) h hv
  unfold maxLen at hm
  refine (Try.slices_Delete_int g 0 cap i (i + 1) xs w hH hn (by omega) (by omega) (by omega)).mono ?_
  rintro e w' ⟨rfl, q, rfl⟩
  have hl : (xs.take i ++ xs.drop (i + 1)).length = xs.length - 1 := by simp; omega
  have hr := ownsRow_putRow (enc := Value.int .i64) (q := q) (ys := xs.take i ++ xs.drop (i + 1) ++ List.replicate (i + 1 - i) 0) (k := xs.length - 1) h (by simp; omega) (by omega)
  rw [List.take_left' hl] at hr
  refine ⟨_, rfl, ?_, ?_, fun b hb => .inl hb⟩
  · show World.ownsRow _ 0 3 1 _ (xs.take i ++ xs.drop (i + 1)).length _
    rw [hl, show xs.length - (i + 1 - i) = xs.length - 1 by omega]
    exact hr
  · exact ⟨rfl, rfl, rfl, by simp [putRow, mapBlock, Sort.ahead], fun k _ hk => by
      have : g ≠ k := by simp [Value.ownBlock] at hk; omega
      simp [putRow, mapBlock, Sort.ahead, Array.getElem?_modify, this]⟩
end Go.Proofs.Ythjgplgfcbhihaa
