/- ModelHides, the plain law: what is hidden stays hidden, what is deleted stays deleted, events stay. -/
import Derived.Test.YtefkhkbkengniaaMv4
import Derived.Test.YtefkhkbkengniaaMe3
set_option linter.unusedVariables false
set_option linter.unusedSimpArgs false
namespace Go.Proofs.Ytefkhkbkengniaa
open Go.RowKit
theorem young_mono (age : Int) : ∀ (ts : List Int) (n1 n2 : Int), n1 ≤ n2 → young age n1 ts ≤ young age n2 ts
  | [], _, _, _ => Int.le_refl _
  | t :: ts, n1, n2, h => by
    have hn : ∀ (l : List Int) (n : Int), 0 ≤ young age n l := fun l n => (young_bd age n l).1
    simp only [young]
    by_cases h1 : n1 - age < t
    · rw [if_pos h1]
      split
      · exact Int.le_refl _
      · have := hn ts n2
        omega
    · rw [if_neg h1, if_neg (by omega)]
      have := young_mono age ts n1 n2 h
      omega
theorem floorE_mono (m : MetaR) (f n1 n2 : Int) (ts : List Int) (h : n1 ≤ n2) : floorE m f n1 ts ≤ floorE m f n2 ts := by
  unfold floorE
  dsimp only
  have := young_mono m.maxAge ts n1 n2 h
  split
  · omega
  · exact Int.le_refl _
theorem floorE_ge (m : MetaR) (f now : Int) (ts : List Int) : min f ts.length ≤ floorE m f now ts := by
  unfold floorE
  dsimp only
  generalize young m.maxAge now ts = y
  split <;> split <;> omega
theorem times_congr {all all' : List StoredR} {x : StreamR} (hb : ∀ p ∈ x.places, 0 ≤ p ∧ p < all.length) (ha : ∃ more, all' = all ++ more) : times all' x = times all x := by
  obtain ⟨more, rfl⟩ := ha
  unfold times
  refine List.map_congr_left fun p hp => ?_
  obtain ⟨h0, h1⟩ := hb p hp
  obtain ⟨q, rfl⟩ := Int.eq_ofNat_of_zero_le h0
  have hq : q < all.length := by omega
  unfold timeAt
  rw [Int.toNat_natCast, List.getElem?_append_left hq]
/-- What Do leaves of a stream. -/
theorem do_stream (s : MS) (c : Cmd) {N : Nat} (hs : s.Ok N) (n : ByteArray) : s.floorS n ≤ (s.do c).2.floorS n ∧ ((s.find n).deleted = true → ((s.do c).2.find n).deleted = true) ∧ ∃ more, (s.do c).2.all = s.all ++ more := by
  unfold MS.do
  split
  · exact ⟨Int.le_refl _, fun h => h, [], by simp⟩
  rename_i hk
  dsimp only
  have hnow : s.now ≤ (s.tick c.time).now := by show s.now ≤ max s.now c.time; omega
  have hfx : ∀ m, (s.tick c.time).find m = s.find m := fun m => rfl
  have htick : s.floorS n ≤ (s.tick c.time).floorS n := floorE_mono _ _ _ _ _ hnow
  split
  · exact ⟨htick, fun h => h, [], by simp [MS.tick]⟩
  split
  · exact ⟨htick, fun h => h, [], by simp [MS.tick]⟩
  rename_i hdel
  have hdel' : (s.find c.stream).deleted = false := by simpa [hfx] using hdel
  obtain ⟨x, hx⟩ : ∃ x : StreamR, x = { (s.tick c.time).find c.stream with floor := (s.tick c.time).floorOf ((s.tick c.time).find c.stream) } := ⟨_, rfl⟩
  rw [← hx]
  have hxp : x.places = (s.find c.stream).places := by rw [hx]; rfl
  have hxf : x.floor = (s.tick c.time).floorS c.stream := by rw [hx]; rfl
  have hb := (hs.find c.stream).2.2.2.2
  have hact : ((s.tick c.time).act c x).2.2.m = s.m ∧ ((s.tick c.time).act c x).2.1.floor = x.floor ∧ (∃ more, ((s.tick c.time).act c x).2.2.all = s.all ++ more) ∧ x.places.length ≤ ((s.tick c.time).act c x).2.1.places.length ∧ ((s.tick c.time).act c x).2.2.now = (s.tick c.time).now := by
    unfold MS.act
    dsimp only
    split
    · exact ⟨rfl, rfl, ⟨[], by simp [MS.tick]⟩, Nat.le_refl _, rfl⟩
    split
    · split <;> exact ⟨rfl, rfl, ⟨[], by simp [MS.tick]⟩, Nat.le_refl _, rfl⟩
    split
    · exact ⟨rfl, rfl, ⟨[], by simp [MS.tick]⟩, Nat.le_refl _, rfl⟩
    split
    · refine ⟨rfl, rfl, ⟨_, rfl⟩, ?_, rfl⟩
      simp [MS.append]
    · exact ⟨rfl, rfl, ⟨[], by simp [MS.tick]⟩, Nat.le_refl _, rfl⟩
  generalize hr : (s.tick c.time).act c x = r at hact
  obtain ⟨a, y, t⟩ := r
  obtain ⟨a1, a2, a3, a4, a5⟩ := hact
  dsimp only at a1 a2 a3 a4 a5 ⊢
  have hkeep : ∀ m, (t.keep c.stream y).find m = if c.stream = m then { y with floor := t.floorOf y } else s.find m := fun m => by
    unfold MS.keep
    rw [find_put]
    split
    · rfl
    · exact find_m a1 m
  refine ⟨?_, fun h => ?_, a3⟩
  · unfold MS.floorS
    rw [hkeep]
    by_cases hn : c.stream = n
    · rw [if_pos hn]
      subst hn
      -- the floor that is kept, and again
      have g1 : min y.floor y.places.length ≤ t.floorOf y := by
        have := floorE_ge y.mt y.floor t.now (times t.all y)
        rw [times_len] at this
        exact this
      have g2 : min (t.floorOf y) y.places.length ≤ (t.keep c.stream y).floorOf { y with floor := t.floorOf y } := by
        have := floorE_ge y.mt (t.floorOf y) (t.keep c.stream y).now (times (t.keep c.stream y).all { y with floor := t.floorOf y })
        rw [times_len] at this
        exact this
      have g3 := floorOf_bd t y
      have g4 : s.floorS c.stream ≤ x.floor := by rw [hxf]; exact htick
      have g5 := (floorOf_bd (s.tick c.time) (s.find c.stream)).2
      have g6 : x.floor ≤ x.places.length := by rw [hxf, hxp]; exact g5
      have g7 : s.floorOf (s.find c.stream) ≤ x.floor := g4
      omega
    · rw [if_neg hn]
      have e1 : times (t.keep c.stream y).all (s.find n) = times s.all (s.find n) := times_congr (hs.find n).2.2.2.2 a3
      show floorE _ _ s.now (times s.all (s.find n)) ≤ floorE _ _ (t.keep c.stream y).now (times (t.keep c.stream y).all (s.find n))
      rw [e1]
      refine floorE_mono _ _ _ _ _ ?_
      show s.now ≤ t.now
      rw [a5]
      exact hnow
  · rw [hkeep]
    by_cases hn : c.stream = n
    · subst hn
      rw [hdel'] at h
      cases h
    · rw [if_neg hn]
      exact h
theorem hid_stays {s : MS} {c : Cmd} {N : Nat} (hs : s.Ok N) {k : Nat} (hk : k < s.all.length) (h : s.seenAt k = false) : (s.do c).2.seenAt k = false := by
  obtain ⟨more, hm⟩ := (do_stream s c hs ⟨#[]⟩).2.2
  have hk' : k < (s.do c).2.all.length := by rw [hm, List.length_append]; omega
  have e : evAt (s.do c).2.all k = evAt s.all k := by
    rw [evAt_nat hk', evAt_nat hk]
    simp only [hm]
    rw [List.getElem_append_left hk]
  obtain ⟨f1, f2, _⟩ := do_stream s c hs (evAt s.all k).stream
  unfold MS.seenAt at h ⊢
  rw [if_neg (by omega)] at h ⊢
  rw [e]
  cases hd : (s.find (evAt s.all k).stream).deleted with
  | true =>
    rw [f2 hd]
    rfl
  | false =>
    rw [hd] at h
    have h2 : ¬ s.floorS (evAt s.all k).stream ≤ (evAt s.all k).version := by simpa using h
    have h3 : ¬ (s.do c).2.floorS (evAt s.all k).stream ≤ (evAt s.all k).version := by omega
    rw [decide_eq_false h3, Bool.and_false]
/-- A command to a stream that is deleted is told no. -/
theorem dead_no {s : MS} {c : Cmd} (hd : (s.find c.stream).deleted = true) (hk : c.kind ≤ 3) : (s.do c).1.err ≠ 0 := by
  unfold MS.do
  split
  · rename_i h
    exact h
  · rename_i h
    dsimp only
    rw [if_neg (by omega)]
    have : ((s.tick c.time).find c.stream).deleted = true := hd
    rw [if_pos this]
    show (23 : Int) ≠ 0
    decide
/-- A deletion that is told OK deletes. -/
theorem deleted_by {s : MS} {c : Cmd} (hk : c.kind = 3) (he : (s.do c).1.err = 0) : ((s.do c).2.find c.stream).deleted = true := by
  unfold MS.do at he ⊢
  split at he
  · rename_i h
    exact absurd he h
  · rename_i h
    rw [if_neg h]
    dsimp only at he ⊢
    rw [if_neg (by omega)] at he ⊢
    split at he
    · exact absurd he (by show ¬ (23 : Int) = 0; decide)
    · rename_i hd
      rw [if_neg hd]
      unfold MS.act at he ⊢
      dsimp only at he ⊢
      rw [if_neg (by omega), if_pos hk] at he ⊢
      split at he
      · rename_i hx
        rw [if_pos hx]
        unfold MS.keep
        rw [find_put, if_pos rfl]
      · simp [wrong] at he
theorem sameL_take {s t : MS} (h : ∃ more, t.all = s.all ++ more) : sameL (t.all.take s.all.length) s.all = true := by
  obtain ⟨more, h⟩ := h
  rw [h, List.take_left']
  · exact sameL_refl _
  · rfl
end Go.Proofs.Ytefkhkbkengniaa
