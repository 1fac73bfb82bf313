/- What holds of every state that commands made. -/
import Derived.Test.YtefkhkbkengniaaMv3
set_option linter.unusedVariables false
set_option linter.unusedSimpArgs false
namespace Go.Proofs.Ytefkhkbkengniaa
open Go.RowKit
structure MS.Inv (s : MS) : Prop where
  pos : ∀ i (h : i < s.all.length), s.all[i].position = i
  plc : ∀ n k (h : k < (s.find n).places.length), ∃ p : Nat, ∃ hp : p < s.all.length, (s.find n).places[k] = p ∧ s.all[p].stream = n ∧ s.all[p].version = k
  ver : ∀ i (h : i < s.all.length), ∃ k : Nat, s.all[i].version = k ∧ (s.find s.all[i].stream).places[k]? = some (i : Int)
theorem find_put (s : MS) (n m : ByteArray) (x : StreamR) : (s.put n x).find m = if n = m then x else s.find m := by
  unfold MS.put MS.find
  dsimp only
  rw [aget_aput]
  split <;> rfl
theorem find_m {s t : MS} (h : s.m = t.m) (n : ByteArray) : s.find n = t.find n := by unfold MS.find; rw [h]
theorem storedOf_get (stream : ByteArray) (now : Int) : ∀ (l : List EventR) (v at_ : Int) (i : Nat) (h : i < l.length), (storedOf stream now l v at_)[i]? = some (stOne stream now l[i] (v + i) (at_ + i))
  | [], _, _, _, h => absurd h (Nat.not_lt_zero _)
  | e :: l, v, at_, 0, _ => by simp [storedOf, stOne]
  | e :: l, v, at_, i + 1, h => by
    have := storedOf_get stream now l (v + 1) (at_ + 1) i (by simpa using h)
    simp only [storedOf, List.getElem?_cons_succ, List.getElem_cons_succ]
    rw [this]
    simp only [stOne, Option.some.injEq, StoredR.mk.injEq, true_and, and_true]
    constructor <;> omega
theorem rangeFrom_get : ∀ (k : Nat) (a : Int) (i : Nat), i < k → (rangeFrom k a)[i]? = some (a + i)
  | 0, _, _, h => absurd h (Nat.not_lt_zero _)
  | k + 1, a, 0, _ => by simp [rangeFrom]
  | k + 1, a, i + 1, h => by
    simp only [rangeFrom, List.getElem?_cons_succ]
    rw [rangeFrom_get k (a + 1) i (by omega)]
    congr 1
    omega
/-- What act may do to the stream's places and to all events. -/
theorem act_places (s : MS) (c : Cmd) (x : StreamR) : (s.act c x).2.2.m = s.m ∧
    ((s.act c x).2.1.places = x.places ∧ (s.act c x).2.2.all = s.all ∨
      (s.act c x).2.1.places = x.places ++ rangeFrom c.events.length s.all.length ∧ (s.act c x).2.2.all = s.all ++ storedOf c.stream s.now c.events x.places.length s.all.length) := by
  unfold MS.act
  dsimp only
  split
  · exact ⟨rfl, .inl ⟨rfl, rfl⟩⟩
  split
  · split <;> exact ⟨rfl, .inl ⟨rfl, rfl⟩⟩
  split
  · exact ⟨rfl, .inl ⟨rfl, rfl⟩⟩
  split
  · exact ⟨rfl, .inr ⟨rfl, rfl⟩⟩
  · exact ⟨rfl, .inl ⟨rfl, rfl⟩⟩
/-- What Do leaves, in the shape that all proofs use: nothing turned but time and count; or the stream kept, its places as they were; or events behind. -/
theorem do_shape (s : MS) (c : Cmd) : ((s.do c).2.m = s.m ∧ (s.do c).2.all = s.all) ∨
    ∃ y : StreamR, (s.do c).2.m = aput s.m c.stream y ∧ (y.places = (s.find c.stream).places ∧ (s.do c).2.all = s.all ∨
      y.places = (s.find c.stream).places ++ rangeFrom c.events.length s.all.length ∧ (s.do c).2.all = s.all ++ storedOf c.stream (max s.now c.time) c.events (s.find c.stream).places.length s.all.length) := by
  unfold MS.do
  split
  · exact .inl ⟨rfl, rfl⟩
  dsimp only
  split
  · exact .inl ⟨rfl, rfl⟩
  split
  · exact .inl ⟨rfl, rfl⟩
  · right
    obtain ⟨h1, h2⟩ := act_places (s.tick c.time) c { (s.tick c.time).find c.stream with floor := (s.tick c.time).floorOf ((s.tick c.time).find c.stream) }
    generalize hr : (s.tick c.time).act c { (s.tick c.time).find c.stream with floor := (s.tick c.time).floorOf ((s.tick c.time).find c.stream) } = r at h1 h2
    refine ⟨{ r.2.1 with floor := r.2.2.floorOf r.2.1 }, ?_, ?_⟩
    · show aput r.2.2.m _ _ = _
      rw [h1]
      rfl
    · exact h2
theorem inv_new : MS.new.Inv := ⟨fun i h => absurd h (Nat.not_lt_zero _), fun n k h => absurd h (Nat.not_lt_zero _), fun i h => absurd h (Nat.not_lt_zero _)⟩
theorem MS.Inv.same {s t : MS} (h : s.Inv) (hm : ∀ n, (t.find n).places = (s.find n).places) (ha : t.all = s.all) : t.Inv := by
  refine ⟨fun i hi => ?_, fun n k hk => ?_, fun i hi => ?_⟩
  · simp only [ha] at hi ⊢
    exact h.pos i hi
  · simp only [hm, ha] at hk ⊢
    exact h.plc n k hk
  · simp only [ha] at hi ⊢
    rw [hm]
    exact h.ver i hi
theorem inv_do {s : MS} (h : s.Inv) (c : Cmd) : (s.do c).2.Inv := by
  rcases do_shape s c with ⟨h1, h2⟩ | ⟨y, h1, ⟨h2, h3⟩ | ⟨h2, h3⟩⟩
  · exact h.same (fun n => by rw [find_m h1]) h2
  · refine h.same (fun n => ?_) h3
    have e : (s.do c).2.find n = (s.put c.stream y).find n := find_m h1 n
    rw [e, find_put]
    split
    · rename_i q; subst q; exact h2
    · rfl
  · have hfi : ∀ n, ((s.do c).2.find n).places = if c.stream = n then y.places else (s.find n).places := fun n => by
      have e : (s.do c).2.find n = (s.put c.stream y).find n := find_m h1 n
      rw [e, find_put]
      split <;> rfl
    generalize (s.do c).2 = t at *
    obtain ⟨x, hx⟩ : ∃ x, x = s.find c.stream := ⟨_, rfl⟩
    rw [← hx] at h2 h3
    have hpre : ∀ i, i < s.all.length → t.all[i]? = s.all[i]? := fun i hi => by rw [h3, List.getElem?_append_left hi]
    have hsuf : ∀ i (hi : i < c.events.length), t.all[s.all.length + i]? = some (stOne c.stream (max s.now c.time) c.events[i] (x.places.length + i) (s.all.length + i)) := fun i hi => by
      rw [h3, List.getElem?_append_right (by omega), show s.all.length + i - s.all.length = i by omega]
      exact storedOf_get _ _ _ _ _ i hi
    have hlen : t.all.length = s.all.length + c.events.length := by rw [h3, List.length_append, storedOf_len]
    refine ⟨fun i hi => ?_, fun n k hk => ?_, fun i hi => ?_⟩
    · by_cases q : i < s.all.length
      · have e := hpre i q
        rw [List.getElem?_eq_getElem hi, List.getElem?_eq_getElem q] at e
        injection e with e
        rw [e]
        exact h.pos i q
      · have e := hsuf (i - s.all.length) (by omega)
        rw [show s.all.length + (i - s.all.length) = i by omega, List.getElem?_eq_getElem hi] at e
        injection e with e
        rw [e]
        simp only [stOne]
        omega
    · by_cases hn : c.stream = n
      · subst hn
        have hp := hfi c.stream
        rw [if_pos rfl, h2] at hp
        by_cases q : k < x.places.length
        · obtain ⟨p, hp1, hp2, hp3, hp4⟩ := h.plc c.stream k (by rw [← hx]; exact q)
          have e := hpre p hp1
          rw [List.getElem?_eq_getElem (by omega), List.getElem?_eq_getElem hp1] at e
          injection e with e
          refine ⟨p, by omega, ?_, by rw [e]; exact hp3, by rw [e]; exact hp4⟩
          simp only [hp]
          rw [List.getElem_append_left q]
          simpa [hx] using hp2
        · have hk' : k < x.places.length + c.events.length := by
            rw [hp, List.length_append, rangeFrom_len] at hk
            exact hk
          have e := hsuf (k - x.places.length) (by omega)
          have hlt : s.all.length + (k - x.places.length) < t.all.length := by omega
          rw [List.getElem?_eq_getElem hlt] at e
          injection e with e
          refine ⟨s.all.length + (k - x.places.length), hlt, ?_, by rw [e]; rfl, by rw [e]; simp only [stOne]; omega⟩
          have e2 : (t.find c.stream).places[k]? = some ((s.all.length : Int) + ((k - x.places.length : Nat) : Int)) := by
            rw [hp, List.getElem?_append_right (by omega)]
            exact rangeFrom_get _ _ _ (by omega)
          rw [List.getElem?_eq_getElem hk] at e2
          injection e2
      · have hp := hfi n
        rw [if_neg hn] at hp
        obtain ⟨p, hp1, hp2, hp3, hp4⟩ := h.plc n k (by rw [← hp]; exact hk)
        have e := hpre p hp1
        rw [List.getElem?_eq_getElem (by omega), List.getElem?_eq_getElem hp1] at e
        injection e with e
        refine ⟨p, by omega, ?_, by rw [e]; exact hp3, by rw [e]; exact hp4⟩
        simp only [hp]
        exact hp2
    · by_cases q : i < s.all.length
      · have e := hpre i q
        rw [List.getElem?_eq_getElem hi, List.getElem?_eq_getElem q] at e
        injection e with e
        obtain ⟨k, hk1, hk2⟩ := h.ver i q
        refine ⟨k, by rw [e]; exact hk1, ?_⟩
        rw [e, hfi]
        split
        · rename_i hn
          rw [← hn, ← hx] at hk2
          rw [h2, List.getElem?_append_left (List.getElem?_eq_some_iff.1 hk2).1]
          exact hk2
        · exact hk2
      · have e := hsuf (i - s.all.length) (by omega)
        rw [show s.all.length + (i - s.all.length) = i by omega, List.getElem?_eq_getElem hi] at e
        injection e with e
        refine ⟨x.places.length + (i - s.all.length), by rw [e]; simp only [stOne]; omega, ?_⟩
        rw [e, hfi]
        rw [if_pos (by rfl), h2, List.getElem?_append_right (by omega), rangeFrom_get _ _ _ (by omega)]
        congr 1
        omega
theorem MS.Inv.evAt {s : MS} (h : s.Inv) {n : ByteArray} {e : StoredR} (he : e ∈ (s.find n).places.map (evAt s.all)) : ∃ k p : Nat, ∃ hp : p < s.all.length, e = s.all[p] ∧ k < (s.find n).places.length ∧ e.stream = n ∧ e.version = k ∧ e.position = p := by
  obtain ⟨q, hq, rfl⟩ := List.mem_map.1 he
  obtain ⟨k, hk, rfl⟩ := List.mem_iff_getElem.1 hq
  obtain ⟨p, hp, h1, h2, h3⟩ := h.plc n k hk
  rw [h1, evAt_nat hp]
  exact ⟨k, p, hp, rfl, hk, h2, h3, h.pos p hp⟩
theorem seenL_sub (s : MS) (n : ByteArray) : ∀ e ∈ s.seenL n, e ∈ (s.find n).places.map (evAt s.all) := by
  intro e he
  unfold MS.seenL at he
  split at he
  · cases he
  · obtain ⟨q, hq, rfl⟩ := List.mem_map.1 he
    exact List.mem_map.2 ⟨q, List.mem_of_mem_drop hq, rfl⟩
theorem seenL_vers {s : MS} {N : Nat} (h : s.Inv) (hs : s.Ok N) (hN : N ≤ 100000) (n : ByteArray) : ∀ e ∈ s.seenL n, 0 ≤ e.version ∧ e.version ≤ 1000000000 := by
  intro e he
  obtain ⟨k, p, hp, _, hk, _, hv, _⟩ := h.evAt (seenL_sub s n e he)
  have := (hs.xok n).few
  have := hs.all
  omega
end Go.Proofs.Ytefkhkbkengniaa
