/- Pure: what is seen of all and of a stream, and the pages of it, one behind the other. -/
import Derived.Test.YtefkhkbkengniaaMv4
set_option linter.unusedVariables false
set_option linter.unusedSimpArgs false
namespace Go.Proofs.Ytefkhkbkengniaa
open Go.RowKit
/-- The places of a stream lead to just its events, in order; names are names. -/
def MS.Inv2 (s : MS) : Prop := (∀ n, (s.find n).places.map (evAt s.all) = s.all.filter (fun e => decide (e.stream = n))) ∧ ∀ e ∈ s.all, nameOk e.stream = true
theorem inv2_new : MS.new.Inv2 := ⟨fun n => rfl, fun e he => by cases he⟩
theorem storedOf_stream (stream : ByteArray) (now : Int) : ∀ (l : List EventR) (v at_ : Int), ∀ e ∈ storedOf stream now l v at_, e.stream = stream
  | [], _, _, e, h => by cases h
  | x :: l, v, at_, e, h => by
    simp only [storedOf, List.mem_cons] at h
    rcases h with rfl | h
    · rfl
    · exact storedOf_stream stream now l _ _ e h
theorem evAt_append {all l : List StoredR} {p : Nat} (h : p < all.length) : evAt (all ++ l) (p : Int) = evAt all (p : Int) := by
  simp [evAt, List.getElem?_append_left h]
theorem range_evAt (all st : List StoredR) : (rangeFrom st.length all.length).map (evAt (all ++ st)) = st := by
  apply List.ext_getElem?
  intro i
  by_cases h : i < st.length
  · rw [List.getElem?_map, rangeFrom_get _ _ _ h, Option.map_some]
    rw [show (all.length : Int) + (i : Int) = ((all.length + i : Nat) : Int) by omega]
    rw [evAt_nat (by simp; omega), List.getElem_append_right (by omega)]
    simp [h]
  · rw [List.getElem?_eq_none (by simp [rangeFrom_len]; omega), List.getElem?_eq_none (by omega)]
theorem MS.Inv2.same {s t : MS} (h : s.Inv2) (hm : ∀ n, (t.find n).places = (s.find n).places) (ha : t.all = s.all) : t.Inv2 :=
  ⟨fun n => by rw [hm, ha]; exact h.1 n, fun e he => h.2 e (by rw [← ha]; exact he)⟩
theorem inv2_do {s : MS} (h : s.Inv) (h2 : s.Inv2) (c : Cmd) : (s.do c).2.Inv2 := by
  by_cases hk : c.check = 0
  · by_cases hq : c.kind = 4 ∨ c.kind = 5
    · have e : (s.do c).2 = s.tick c.time := by
        unfold MS.do
        rw [if_neg (by simp [hk])]
        dsimp only
        rw [if_pos hq]
      rw [e]
      exact h2.same (fun _ => rfl) rfl
    · have hn : nameOk c.stream = true := by
        unfold Cmd.check at hk
        split at hk
        · cases hk
        · rename_i q1
          split at hk
          · cases hk
          · rename_i q2
            cases hb : nameOk c.stream with
            | true => rfl
            | false => exact absurd ⟨by omega, hb⟩ q2
      rcases do_shape s c with ⟨h1, h3⟩ | ⟨y, h1, ⟨h4, h3⟩ | ⟨h4, h3⟩⟩
      · exact h2.same (fun n => by rw [find_m h1]) h3
      · refine h2.same (fun n => ?_) h3
        have e : (s.do c).2.find n = (s.put c.stream y).find n := find_m h1 n
        rw [e, find_put]
        split
        · rename_i q; subst q; exact h4
        · rfl
      · have hfi : ∀ n, ((s.do c).2.find n).places = if c.stream = n then y.places else (s.find n).places := fun n => by
          have e : (s.do c).2.find n = (s.put c.stream y).find n := find_m h1 n
          rw [e, find_put]
          split <;> rfl
        generalize (s.do c).2 = t at *
        obtain ⟨st, hst⟩ : ∃ st, st = storedOf c.stream (max s.now c.time) c.events (s.find c.stream).places.length s.all.length := ⟨_, rfl⟩
        rw [← hst] at h3
        have hsl : st.length = c.events.length := by rw [hst, storedOf_len]
        have hss : ∀ e ∈ st, e.stream = c.stream := by rw [hst]; exact storedOf_stream _ _ _ _ _
        have hold : ∀ n, (s.find n).places.map (evAt t.all) = s.all.filter (fun e => decide (e.stream = n)) := fun n => by
          rw [← h2.1 n]
          apply List.map_congr_left
          intro p hp
          obtain ⟨k, hk, rfl⟩ := List.mem_iff_getElem.1 hp
          obtain ⟨q, hq1, hq2, _⟩ := h.plc n k hk
          rw [hq2, h3]
          exact evAt_append hq1
        refine ⟨fun n => ?_, fun e he => ?_⟩
        · rw [hfi]
          split
          · rename_i q
            subst q
            rw [h4, List.map_append, hold, h3, List.filter_append, ← hsl, range_evAt]
            congr 1
            exact (List.filter_eq_self.2 (fun e he => by simpa using hss e he)).symm
          · rename_i q
            rw [hold, h3, List.filter_append]
            rw [show st.filter (fun e => decide (e.stream = n)) = [] from List.filter_eq_nil_iff.2 (fun e he => by simpa [hss e he] using q), List.append_nil]
        · rw [h3] at he
          rcases List.mem_append.1 he with he | he
          · exact h2.2 e he
          · rw [hss e he]
            exact hn
  · have e : (s.do c).2 = s := by
      unfold MS.do
      rw [if_pos (by simpa using hk)]
    rw [e]
    exact h2
theorem drop_filter (f : StoredR → Int) : ∀ (L : List StoredR) (b : Int) (h : ∀ k (hk : k < L.length), f L[k] = b + k) (a : Nat), L.drop a = L.filter (fun e => decide (b + a ≤ f e))
  | [], _, _, _ => by simp
  | x :: l, b, h, 0 => by
    rw [List.drop_zero, List.filter_eq_self.2]
    intro e he
    obtain ⟨k, hk, rfl⟩ := List.mem_iff_getElem.1 he
    rw [h k hk]
    simp
    omega
  | x :: l, b, h, a + 1 => by
    have h0 := h 0 (by simp)
    simp only [List.getElem_cons_zero] at h0
    rw [List.drop_succ_cons, drop_filter f l (b + 1) (fun k hk => by
      have := h (k + 1) (by simpa using hk)
      simp only [List.getElem_cons_succ] at this
      rw [this]
      omega) a, List.filter_cons, if_neg (by simp [h0]; omega)]
    congr 1
    funext e
    congr 1
    apply propext
    constructor <;> intro <;> omega
def MS.seenAll (s : MS) : List StoredR := s.all.filter (fun e => s.seenAt e.position)
theorem seenAt_of {s : MS} (h : s.Inv) {e : StoredR} (he : e ∈ s.all) : s.seenAt e.position = (!(s.find e.stream).deleted && decide (s.floorS e.stream ≤ e.version)) := by
  obtain ⟨i, hi, rfl⟩ := List.mem_iff_getElem.1 he
  rw [h.pos i hi]
  unfold MS.seenAt
  rw [if_neg (by omega), evAt_nat hi]
theorem floorS_bd (s : MS) (n : ByteArray) : 0 ≤ s.floorS n ∧ s.floorS n ≤ (s.find n).places.length := floorOf_bd s (s.find n)
theorem streamEvs_vers {s : MS} (h : s.Inv) (h2 : s.Inv2) (n : ByteArray) : ∀ k (hk : k < (s.all.filter (fun e => decide (e.stream = n))).length), (s.all.filter (fun e => decide (e.stream = n)))[k].version = 0 + (k : Int) := by
  intro k hk
  have e := h2.1 n
  simp only [← e] at hk ⊢
  rw [List.getElem_map]
  obtain ⟨p, hp, h3, h4, h5⟩ := h.plc n k (by simpa using hk)
  rw [h3, evAt_nat hp, h5]
  omega
theorem seenL_filter {s : MS} (h : s.Inv) (h2 : s.Inv2) (n : ByteArray) : s.seenL n = s.seenAll.filter (fun e => decide (e.stream = n)) := by
  have e1 : s.seenAll.filter (fun e => decide (e.stream = n)) = (s.all.filter (fun e => decide (e.stream = n))).filter (fun e => !(s.find n).deleted && decide (s.floorS n ≤ e.version)) := by
    unfold MS.seenAll
    rw [List.filter_filter, List.filter_filter]
    apply List.filter_congr
    intro e he
    by_cases q : e.stream = n
    · rw [seenAt_of h he, q]
      simp
    · simp [q]
  rw [e1]
  unfold MS.seenL
  cases (s.find n).deleted with
  | true =>
    simp only [if_true, Bool.not_true, Bool.false_and]
    rw [List.filter_eq_nil_iff.2 (by simp)]
  | false =>
    simp only [Bool.false_eq_true, if_false, Bool.not_false, Bool.true_and]
    rw [List.map_drop, h2.1 n, drop_filter StoredR.version _ 0 (streamEvs_vers h h2 n)]
    have := floorS_bd s n
    congr 1
    funext e
    congr 1
    apply propext
    constructor <;> intro <;> omega
theorem seenL_length {s : MS} (n : ByteArray) (hd : (s.find n).deleted = false) : ((s.seenL n).length : Int) = (s.find n).places.length - s.floorS n := by
  have := floorS_bd s n
  unfold MS.seenL
  rw [hd]
  simp
  omega
theorem name_of {s : MS} (h : s.Inv) (h2 : s.Inv2) (n : ByteArray) (h0 : (s.find n).places.length ≠ 0) : nameOk n = true := by
  obtain ⟨p, hp, h3, h4, h5⟩ := h.plc n 0 (by omega)
  rw [← h4]
  exact h2.2 _ (List.getElem_mem hp)
def Rising (key : StoredR → Int) (l : List StoredR) : Prop := l.Pairwise (fun x y => key x < key y)
theorem rising_of (key : StoredR → Int) : ∀ (l : List StoredR) (b : Int) (h : ∀ k (hk : k < l.length), key l[k] = b + k), Rising key l := by
  intro l b h
  unfold Rising
  rw [List.pairwise_iff_getElem]
  intro i j hi hj hij
  rw [h i hi, h j hj]
  omega
theorem rising_all {s : MS} (h : s.Inv) : Rising StoredR.position s.seenAll :=
  List.Pairwise.filter _ (rising_of StoredR.position s.all 0 (fun k hk => by rw [h.pos k hk]; omega))
theorem rising_stream {s : MS} (h : s.Inv) (h2 : s.Inv2) (n : ByteArray) : Rising StoredR.version (s.seenL n) := by
  have hr := rising_of StoredR.version _ 0 (streamEvs_vers h h2 n)
  rw [← h2.1 n] at hr
  unfold MS.seenL
  split
  · exact List.Pairwise.nil
  · rw [List.map_drop]
    exact List.Pairwise.sublist (List.drop_sublist _ _) hr

/-! ## pages one behind the other -/
theorem fwdGo_spec (key : StoredR → Int) (f n : Int) (hn : 0 ≤ n) : ∀ (l acc : List StoredR) (nx : Int), (acc.length : Int) ≤ n →
    ((acc.length + (l.filter (fun e => decide (f ≤ key e))).length : Int) ≤ n ∧ ∃ nt, fwdGo key f n l acc nx = ⟨acc ++ l.filter (fun e => decide (f ≤ key e)), nt, true⟩) ∨
    ∃ A B nt, l.filter (fun e => decide (f ≤ key e)) = A ++ B ∧ (acc.length + A.length : Int) = n ∧ fwdGo key f n l acc nx = ⟨acc ++ A, nt, false⟩ ∧ ((A = [] ∧ nt = nx) ∨ ∃ A' e, A = A' ++ [e] ∧ nt = key e + 1)
  | [], acc, nx, ha => .inl ⟨by simpa using ha, nx, by simp [fwdGo]⟩
  | s :: l, acc, nx, ha => by
    by_cases h1 : key s < f
    · have e1 : fwdGo key f n (s :: l) acc nx = fwdGo key f n l acc nx := by rw [fwdGo, if_pos h1]
      have e2 : (s :: l).filter (fun e => decide (f ≤ key e)) = l.filter (fun e => decide (f ≤ key e)) := by rw [List.filter_cons, if_neg (by simp; omega)]
      rw [e1, e2]
      exact fwdGo_spec key f n hn l acc nx ha
    · have e2 : (s :: l).filter (fun e => decide (f ≤ key e)) = s :: l.filter (fun e => decide (f ≤ key e)) := by rw [List.filter_cons, if_pos (by simp; omega)]
      by_cases h2 : (acc.length : Int) = n
      · refine .inr ⟨[], (s :: l).filter (fun e => decide (f ≤ key e)), nx, rfl, by simpa using h2, ?_, .inl ⟨rfl, rfl⟩⟩
        rw [fwdGo, if_neg h1, if_pos h2, List.append_nil]
      · have e1 : fwdGo key f n (s :: l) acc nx = fwdGo key f n l (acc ++ [s]) (key s + 1) := by rw [fwdGo, if_neg h1, if_neg h2]
        rw [e1, e2]
        rcases fwdGo_spec key f n hn l (acc ++ [s]) (key s + 1) (by simp; omega) with ⟨q1, nt, q2⟩ | ⟨A, B, nt, q1, q2, q3, q4⟩
        · refine .inl ⟨by simp at q1 ⊢; omega, nt, ?_⟩
          rw [q2]
          simp
        · refine .inr ⟨s :: A, B, nt, by rw [q1]; rfl, by simp at q2 ⊢; omega, by rw [q3]; simp, .inr ?_⟩
          rcases q4 with ⟨rfl, rfl⟩ | ⟨A', e, rfl, rfl⟩
          · exact ⟨[], s, rfl, rfl⟩
          · exact ⟨s :: A', e, rfl, rfl⟩
/-- All pages from a place on, at most so many. -/
def walkP (page : Int → PageR × Int) : Nat → Int → List StoredR
  | 0, _ => []
  | k + 1, at_ => if (page at_).2 = 0 then (page at_).1.events ++ (if (page at_).1.isEnd then [] else walkP page k (page at_).1.next) else []
theorem rising_behind {key : StoredR → Int} {A B : List StoredR} {e : StoredR} (h : Rising key (A ++ [e] ++ B)) : (A ++ [e] ++ B).filter (fun x => decide (key e + 1 ≤ key x)) = B := by
  unfold Rising at h
  rw [List.pairwise_append] at h
  obtain ⟨h1, h2, h3⟩ := h
  rw [List.pairwise_append] at h1
  obtain ⟨h4, h5, h6⟩ := h1
  rw [List.filter_append, List.filter_append]
  rw [List.filter_eq_nil_iff.2 (fun x hx => by have := h6 x hx e (by simp); simp; omega), show [e].filter (fun x => decide (key e + 1 ≤ key x)) = [] from List.filter_eq_nil_iff.2 (fun x hx => by simp at hx; subst hx; simp; omega)]
  rw [List.filter_eq_self.2 (fun x hx => by have := h3 e (by simp) x hx; simp; omega)]
  rfl
theorem walkP_from {key : StoredR → Int} {l : List StoredR} {n : Int} (hn : 1 ≤ n ∧ n ≤ 100) (hr : Rising key l) (h0 : ∀ e ∈ l, 0 ≤ key e) : ∀ (k : Nat) (f : Int), 0 ≤ f → (l.filter (fun e => decide (f ≤ key e))).length < k →
    walkP (fun a => forwardBy key l a n) k f = l.filter (fun e => decide (f ≤ key e))
  | 0, _, _, h => absurd h (Nat.not_lt_zero _)
  | k + 1, f, hf, hk => by
    have e0 : forwardBy key l f n = (fwdGo key f n l [] f, 0) := by
      unfold forwardBy
      rw [if_neg (by simp [wrongP]; omega)]
    unfold walkP
    rw [if_pos (by rw [e0]), e0]
    dsimp only
    rcases fwdGo_spec key f n (by omega) l [] f (by simp; omega) with ⟨q1, nt, q2⟩ | ⟨A, B, nt, q1, q2, q3, q4⟩
    · rw [q2]
      simp
    · rw [q3]
      simp only [List.nil_append, Bool.false_eq_true, if_false]
      rcases q4 with ⟨rfl, rfl⟩ | ⟨A', e, rfl, rfl⟩
      · simp at q2
        omega
      · have hef : e ∈ l.filter (fun e => decide (f ≤ key e)) := by rw [q1]; simp
        have he2 : f ≤ key e := by have := (List.mem_filter.1 hef).2; simpa using this
        have e3 : l.filter (fun x => decide (key e + 1 ≤ key x)) = (l.filter (fun e => decide (f ≤ key e))).filter (fun x => decide (key e + 1 ≤ key x)) := by
          rw [List.filter_filter]
          apply List.filter_congr
          intro x _
          by_cases q : key e + 1 ≤ key x
          · simp [q]; omega
          · simp [q]
        have e4 : l.filter (fun x => decide (key e + 1 ≤ key x)) = B := by
          rw [e3, q1]
          apply rising_behind
          rw [← q1]
          exact List.Pairwise.filter _ hr
        rw [walkP_from hn hr h0 k (key e + 1) (by omega) (by rw [e4]; rw [q1] at hk; simp at hk; omega), e4, q1]
theorem walkP_all {key : StoredR → Int} {l : List StoredR} {n : Int} (hn : 1 ≤ n ∧ n ≤ 100) (hr : Rising key l) (h0 : ∀ e ∈ l, 0 ≤ key e) {k : Nat} (hk : l.length < k) : walkP (fun a => forwardBy key l a n) k 0 = l := by
  have e : l.filter (fun e => decide ((0 : Int) ≤ key e)) = l := List.filter_eq_self.2 (fun e he => by simpa using h0 e he)
  rw [walkP_from hn hr h0 k 0 (Int.le_refl _) (by rw [e]; exact hk), e]
end Go.Proofs.Ytefkhkbkengniaa
