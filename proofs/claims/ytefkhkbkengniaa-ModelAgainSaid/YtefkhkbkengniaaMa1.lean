/- ModelAgain, the plain law: what an append came to stays, and it comes to it again. -/
import Derived.Test.YtefkhkbkengniaaMl2
set_option linter.unusedVariables false
set_option linter.unusedSimpArgs false
namespace Go.Proofs.Ytefkhkbkengniaa
open Go.RowKit
theorem idAt_app {all more : List StoredR} {p : Int} (h : 0 ≤ p ∧ p < all.length) : idAt (all ++ more) p = idAt all p := by
  obtain ⟨q, rfl⟩ := Int.eq_ofNat_of_zero_le h.1
  have hq : q < all.length := by omega
  unfold idAt
  rw [Int.toNat_natCast, List.getElem?_append_left hq]
theorem firstOf_hit (all : List StoredR) (id : Int) (qs : List Int) : ∀ (ps : List Int) (k : Int), 0 ≤ k → firstOf all id ps k ≠ -1 → firstOf all id (ps ++ qs) k = firstOf all id ps k
  | [], k, _, h => absurd rfl h
  | p :: ps, k, hk, h => by
    by_cases h2 : idAt all p = id
    · simp only [List.cons_append, firstOf, h2, if_true]
    · simp only [List.cons_append, firstOf, h2, if_false] at h ⊢
      exact firstOf_hit all id qs ps (k + 1) (by omega) h
theorem firstOf_miss (all : List StoredR) (id : Int) (qs : List Int) : ∀ (ps : List Int) (k : Int), 0 ≤ k → firstOf all id ps k = -1 → firstOf all id (ps ++ qs) k = firstOf all id qs (k + ps.length)
  | [], k, _, _ => by simp
  | p :: ps, k, hk, h => by
    by_cases h2 : idAt all p = id
    · simp only [firstOf, h2, if_true] at h
      omega
    · simp only [List.cons_append, firstOf, h2, if_false] at h ⊢
      rw [firstOf_miss all id qs ps (k + 1) (by omega) h, List.length_cons]
      congr 1
      omega
theorem firstOf_congr {all all' : List StoredR} {id : Int} : ∀ (ps : List Int) (k : Int), (∀ p ∈ ps, idAt all' p = idAt all p) → firstOf all' id ps k = firstOf all id ps k
  | [], _, _ => rfl
  | p :: ps, k, h => by
    simp only [firstOf]
    rw [h p (by simp), firstOf_congr ps (k + 1) (fun q hq => h q (by simp [hq]))]
theorem firstOf_bd (all : List StoredR) (id : Int) : ∀ (ps : List Int) (k : Int), firstOf all id ps k = -1 ∨ (k ≤ firstOf all id ps k ∧ firstOf all id ps k < k + ps.length)
  | [], _ => .inl rfl
  | p :: ps, k => by
    simp only [firstOf]
    split
    · right; simp only [List.length_cons]; omega
    · rcases firstOf_bd all id ps (k + 1) with h | h
      · exact .inl h
      · right; simp only [List.length_cons]; omega
theorem sameIds_congr {all all' : List StoredR} : ∀ (es : List EventR) (ps : List Int), (∀ p ∈ ps, idAt all' p = idAt all p) → sameIds all' es ps = sameIds all es ps
  | [], _, _ => rfl
  | _ :: _, [], _ => rfl
  | e :: es, p :: ps, h => by
    simp only [sameIds]
    rw [h p (by simp), sameIds_congr es ps (fun q hq => h q (by simp [hq]))]
theorem sameIds_app {all : List StoredR} : ∀ (es : List EventR) (ps qs : List Int), es.length ≤ ps.length → sameIds all es (ps ++ qs) = sameIds all es ps
  | [], _, _, _ => rfl
  | _ :: _, [], _, h => by simp at h
  | e :: es, p :: ps, qs, h => by
    simp only [List.cons_append, sameIds]
    rw [sameIds_app es ps qs (by simpa using h)]
def evId (c : Cmd) : Int := (c.events.head?.map (·.id)).getD 0
/-- An append that came to version v and position pos would come to them again. -/
structure Told (s : MS) (c : Cmd) (v pos : Int) : Prop where
  v0 : 0 ≤ v
  len : v + c.events.length ≤ (s.find c.stream).places.length
  first : firstOf s.all (evId c) (s.find c.stream).places 0 = v
  ids : sameIds s.all c.events ((s.find c.stream).places.drop v.toNat) = true
  last : ((s.find c.stream).places[(v + c.events.length - 1).toNat]?).getD 0 = pos
  fits : fitsAgain c v = true
theorem Told.of {s t : MS} {c : Cmd} {v pos : Int} {more : List Int} {ev : List StoredR} (h : Told s c v pos) (hne : 1 ≤ c.events.length) (hb : ∀ p ∈ (s.find c.stream).places, 0 ≤ p ∧ p < s.all.length)
    (hp : (t.find c.stream).places = (s.find c.stream).places ++ more) (ha : t.all = s.all ++ ev) : Told t c v pos := by
  obtain ⟨h1, h2, h3, h4, h5, h6⟩ := h
  have hid : ∀ p ∈ (s.find c.stream).places, idAt t.all p = idAt s.all p := fun p hp => by rw [ha]; exact idAt_app (hb p hp)
  have hf : firstOf t.all (evId c) (s.find c.stream).places 0 = v := by rw [firstOf_congr _ 0 hid]; exact h3
  refine ⟨h1, by rw [hp, List.length_append]; omega, ?_, ?_, ?_, h6⟩
  · rw [hp, firstOf_hit _ _ _ _ _ (by omega) (by rw [hf]; omega), hf]
  · rw [hp, List.drop_append_of_le_length (by omega), sameIds_app _ _ _ (by simp; omega), sameIds_congr _ _ (fun p hp => hid p (List.mem_of_mem_drop hp))]
    exact h4
  · rw [hp, List.getElem?_append_left (by omega)]
    exact h5
theorem told_do {s : MS} {c : Cmd} {v pos : Int} {N : Nat} (h : Told s c v pos) (hne : 1 ≤ c.events.length) (hs : s.Ok N) (d : Cmd) : Told (s.do d).2 c v pos := by
  have hb := (hs.find c.stream).2.2.2.2
  rcases do_shape s d with ⟨h1, h2⟩ | ⟨y, h1, ⟨h2, h3⟩ | ⟨h2, h3⟩⟩
  · exact h.of hne hb (more := []) (ev := []) (by rw [find_m h1, List.append_nil]) (by rw [h2, List.append_nil])
  · refine h.of hne hb (more := []) (ev := []) ?_ (by rw [h3, List.append_nil])
    have e : (s.do d).2.find c.stream = (s.put d.stream y).find c.stream := find_m h1 _
    rw [e, find_put, List.append_nil]
    split
    · rename_i q; rw [← q]; exact h2
    · rfl
  · by_cases q : d.stream = c.stream
    · refine h.of hne hb (more := rangeFrom d.events.length s.all.length) ?_ h3
      have e : (s.do d).2.find c.stream = (s.put d.stream y).find c.stream := find_m h1 _
      rw [e, find_put, if_pos q, h2, q]
    · refine h.of hne hb (more := []) ?_ h3
      have e : (s.do d).2.find c.stream = (s.put d.stream y).find c.stream := find_m h1 _
      rw [e, find_put, if_neg q, List.append_nil]
theorem told_run {c : Cmd} {v pos : Int} (hne : 1 ≤ c.events.length) : ∀ (l : List CmdV) {s : MS} {N : Nat}, Told s c v pos → s.Ok N → Told (runS s l) c v pos
  | [], _, _, h, _ => h
  | x :: l, s, N, h, hs => told_run hne l (told_do h hne hs x.c) (MS.do_ok hs x.c)
theorem again_of {s : MS} {c : Cmd} {x : StreamR} {v : Int} (h0 : 0 ≤ v) (h1 : fitsAgain c v = true) (h2 : v + c.events.length ≤ x.places.length) (h3 : sameIds s.all c.events (x.places.drop v.toNat) = true) :
    s.again c x v = ⟨0, v, (x.places[(v + c.events.length - 1).toNat]?).getD 0, true⟩ := by
  unfold MS.again
  rw [if_neg (by rw [h1]; simp; omega), if_pos h3]
/-- Once more. -/
theorem told_again {s : MS} {c : Cmd} {v pos : Int} (h : Told s c v pos) (hk : c.check = 0) (h1 : c.kind = 1) :
    ((s.find c.stream).deleted = true → (s.do c).1 = ⟨23, 0, 0, false⟩) ∧ ((s.find c.stream).deleted = false → (s.do c).1 = ⟨0, v, pos, true⟩) ∧ (s.do c).2.all = s.all ∧ (((s.do c).2).find c.stream).deleted = (s.find c.stream).deleted := by
  obtain ⟨a1, a2, a3, a4, a5, a6⟩ := h
  unfold MS.do
  rw [if_neg (by rw [hk]; decide)]
  dsimp only
  rw [if_neg (by rw [h1]; decide)]
  have hfx : (s.tick c.time).find c.stream = s.find c.stream := rfl
  rw [hfx]
  cases hd : (s.find c.stream).deleted with
  | true =>
    refine ⟨fun _ => by simp, fun q => by simp at q, by simp [MS.tick], ?_⟩
    simp only [if_true]
    rw [hfx]
    exact hd
  | false =>
    have hact : ∀ x : StreamR, x.places = (s.find c.stream).places → (s.tick c.time).act c x = (⟨0, v, pos, true⟩, x, s.tick c.time) := fun x hx => by
      unfold MS.act
      dsimp only
      rw [if_neg (by rw [h1]; decide), if_neg (by rw [h1]; decide)]
      have e1 : (s.tick c.time).first x ((c.events.head?).map (·.id) |>.getD 0) = v := by
        unfold MS.first
        rw [hx]
        exact a3
      rw [e1, if_pos a1, again_of a1 a6 (by rw [hx]; exact a2) (by rw [hx]; exact a4), hx, a5]
    simp only [Bool.false_eq_true, if_false]
    rw [hact ⟨(s.find c.stream).places, (s.find c.stream).mt, (s.tick c.time).floorOf (s.find c.stream), false⟩ rfl]
    refine ⟨fun q => by simp at q, fun _ => rfl, rfl, ?_⟩
    unfold MS.keep
    rw [find_put, if_pos rfl]
/-- What an append that is told OK comes to. -/
theorem told_first {s : MS} {c : Cmd} {N : Nat} (hs : s.Ok N) (h1 : c.kind = 1) (he : (s.do c).1.err = 0) : Told (s.do c).2 c (s.do c).1.version (s.do c).1.position ∧ c.check = 0 ∧ 1 ≤ c.events.length := by
  have hk : c.check = 0 := by
    by_cases hk : c.check = 0
    · exact hk
    · unfold MS.do at he
      rw [if_pos hk] at he
      exact absurd he hk
  have hz := check_zero hk
  have hl := hz.2.2.2.2 h1
  refine ⟨?_, hk, hl.1⟩
  unfold MS.do at he ⊢
  rw [if_neg (by rw [hk]; decide)] at he ⊢
  dsimp only at he ⊢
  rw [if_neg (by rw [h1]; decide)] at he ⊢
  have hfx : (s.tick c.time).find c.stream = s.find c.stream := rfl
  rw [hfx] at he ⊢
  cases hd : (s.find c.stream).deleted with
  | true => rw [hd] at he; simp at he
  | false =>
    rw [hd] at he
    simp only [Bool.false_eq_true, if_false] at he ⊢
    obtain ⟨x, hx⟩ : ∃ x : StreamR, x = ⟨(s.find c.stream).places, (s.find c.stream).mt, (s.tick c.time).floorOf (s.find c.stream), false⟩ := ⟨_, rfl⟩
    have hxp : x.places = (s.find c.stream).places := by rw [hx]
    have hb : ∀ p ∈ x.places, 0 ≤ p ∧ p < s.all.length := by rw [hxp]; exact (hs.find c.stream).2.2.2.2
    rw [← hx] at he ⊢
    have key : ∀ (a : Ans) (y : StreamR) (t : MS), (s.tick c.time).act c x = (a, y, t) → a.err = 0 →
        0 ≤ a.version ∧ a.version + c.events.length ≤ y.places.length ∧ firstOf t.all (evId c) y.places 0 = a.version ∧ sameIds t.all c.events (y.places.drop a.version.toNat) = true ∧ (y.places[(a.version + c.events.length - 1).toNat]?).getD 0 = a.position ∧ fitsAgain c a.version = true := by
      intro a y t hact ha
      unfold MS.act at hact
      dsimp only at hact
      rw [if_neg (by rw [h1]; decide), if_neg (by rw [h1]; decide)] at hact
      by_cases hv : 0 ≤ (s.tick c.time).first x ((c.events.head?).map (·.id) |>.getD 0)
      · rw [if_pos hv] at hact
        obtain ⟨rfl, rfl, rfl⟩ : _ ∧ _ ∧ _ := by simpa using hact
        obtain ⟨v, hvv⟩ : ∃ v, v = (s.tick c.time).first x ((c.events.head?).map (·.id) |>.getD 0) := ⟨_, rfl⟩
        rw [← hvv] at ha hv ⊢
        unfold MS.again at ha ⊢
        by_cases hc : fitsAgain c v = false ∨ (x.places.length : Int) - v < c.events.length
        · rw [if_pos hc] at ha
          simp [wrong] at ha
        · rw [if_neg hc] at ha ⊢
          by_cases hi : sameIds (s.tick c.time).all c.events (x.places.drop v.toNat) = true
          · rw [if_pos hi] at ha ⊢
            refine ⟨hv, by show v + _ ≤ _; omega, ?_, hi, rfl, ?_⟩
            · exact hvv.symm
            · show fitsAgain c v = true
              cases hf : fitsAgain c v
              · exact absurd (.inl hf) hc
              · rfl
          · rw [if_neg hi] at ha
            simp [wrong] at ha
      · rw [if_neg hv] at hact
        have hv1 : firstOf s.all (evId c) x.places 0 = -1 := by
          rcases firstOf_bd s.all (evId c) x.places 0 with q | q
          · exact q
          · exact absurd q.1 hv
        by_cases hex : expected c.expected x.places.length = true
        · rw [if_pos hex] at hact
          unfold MS.append at hact
          obtain ⟨rfl, rfl, rfl⟩ : _ ∧ _ ∧ _ := by simpa using hact
          dsimp only
          have hall : (s.tick c.time).all = s.all := rfl
          have hnow : (s.tick c.time).now = max s.now c.time := rfl
          rw [hall, hnow]
          have hnid : ∀ i (hi : i < c.events.length), idAt (s.all ++ storedOf c.stream (max s.now c.time) c.events x.places.length s.all.length) ((s.all.length : Int) + i) = c.events[i].id := fun i hi => by
            unfold idAt
            rw [show ((s.all.length : Int) + i).toNat = s.all.length + i by omega, List.getElem?_append_right (by omega), show s.all.length + i - s.all.length = i by omega, storedOf_get _ _ _ _ _ i hi]
            rfl
          refine ⟨by omega, by rw [List.length_append, rangeFrom_len]; omega, ?_, ?_, ?_, ?_⟩
          · rw [firstOf_miss _ _ _ _ _ (by omega) (by rw [firstOf_congr x.places 0 (fun p hp => idAt_app (hb p hp))]; exact hv1)]
            cases hce : c.events with
            | nil => rw [hce] at hl; simp at hl
            | cons e es =>
              have h00 := hnid 0 (by omega)
              have e0 : (c.events[0]'(by omega)) = e := by simp [hce]
              rw [e0] at h00
              have hlen : c.events.length = es.length + 1 := by rw [hce]; rfl
              have hev : evId c = e.id := by unfold evId; rw [hce]; rfl
              rw [← hce, hlen, hev]
              simp only [rangeFrom, firstOf]
              rw [if_pos (by simpa using h00)]
              omega
          · rw [Int.toNat_natCast, List.drop_append_of_le_length (Nat.le_refl _), List.drop_length, List.nil_append]
            have gen : ∀ (es : List EventR) (j : Nat), (∀ i (hi : i < es.length), idAt (s.all ++ storedOf c.stream (max s.now c.time) c.events x.places.length s.all.length) ((s.all.length : Int) + ((j + i : Nat) : Int)) = es[i].id) →
                sameIds (s.all ++ storedOf c.stream (max s.now c.time) c.events x.places.length s.all.length) es (rangeFrom es.length ((s.all.length : Int) + j)) = true := by
              intro es
              induction es with
              | nil => intro j _; rfl
              | cons e es ih =>
                intro j hj
                simp only [List.length_cons, rangeFrom, sameIds, Bool.and_eq_true, decide_eq_true_eq]
                refine ⟨by
                  have h := hj 0 (by simp)
                  simp only [Nat.add_zero, List.getElem_cons_zero] at h
                  exact h, ?_⟩
                have := ih (j + 1) (fun i hi => by
                  have := hj (i + 1) (by simpa using hi)
                  rw [show j + 1 + i = j + (i + 1) by omega]
                  simpa using this)
                rw [show (s.all.length : Int) + j + 1 = (s.all.length : Int) + ((j + 1 : Nat) : Int) by omega]
                exact this
            have := gen c.events 0 (fun i hi => by rw [Nat.zero_add]; exact hnid i hi)
            simpa using this
          · rw [show ((x.places.length : Int) + c.events.length - 1).toNat = x.places.length + (c.events.length - 1) by omega, List.getElem?_append_right (by omega), show x.places.length + (c.events.length - 1) - x.places.length = c.events.length - 1 by omega, rangeFrom_get _ _ _ (by omega)]
            simp
            omega
          · unfold expected at hex
            unfold fitsAgain
            split at hex
            · rename_i q; simp [q]
            · split at hex
              · rename_i q
                have hz := of_decide_eq_true hex
                rw [q, hz]
                decide
              · split at hex
                · rename_i q; simp [q]
                · have q : c.expected = x.places.length - 1 := of_decide_eq_true hex
                  rename_i n1 n2 n3
                  have hpos : 0 < (x.places.length : Int) := by omega
                  simp only [Bool.or_eq_true, Bool.and_eq_true, decide_eq_true_eq]
                  exact .inl (.inr ⟨q, hpos⟩)
        · rw [if_neg hex] at hact
          obtain ⟨rfl, _, _⟩ : _ ∧ _ ∧ _ := by simpa using hact
          simp [wrong] at ha
    generalize hr : (s.tick c.time).act c x = r at he ⊢
    obtain ⟨a, y, t⟩ := r
    obtain ⟨k1, k2, k3, k4, k5, k6⟩ := key a y t hr he
    have hfk : ((t.keep c.stream y).find c.stream).places = y.places := by
      unfold MS.keep
      rw [find_put, if_pos rfl]
    exact ⟨k1, by rw [hfk]; exact k2, by rw [hfk]; exact k3, by rw [hfk]; exact k4, by rw [hfk]; exact k5, k6⟩
end Go.Proofs.Ytefkhkbkengniaa
