/- Proved here: contracts of functions and plain laws, part 6 of 6 of one proof. Conditions: each theorem names its own. -/
import Derived.Test.YthjgplgfcbhihaaGreatP5
/- What a group does, the document's group does: Ack, Nak, and what is forgotten. No program is named. -/
set_option linter.unusedVariables false
set_option linter.unusedSimpArgs false
namespace Go.Proofs.YthjgplgfcbhihaaGreat
open Go.RowKit
def Tidied (r : RG) : Prop := ∀ x ∈ r.l, (x.st = 3 ∨ x.st = 5) → r.ckpt ≤ x.n
theorem find_map {f : Item → Item} : ∀ (L : List Item), (∀ x ∈ L, pOpen (f x) = pOpen x ∧ (f x).n = x.n) → (L.map f).find? pOpen = (L.find? pOpen).map f
  | [], _ => rfl
  | x :: L, h => by
    have ih := find_map L (fun y hy => h y (by simp [hy]))
    rw [List.map_cons, List.find?_cons, List.find?_cons, (h x (by simp)).1]
    cases pOpen x
    · exact ih
    · rfl
theorem ckpt_map (r : RG) (f : Item → Item) (h : ∀ x ∈ r.l, pOpen (f x) = pOpen x ∧ (f x).n = x.n) : RG.ckpt { r with l := r.l.map f } = r.ckpt := by
  unfold RG.ckpt
  simp only
  rw [find_map r.l h]
  cases hf : r.l.find? pOpen with
  | none => simp
  | some x => exact (h x (List.mem_of_find?_eq_some hf)).2
theorem tidyI_open (c : Int) (x : Item) : pOpen (tidyI c x) = pOpen x ∧ (tidyI c x).n = x.n := by
  unfold tidyI
  split
  · rename_i h
    refine ⟨?_, rfl⟩
    unfold pOpen
    rcases h.1 with q | q <;> simp [q]
  · exact ⟨rfl, rfl⟩
theorem tidy_ckpt (r : RG) : r.tidy.ckpt = r.ckpt := ckpt_map r _ (fun x _ => tidyI_open _ x)
theorem tidy_tidied (r : RG) : Tidied r.tidy := fun x hx hs => by
  rw [tidy_ckpt]
  obtain ⟨y, hy, rfl⟩ := List.mem_map.1 hx
  unfold tidyI at hs ⊢
  split at hs
  · simp at hs
  · rename_i q
    rw [if_neg q]
    exact Int.not_lt.1 (fun z => q ⟨hs, z⟩)
theorem tidy_id {r : RG} (h : Tidied r) : r.tidy = r := by
  have : r.l.map (tidyI r.ckpt) = r.l := by
    conv => rhs; rw [← List.map_id r.l]
    refine List.map_congr_left (fun x hx => ?_)
    unfold tidyI
    rw [if_neg (fun q => by have := h x hx q.1; omega)]
    rfl
  unfold RG.tidy
  rw [this]
section
variable {g g' : GS} {r : RG} {N : Nat}
theorem Rel.forget (h : Rel g r) (ho : g.Ok N) : Rel g.forget r.tidy := by
  have hc := h.ckpt ho
  unfold RG.tidy
  rw [← hc]
  obtain ⟨c, hce⟩ : ∃ c, c = g.checkpoint := ⟨_, rfl⟩
  rw [← hce]
  refine h.map (g' := g.forget) (tidyI c) (fun x _ => (tidyI_open c x).2) ⟨rfl, rfl, rfl, rfl⟩ h.whoS h.whoM h.whoN (fun x hx => ?_) h.tr0 h.nod
  have hp := h.pt x hx
  have ha : x.n ∈ g.forget.acked ↔ x.st = 3 ∧ ¬ x.n < c := by
    show x.n ∈ g.acked.filter _ ↔ _
    rw [List.mem_filter, hp.ac, ← hce]
    simp
  have hs : x.n ∈ g.forget.skipped ↔ x.st = 5 ∧ ¬ x.n < c := by
    show x.n ∈ g.skipped.filter _ ↔ _
    rw [List.mem_filter, hp.sk, ← hce]
    simp
  unfold tidyI
  split
  · rename_i q
    refine ⟨?_, ?_, ?_, ?_, fun t => ?_, ?_, by simp⟩
    · exact ⟨fun z => absurd (hp.wa.1 z) (by omega), fun z => absurd z (by simp)⟩
    · exact ⟨fun z => absurd (hp.pa.1 z) (by omega), fun z => absurd z (by simp)⟩
    · exact ⟨fun z => absurd (ha.1 z).2 (by omega), fun z => absurd z (by simp)⟩
    · exact ⟨fun z => absurd (hs.1 z).2 (by omega), fun z => absurd z (by simp)⟩
    · exact ⟨fun z => absurd ((hp.fl t).1 z).1 (by omega), fun z => absurd z.1 (by simp)⟩
    · show g.tr x.n = _
      rw [hp.tr, if_neg (by omega)]
      simp
  · rename_i q
    refine ⟨hp.wa, hp.pa, ?_, ?_, hp.fl, hp.tr, hp.st⟩
    · exact ha.trans ⟨fun z => z.1, fun z => ⟨z, fun y => q ⟨.inl z, y⟩⟩⟩
    · exact hs.trans ⟨fun z => z.1, fun z => ⟨z, fun y => q ⟨.inr z, y⟩⟩⟩
/-- What is done with what was taken. -/
def giveS (how : Int) (C : List Int) (T : GS) : GS := if how = 0 then { T with acked := C.foldl insL T.acked, tries := C.foldl adel T.tries } else C.foldl (GS.nak1 how) T
theorem nakAll1 : ∀ (C : List Int) (T : GS), C.foldl (GS.nak1 1) T = { T with parked := C.foldl insL T.parked }
  | [], T => rfl
  | x :: C, T => by
    rw [List.foldl_cons, nakAll1 C]
    rfl
theorem nakAll3 : ∀ (C : List Int) (T : GS), C.foldl (GS.nak1 3) T = { T with skipped := C.foldl insL T.skipped, tries := C.foldl adel T.tries }
  | [], T => rfl
  | x :: C, T => by
    rw [List.foldl_cons, nakAll3 C]
    rfl
theorem nakAll2 : ∀ (C : List Int) (T : GS), ∃ W P, C.foldl (GS.nak1 2) T = { T with waiting := W, parked := P } ∧ (∀ v, v ∈ W ↔ v ∈ T.waiting ∨ (v ∈ C ∧ T.tr v ≤ T.retries)) ∧ (∀ v, v ∈ P ↔ v ∈ T.parked ∨ (v ∈ C ∧ ¬ T.tr v ≤ T.retries))
  | [], T => ⟨T.waiting, T.parked, rfl, fun v => by simp, fun v => by simp⟩
  | x :: C, T => by
    rw [List.foldl_cons]
    by_cases q : T.tr x ≤ T.retries
    · have e : GS.nak1 2 T x = { T with waiting := insL T.waiting x } := by unfold GS.nak1; rw [if_neg (by decide), if_pos ⟨rfl, q⟩]
      obtain ⟨W, P, h1, h2, h3⟩ := nakAll2 C { T with waiting := insL T.waiting x }
      refine ⟨W, P, by rw [e, h1], fun v => ?_, fun v => ?_⟩
      · rw [h2]
        show v ∈ insL T.waiting x ∨ (v ∈ C ∧ T.tr v ≤ T.retries) ↔ _
        rw [mem_insL, List.mem_cons]
        constructor
        · rintro ((z | z) | z)
          · exact .inr ⟨.inl z, by rw [z]; exact q⟩
          · exact .inl z
          · exact .inr ⟨.inr z.1, z.2⟩
        · rintro (z | ⟨z | z, y⟩)
          · exact .inl (.inr z)
          · exact .inl (.inl z)
          · exact .inr ⟨z, y⟩
      · rw [h3]
        show v ∈ T.parked ∨ (v ∈ C ∧ ¬ T.tr v ≤ T.retries) ↔ _
        rw [List.mem_cons]
        constructor
        · rintro (z | z)
          · exact .inl z
          · exact .inr ⟨.inr z.1, z.2⟩
        · rintro (z | ⟨z | z, y⟩)
          · exact .inl z
          · exact absurd (by rw [z]; exact q) y
          · exact .inr ⟨z, y⟩
    · have e : GS.nak1 2 T x = { T with parked := insL T.parked x } := by unfold GS.nak1; rw [if_neg (by decide), if_neg (fun z => q z.2)]
      obtain ⟨W, P, h1, h2, h3⟩ := nakAll2 C { T with parked := insL T.parked x }
      refine ⟨W, P, by rw [e, h1], fun v => ?_, fun v => ?_⟩
      · rw [h2]
        show v ∈ T.waiting ∨ (v ∈ C ∧ T.tr v ≤ T.retries) ↔ _
        rw [List.mem_cons]
        constructor
        · rintro (z | z)
          · exact .inl z
          · exact .inr ⟨.inr z.1, z.2⟩
        · rintro (z | ⟨z | z, y⟩)
          · exact .inl z
          · exact absurd (by rw [← z]; exact y) q
          · exact .inr ⟨z, y⟩
      · rw [h3]
        show v ∈ insL T.parked x ∨ (v ∈ C ∧ ¬ T.tr v ≤ T.retries) ↔ _
        rw [mem_insL, List.mem_cons]
        constructor
        · rintro ((z | z) | z)
          · exact .inr ⟨.inl z, by rw [z]; exact q⟩
          · exact .inl z
          · exact .inr ⟨.inr z.1, z.2⟩
        · rintro (z | ⟨z | z, y⟩)
          · exact .inl (.inr z)
          · exact .inl (.inl z)
          · exact .inr ⟨z, y⟩
theorem Rel.give0 (h : Rel g r) (ho : g.Ok N) (s : ByteArray) (his : g.is s = true) (how : Int) (hh : how = 0 ∨ how = 1 ∨ how = 2 ∨ how = 3) (l : List Int) :
    Rel (giveS how (g.take s l).1 (g.take s l).2) { r with l := r.l.map (moved r.ret how s l) } := by
  obtain ⟨C, hC⟩ : ∃ C, C = (g.take s l).1 := ⟨_, rfl⟩
  obtain ⟨T, hT⟩ : ∃ T, T = (g.take s l).2 := ⟨_, rfl⟩
  rw [← hC, ← hT]
  have htk : g.take s l = ((GS.takeGo (g.fl s) l).2, if (GS.takeGo (g.fl s) l).2 = [] then g else { g with flight := aput g.flight s (GS.takeGo (g.fl s) l).1 }) := by unfold GS.take; rw [if_pos his]
  rw [htk] at hC hT
  simp only at hC hT
  rw [← hC] at hT
  have hris := (ho.flOf s).ris
  obtain ⟨m1, m2⟩ := takeGo_mem l (g.fl s) hris
  rw [← hC] at m1
  have hTb : T.from_ = g.from_ ∧ T.buffer = g.buffer ∧ T.retries = g.retries ∧ T.next = g.next ∧ T.waiting = g.waiting ∧ T.parked = g.parked ∧ T.acked = g.acked ∧ T.skipped = g.skipped ∧ T.tries = g.tries := by
    rw [hT]
    split <;> simp
  obtain ⟨b1, b2, b3, b4, b5, b6, b7, b8, b9⟩ := hTb
  have hTis : ∀ t, T.is t = g.is t := fun t => by
    rw [hT]
    split
    · rfl
    · exact is_aput g s t _ his
  have hTfl : ∀ t v, v ∈ T.fl t ↔ v ∈ g.fl t ∧ ¬ (t = s ∧ v ∈ l) := fun t v => by
    rw [hT]
    split
    · rename_i e
      constructor
      · intro q
        refine ⟨q, fun ⟨z1, z2⟩ => ?_⟩
        have := (m1 v).2 ⟨z2, by rw [← z1]; exact q⟩
        rw [e] at this
        cases this
      · exact fun q => q.1
    · show v ∈ (aget (aput g.flight s (GS.takeGo (g.fl s) l).1) t).getD [] ↔ _
      rw [fl_aput]
      split
      · rename_i e
        rw [m2, ← e]
        simp
      · rename_i e
        exact ⟨fun q => ⟨q, fun z => e z.1.symm⟩, fun q => q.1⟩
  have hTtr : ∀ v, T.tr v = g.tr v := fun v => by unfold GS.tr; rw [b9]
  have hCm : ∀ x ∈ r.l, x.n ∈ C ↔ x.n ∈ l ∧ x.st = 2 ∧ x.own = s := fun x hx => by rw [m1, (h.pt x hx).fl s]
  have hret := h.base.2.2
  have hCin : ∀ v ∈ C, g.from_ ≤ v ∧ v < g.next := fun v hv => (ho.flOf s).mem v ((m1 v).1 hv).2
  obtain ⟨t1, t2⟩ := tr_foldl C g.tries h.nod
  -- the parts of what is given
  have key : ∃ (W P A S : List Int) (TR : List (Int × Int)), giveS how C T = { T with waiting := W, parked := P, acked := A, skipped := S, tries := TR } ∧ ANodup TR ∧
      (∀ v, v ∈ W ↔ v ∈ g.waiting ∨ (v ∈ C ∧ how = 2 ∧ g.tr v ≤ g.retries)) ∧ (∀ v, v ∈ P ↔ v ∈ g.parked ∨ (v ∈ C ∧ (how = 1 ∨ how = 2 ∧ ¬ g.tr v ≤ g.retries))) ∧
      (∀ v, v ∈ A ↔ v ∈ g.acked ∨ (v ∈ C ∧ how = 0)) ∧ (∀ v, v ∈ S ↔ v ∈ g.skipped ∨ (v ∈ C ∧ how = 3)) ∧ (∀ v, (aget TR v).getD 0 = if v ∈ C ∧ (how = 0 ∨ how = 3) then 0 else g.tr v) := by
    unfold giveS
    rcases hh with rfl | rfl | rfl | rfl
    · rw [if_pos rfl]
      refine ⟨_, _, _, _, _, rfl, by rw [b9]; exact t1, fun v => by rw [b5]; simp, fun v => by rw [b6]; simp, fun v => by rw [mem_foldl_insL, b7]; simp [or_comm], fun v => by rw [b8]; simp, fun v => by rw [b9, t2]; simp [GS.tr]⟩
    · rw [if_neg (by decide), nakAll1]
      refine ⟨_, _, _, _, _, rfl, by rw [b9]; exact h.nod, fun v => by rw [b5]; simp, fun v => by rw [mem_foldl_insL, b6]; simp [or_comm], fun v => by rw [b7]; simp, fun v => by rw [b8]; simp, fun v => by rw [b9]; simp [GS.tr]⟩
    · rw [if_neg (by decide)]
      obtain ⟨W, P, n1, n2, n3⟩ := nakAll2 C T
      rw [n1]
      refine ⟨W, P, _, _, _, rfl, by rw [b9]; exact h.nod, fun v => by rw [n2, b5, hTtr, b3]; simp, fun v => by rw [n3, b6, hTtr, b3]; simp, fun v => by rw [b7]; simp, fun v => by rw [b8]; simp, fun v => by rw [b9]; simp [GS.tr]⟩
    · rw [if_neg (by decide), nakAll3]
      refine ⟨_, _, _, _, _, rfl, by rw [b9]; exact t1, fun v => by rw [b5]; simp, fun v => by rw [b6]; simp, fun v => by rw [b7]; simp, fun v => by rw [mem_foldl_insL, b8]; simp [or_comm], fun v => by rw [b9, t2]; simp [GS.tr]⟩
  obtain ⟨W, P, A, S, TR, e, kn, kW, kP, kA, kS, kT⟩ := key
  rw [e]
  have hmn : ∀ x, (moved r.ret how s l x).n = x.n := fun x => by unfold moved; split <;> rfl
  refine h.map (g' := { T with waiting := W, parked := P, acked := A, skipped := S, tries := TR }) (moved r.ret how s l) (fun x _ => hmn x) ⟨b1, b2, b3, b4⟩ h.whoS (fun t => by rw [h.whoM]; exact (by rw [← hTis t]; exact Iff.rfl)) h.whoN (fun x hx => ?_) (fun v hv => ?_) kn
  · have hp := h.pt x hx
    have hc := hCm x hx
    have hfl : ∀ t, x.n ∈ T.fl t ↔ (x.st = 2 ∧ x.own = t) ∧ ¬ (t = s ∧ x.n ∈ l) := fun t => by rw [hTfl, hp.fl t]
    have htr : g.tr x.n = if x.st ≤ 2 ∨ x.st = 4 then x.tries else 0 := hp.tr
    unfold moved
    by_cases q : x.n ∈ l ∧ x.st = 2 ∧ x.own = s
    · rw [if_pos q]
      have hxC := hc.2 q
      have htr2 : g.tr x.n = x.tries := by rw [htr, if_pos (by omega)]
      have nw : x.n ∉ g.waiting := fun z => by have := hp.wa.1 z; omega
      have np : x.n ∉ g.parked := fun z => by have := hp.pa.1 z; omega
      have na : x.n ∉ g.acked := fun z => by have := hp.ac.1 z; omega
      have ns : x.n ∉ g.skipped := fun z => by have := hp.sk.1 z; omega
      have nf : ∀ t, x.n ∉ T.fl t := fun t z => by
        obtain ⟨z1, z2⟩ := (hfl t).1 z
        exact z2 ⟨by rw [← z1.2, q.2.2], q.1⟩
      have sW : x.n ∈ W ↔ how = 2 ∧ x.tries ≤ r.ret := by rw [kW, htr2, hret]; simp [nw, hxC]
      have sP : x.n ∈ P ↔ how = 1 ∨ how = 2 ∧ ¬ x.tries ≤ r.ret := by rw [kP, htr2, hret]; simp [np, hxC]
      have sA : x.n ∈ A ↔ how = 0 := by rw [kA]; simp [na, hxC]
      have sS : x.n ∈ S ↔ how = 3 := by rw [kS]; simp [ns, hxC]
      have sT : (aget TR x.n).getD 0 = if how = 0 ∨ how = 3 then 0 else x.tries := by rw [kT, htr2]; simp [hxC]
      have hst : (giveI r.ret how x).st = (if how = 0 then 3 else if how = 1 then 4 else if how = 3 then 5 else if x.tries ≤ r.ret then 1 else 4) := rfl
      have hn : (giveI r.ret how x).n = x.n := rfl
      have htt : (giveI r.ret how x).tries = x.tries := rfl
      refine ⟨?_, ?_, ?_, ?_, fun t => ?_, ?_, ?_⟩
      · rw [hn, hst]
        refine Iff.trans sW ?_
        rcases hh with rfl | rfl | rfl | rfl <;> simp
        all_goals (by_cases z : x.tries ≤ r.ret <;> simp [z])
      · rw [hn, hst]
        refine Iff.trans sP ?_
        rcases hh with rfl | rfl | rfl | rfl <;> simp
        all_goals (by_cases z : x.tries ≤ r.ret <;> simp [z])
        all_goals omega
      · rw [hn, hst]
        refine Iff.trans sA ?_
        rcases hh with rfl | rfl | rfl | rfl <;> simp
        all_goals (by_cases z : x.tries ≤ r.ret <;> simp [z])
      · rw [hn, hst]
        refine Iff.trans sS ?_
        rcases hh with rfl | rfl | rfl | rfl <;> simp
        all_goals (by_cases z : x.tries ≤ r.ret <;> simp [z])
      · rw [hn]
        exact ⟨fun z => absurd z (nf t), fun z => absurd z.1 (giveI_st _ _ _)⟩
      · rw [hn, hst, htt]
        refine Eq.trans sT ?_
        rcases hh with rfl | rfl | rfl | rfl <;> simp
        all_goals (by_cases z : x.tries ≤ r.ret <;> simp [z])
      · rw [hst]
        rcases hh with rfl | rfl | rfl | rfl <;> simp
        all_goals (by_cases z : x.tries ≤ r.ret <;> simp [z])
    · rw [if_neg q]
      have hxC : x.n ∉ C := fun z => q (hc.1 z)
      refine ⟨?_, ?_, ?_, ?_, fun t => ?_, ?_, hp.st⟩
      · exact Iff.trans (by rw [kW]; simp [hxC]) hp.wa
      · exact Iff.trans (by rw [kP]; simp [hxC]) hp.pa
      · exact Iff.trans (by rw [kA]; simp [hxC]) hp.ac
      · exact Iff.trans (by rw [kS]; simp [hxC]) hp.sk
      · refine Iff.trans (hfl t) ⟨fun z => z.1, fun z => ⟨z, fun y => q ⟨y.2, z.1, by rw [z.2, y.1]⟩⟩⟩
      · refine Eq.trans (b := g.tr x.n) ?_ hp.tr
        show (aget TR x.n).getD 0 = _
        rw [kT]
        simp [hxC]
  · show (aget TR v).getD 0 = 0
    rw [kT]
    have : v ∉ C := fun z => by have := hCin v z; omega
    simp only [this, false_and, if_false]
    exact h.tr0 v hv
/-- Ack (how 0), Nak. -/
def giveG (how : Int) (g : GS) (s : ByteArray) (l : List Int) : Int × GS :=
  ((g.take s l).1.length, if (g.take s l).1 = [] then giveS how (g.take s l).1 (g.take s l).2 else (giveS how (g.take s l).1 (g.take s l).2).forget)
theorem ack_is (g : GS) (s : ByteArray) (l : List Int) : g.ack s l = giveG 0 g s l := rfl
theorem nak_is (g : GS) (s : ByteArray) {how : Int} (h : how = 1 ∨ how = 2 ∨ how = 3) (l : List Int) : g.nak s how l = giveG how g s l := by
  have hz : ¬ how = 0 := by omega
  have hz2 : ¬ (how ≠ 1 ∧ how ≠ 2 ∧ how ≠ 3) := by omega
  unfold GS.nak giveG giveS
  rw [if_neg hz2]
  simp only [if_neg hz]
theorem moved_id (h : Rel g r) (ho : g.Ok N) (s : ByteArray) (how : Int) (l : List Int) (h0 : ∀ x ∈ r.l, ¬ (x.n ∈ l ∧ x.st = 2 ∧ x.own = s)) : r.l.map (moved r.ret how s l) = r.l := by
  conv => rhs; rw [← List.map_id r.l]
  exact List.map_congr_left (fun x hx => by unfold moved; rw [if_neg (h0 x hx)]; rfl)
theorem Rel.give (h : Rel g r) (ho : g.Ok N) (ht : Tidied r) (s : ByteArray) (how : Int) (hh : how = 0 ∨ how = 1 ∨ how = 2 ∨ how = 3) (l : List Int) :
    (giveG how g s l).1 = (r.give s how l).1 ∧ Rel (giveG how g s l).2 (r.give s how l).2.tidy ∧ (r.give s how l).2 = { r with l := r.l.map (moved r.ret how s l) } := by
  have hhow : 0 ≤ how ∧ how ≤ 3 := by omega
  have hgv : r.give s how l = (((giveGo r.ret how s l r.l).1 : Int), { r with l := (giveGo r.ret how s l r.l).2 }) := by unfold RG.give; rw [if_pos hhow]
  rw [hgv]
  by_cases his : g.is s = true
  · have hse : s ≠ emptyB := h.whoN s ((h.whoM s).2 his)
    have htk : g.take s l = ((GS.takeGo (g.fl s) l).2, if (GS.takeGo (g.fl s) l).2 = [] then g else { g with flight := aput g.flight s (GS.takeGo (g.fl s) l).1 }) := by unfold GS.take; rw [if_pos his]
    obtain ⟨q1, q2⟩ := giveGo_is r.ret how s hse l (g.fl s) r.l (ho.flOf s).ris h.sorted (fun x hx => (h.pt x hx).fl s) (fun v hv => h.item ((ho.flOf s).mem v hv))
    have hrel := h.give0 ho s his how hh l
    simp only [q2]
    have hcnt : ((g.take s l).1.length : Int) = ((giveGo r.ret how s l r.l).1 : Int) := by rw [q1, htk]
    refine ⟨hcnt, ?_, by first | rfl | trivial⟩
    unfold giveG
    simp only
    by_cases hc : (g.take s l).1 = []
    · rw [if_pos hc]
      have hno : ∀ x ∈ r.l, ¬ (x.n ∈ l ∧ x.st = 2 ∧ x.own = s) := fun x hx z => by
        have := ((takeGo_mem l (g.fl s) (ho.flOf s).ris).1 x.n).2 ⟨z.1, ((h.pt x hx).fl s).2 z.2⟩
        rw [htk] at hc
        simp only at hc
        rw [hc] at this
        cases this
      have e := moved_id h ho s how l hno
      rw [e] at hrel ⊢
      rw [tidy_id (show Tidied { r with l := r.l } from ht)]
      exact hrel
    · rw [if_neg hc]
      obtain ⟨h1, h2, h3, h4⟩ := GS.take_ok ho s l
      have hok : (giveS how (g.take s l).1 (g.take s l).2).Ok N := by
        unfold giveS
        split
        · exact ⟨h1.fr, h1.bu, h1.re, h1.nx, h1.wa, h1.pa, Fed.fold _ _ h1.ac (fun x hx => by rw [h3, h4]; exact h2 x hx), h1.sk, h1.fl, h1.few, h1.nod, GS.adel_tr _ h1.tr⟩
        · exact GS.nakAll_ok how _ h1 (fun x hx => by rw [h3, h4]; exact h2 x hx)
      exact hrel.forget hok
  · have his' : g.is s = false := by simpa using his
    have htk : g.take s l = ([], g) := by unfold GS.take; rw [if_neg his]
    have hno : ∀ x ∈ r.l, ¬ (x.st = 2 ∧ x.own = s) := fun x hx z => by
      have := h.ownIn hx z.1
      rw [z.2, his'] at this
      cases this
    have hgo : ∀ l : List Int, giveGo r.ret how s l r.l = (0, r.l) := fun l => by
      induction l with
      | nil => rfl
      | cons v l ih =>
        have hp : ∀ x ∈ r.l, pHit v s x = false := fun x hx => by
          cases q : pHit v s x
          · rfl
          · simp [pHit] at q
            exact absurd ⟨q.1.1.2, q.1.2⟩ (hno x hx)
        have e : r.l.map (giveAt r.ret how v s) = r.l := by
          conv => rhs; rw [← List.map_id r.l]
          exact List.map_congr_left (fun x hx => by unfold giveAt; rw [hp x hx]; rfl)
        simp only [giveGo, e, ih]
        rw [List.countP_eq_zero.2 (fun x hx => by rw [hp x hx]; simp)]
        try rfl
    rw [hgo]
    unfold giveG
    rw [htk]
    refine ⟨rfl, ?_, ?_⟩
    · simp only [if_true]
      have hg : giveS how [] g = g := by unfold giveS; split <;> rfl
      rw [hg, tidy_id (show Tidied { r with l := r.l } from ht)]
      exact h
    · rw [moved_id h ho s how l (fun x hx z => hno x hx z.2)]
end
end Go.Proofs.YthjgplgfcbhihaaGreat
/- What a group does, the document's group does: Late; what is tidy stays so. No program is named. -/
set_option linter.unusedVariables false
set_option linter.unusedSimpArgs false
namespace Go.Proofs.YthjgplgfcbhihaaGreat
open Go.RowKit
/-- Numbers in order, below the end. -/
structure RNum (r : RG) : Prop where
  ord : r.l.Pairwise (fun x y => x.n < y.n)
  top : ∀ x ∈ r.l, x.n < r.from_ + r.l.length
theorem RNum.map {r : RG} (h : RNum r) (f : Item → Item) (hf : ∀ x, (f x).n = x.n) : RNum { r with l := r.l.map f } := by
  refine ⟨?_, fun x hx => ?_⟩
  · show (r.l.map f).Pairwise _
    rw [List.pairwise_map]
    exact h.ord.imp (fun q => by rw [hf, hf]; exact q)
  · obtain ⟨y, hy, rfl⟩ := List.mem_map.1 hx
    rw [hf]
    simpa using h.top y hy
theorem Rel.num {g : GS} {r : RG} (h : Rel g r) : RNum r := ⟨h.sorted, fun x hx => by have := (h.lo hx).2; have := h.nx; have := h.base.1; omega⟩
theorem ckpt_mem (r : RG) : r.ckpt = r.from_ + r.l.length ∨ ∃ x ∈ r.l, pOpen x = true ∧ r.ckpt = x.n := by
  unfold RG.ckpt
  cases hf : r.l.find? pOpen with
  | none => exact .inl rfl
  | some x => exact .inr ⟨x, List.mem_of_find?_eq_some hf, List.find?_some hf, rfl⟩
theorem ckpt_le {r : RG} (h : RNum r) {x : Item} (hx : x ∈ r.l) (ho : pOpen x = true) : r.ckpt ≤ x.n := by
  unfold RG.ckpt
  cases hf : r.l.find? pOpen with
  | none => exact absurd ho (List.find?_eq_none.1 hf x hx)
  | some y =>
    obtain ⟨_, j, hj, hyj, hb⟩ := List.find?_eq_some_iff_getElem.1 hf
    obtain ⟨k, hk, rfl⟩ := List.getElem_of_mem hx
    show y.n ≤ _
    rw [← hyj]
    rcases Nat.lt_trichotomy k j with q | q | q
    · have := hb k q
      rw [ho] at this
      cases this
    · subst q
      exact Int.le_refl _
    · have := List.pairwise_iff_getElem.1 h.ord j k hj hk q
      omega
theorem ckpt_top {r : RG} (h : RNum r) : r.ckpt ≤ r.from_ + r.l.length := by
  rcases ckpt_mem r with e | ⟨x, hx, _, e⟩
  · omega
  · have := h.top x hx
    omega
theorem ckpt_up {r : RG} (h : RNum r) (f : Item → Item) (hf : ∀ x, (f x).n = x.n) (ho : ∀ x ∈ r.l, pOpen (f x) = true → pOpen x = true) : r.ckpt ≤ RG.ckpt { r with l := r.l.map f } := by
  rcases ckpt_mem { r with l := r.l.map f } with e | ⟨y, hy, hyo, e⟩
  · have := ckpt_top h
    rw [e]
    simpa using this
  · obtain ⟨x, hx, rfl⟩ := List.mem_map.1 hy
    rw [e, hf]
    exact ckpt_le h hx (ho x hx hyo)
theorem ckpt_down {r : RG} (h : RNum r) (f : Item → Item) (hf : ∀ x, (f x).n = x.n) (ho : ∀ x ∈ r.l, pOpen x = true → pOpen (f x) = true) : RG.ckpt { r with l := r.l.map f } ≤ r.ckpt := by
  rcases ckpt_mem r with e | ⟨x, hx, hxo, e⟩
  · have := ckpt_top (h.map f hf)
    rw [e]
    simpa using this
  · rw [e, ← hf x]
    exact ckpt_le (h.map f hf) (List.mem_map_of_mem hx) (ho x hx hxo)
theorem Tidied.map {r : RG} (ht : Tidied r) (h : RNum r) (f : Item → Item) (hf : ∀ x, (f x).n = x.n) (ho : ∀ x ∈ r.l, pOpen x = true → pOpen (f x) = true) (hs : ∀ x ∈ r.l, ((f x).st = 3 ∨ (f x).st = 5) → (x.st = 3 ∨ x.st = 5)) (who' : List ByteArray) :
    Tidied { r with who := who', l := r.l.map f } := fun y hy hys => by
  obtain ⟨x, hx, rfl⟩ := List.mem_map.1 hy
  have h1 := ht x hx (hs x hx hys)
  have h2 := ckpt_down h f hf ho
  rw [hf]
  exact Int.le_trans h2 h1
section
variable {g g' : GS} {r : RG} {N : Nat}
theorem tidied_join (ht : Tidied r) (s : ByteArray) : Tidied (r.join s).2 := by
  unfold RG.join
  split
  · exact ht
  split
  · exact ht
  split
  · exact ht
  · exact ht
theorem tidied_leave (ht : Tidied r) (h : RNum r) (s : ByteArray) : Tidied (r.leave s).2 := by
  unfold RG.leave
  split
  · exact ht
  · refine ht.map h (leaveI s) (fun x => by unfold leaveI; split <;> rfl) (fun x _ q => ?_) (fun x _ q => ?_) _
    · unfold leaveI
      split
      · rfl
      · exact q
    · unfold leaveI at q
      split at q
      · simp at q
      · exact q
theorem tidied_replay (ht : Tidied r) (h : RNum r) : Tidied r.replay.2 := by
  refine ht.map h replayI (fun x => by unfold replayI; split <;> rfl) (fun x _ q => ?_) (fun x _ q => ?_) _
  · unfold replayI
    split
    · rfl
    · exact q
  · unfold replayI at q
    split at q
    · simp at q
    · exact q
theorem tidied_feed (ht : Tidied r) (h : RNum r) (n : Int) : Tidied (r.feed n).2 := by
  intro x hx hs
  have hx' : x ∈ r.l ++ addI (r.from_ + r.l.length) (r.feedN n) := hx
  rcases List.mem_append.1 hx' with q | q
  · have h1 := ht x q hs
    refine Int.le_trans ?_ h1
    show RG.ckpt ⟨r.from_, r.buf, r.ret, r.who, r.l ++ addI (r.from_ + r.l.length) (r.feedN n)⟩ ≤ r.ckpt
    unfold RG.ckpt
    simp only
    rw [List.find?_append]
    cases hf : r.l.find? pOpen with
    | some y => exact Int.le_refl _
    | none =>
      have h2 := h1
      unfold RG.ckpt at h2
      rw [hf] at h2
      have := h.top x q
      simp only at h2
      omega
  · obtain ⟨j, hj, rfl⟩ := List.getElem_of_mem q
    rw [addI_get] at hs
    simp at hs
theorem tidied_next (ht : Tidied r) (h : Rel g r) (s : ByteArray) : Tidied (r.next s).2 := by
  unfold RG.next
  split
  · exact ht
  split
  · rename_i hj
    have hst := List.findIdx_getElem (w := hj)
    simp only at hst ⊢
    rw [set_map h hj]
    refine ht.map h.num _ (fun z => ?_) (fun z hz q => ?_) (fun z hz q => ?_) _
    · by_cases e : z.n = r.l[r.l.findIdx (fun x => x.st == 1)].n
      · rw [if_pos e]; exact e.symm
      · rw [if_neg e]
    · by_cases e : z.n = r.l[r.l.findIdx (fun x => x.st == 1)].n
      · rw [if_pos e]; rfl
      · rw [if_neg e]; exact q
    · by_cases e : z.n = r.l[r.l.findIdx (fun x => x.st == 1)].n
      · rw [if_pos e] at q
        simp at q
      · rw [if_neg e] at q
        exact q
  · exact ht
/-! ## Late -/
def mvK (ret : Int) (D : List ByteArray) (x : Item) : Item := if x.st = 2 ∧ D.any (fun d => decide (d = x.own)) = true then giveI ret 2 x else x
theorem mvK_n (ret : Int) (D : List ByteArray) (x : Item) : (mvK ret D x).n = x.n := by unfold mvK; split <;> rfl
theorem any_own {D : List ByteArray} {o : ByteArray} : D.any (fun d => decide (d = o)) = true ↔ o ∈ D := by
  rw [List.any_eq_true]
  constructor
  · rintro ⟨d, hd, e⟩
    have : d = o := by simpa using e
    rw [← this]
    exact hd
  · intro h
    exact ⟨o, h, by simp⟩
theorem mvK_pos {ret : Int} {D : List ByteArray} {x : Item} (h : x.st = 2 ∧ x.own ∈ D) : mvK ret D x = giveI ret 2 x := by
  unfold mvK
  rw [if_pos ⟨h.1, any_own.2 h.2⟩]
theorem mvK_neg {ret : Int} {D : List ByteArray} {x : Item} (h : ¬ (x.st = 2 ∧ x.own ∈ D)) : mvK ret D x = x := by
  unfold mvK
  rw [if_neg (fun q => h ⟨q.1, any_own.1 q.2⟩)]
theorem tidyI_two (c : Int) (x : Item) : ((tidyI c x).st = 2 ↔ x.st = 2) ∧ (tidyI c x).own = x.own := by
  unfold tidyI
  split
  · rename_i q
    refine ⟨⟨fun z => absurd z (by simp), fun z => absurd z (by omega)⟩, rfl⟩
  · exact ⟨Iff.rfl, rfl⟩
theorem tidy_tidyI {c c' : Int} (h : c ≤ c') (x : Item) : tidyI c' (tidyI c x) = tidyI c' x := by
  by_cases q : (x.st = 3 ∨ x.st = 5) ∧ x.n < c
  · have e1 : tidyI c x = ⟨x.n, 6, x.tries, x.own⟩ := by unfold tidyI; rw [if_pos q]
    have e2 : tidyI c' x = ⟨x.n, 6, x.tries, x.own⟩ := by unfold tidyI; rw [if_pos ⟨q.1, by omega⟩]
    rw [e1, e2]
    unfold tidyI
    rw [if_neg (by simp)]
  · have e1 : tidyI c x = x := by unfold tidyI; rw [if_neg q]
    rw [e1]
theorem giveI2 (ret : Int) (x : Item) : (giveI ret 2 x).st = 1 ∨ (giveI ret 2 x).st = 4 := by
  have : (giveI ret 2 x).st = if x.tries ≤ ret then 1 else 4 := rfl
  rw [this]
  split
  · exact .inl rfl
  · exact .inr rfl
theorem tidyI_give (c ret : Int) (x : Item) : tidyI c (giveI ret 2 x) = giveI ret 2 x := by
  have := giveI2 ret x
  unfold tidyI
  rw [if_neg (by omega)]
theorem late_step (h0 : RNum r) (D : List ByteArray) (w : ByteArray) (hw : w ∉ D) (l : List Int) (hl : ∀ x ∈ r.l, x.st = 2 → x.own = w → x.n ∈ l) :
    RG.tidy ⟨r.from_, r.buf, r.ret, r.who, (RG.tidy { r with l := r.l.map (mvK r.ret D) }).l.map (moved r.ret 2 w l)⟩ = RG.tidy { r with l := r.l.map (mvK r.ret (D ++ [w])) } := by
  obtain ⟨c, hc⟩ : ∃ c, c = RG.ckpt { r with l := r.l.map (mvK r.ret D) } := ⟨_, rfl⟩
  have e1 : (RG.tidy { r with l := r.l.map (mvK r.ret D) }).l.map (moved r.ret 2 w l) = (r.l.map (mvK r.ret (D ++ [w]))).map (tidyI c) := by
    unfold RG.tidy
    rw [← hc]
    simp only [List.map_map]
    refine List.map_congr_left (fun x hx => ?_)
    simp only [Function.comp]
    by_cases q : x.st = 2 ∧ x.own ∈ D
    · have a1 : mvK r.ret D x = giveI r.ret 2 x := mvK_pos q
      have a2 : mvK r.ret (D ++ [w]) x = giveI r.ret 2 x := mvK_pos ⟨q.1, by simp [q.2]⟩
      rw [a1, a2, tidyI_give]
      unfold moved
      rw [if_neg (fun z => giveI_st _ _ _ z.2.1)]
    · have a1 : mvK r.ret D x = x := mvK_neg q
      rw [a1]
      obtain ⟨b1, b2⟩ := tidyI_two c x
      have b3 := (tidyI_open c x).2
      by_cases z : x.st = 2 ∧ x.own = w
      · have a2 : mvK r.ret (D ++ [w]) x = giveI r.ret 2 x := mvK_pos ⟨z.1, by simp [z.2]⟩
        have a3 : tidyI c x = x := by unfold tidyI; rw [if_neg (by omega)]
        rw [a2, a3, tidyI_give]
        unfold moved
        rw [if_pos ⟨hl x hx z.1 z.2, z⟩]
      · have a2 : mvK r.ret (D ++ [w]) x = x := by
          refine mvK_neg ?_
          rintro ⟨z1, z2⟩
          rcases List.mem_append.1 z2 with y | y
          · exact q ⟨z1, y⟩
          · exact z ⟨z1, by simpa using y⟩
        rw [a2]
        unfold moved
        rw [if_neg]
        rintro ⟨_, z1, z2⟩
        exact z ⟨b1.1 z1, by rw [← b2]; exact z2⟩
  rw [e1]
  have hck : RG.ckpt ⟨r.from_, r.buf, r.ret, r.who, (r.l.map (mvK r.ret (D ++ [w]))).map (tidyI c)⟩ = RG.ckpt { r with l := r.l.map (mvK r.ret (D ++ [w])) } := ckpt_map { r with l := r.l.map (mvK r.ret (D ++ [w])) } (tidyI c) (fun x _ => tidyI_open c x)
  have hle : c ≤ RG.ckpt { r with l := r.l.map (mvK r.ret (D ++ [w])) } := by
    have hmm : r.l.map (mvK r.ret (D ++ [w])) = (r.l.map (mvK r.ret D)).map (mvK r.ret [w]) := by
      rw [List.map_map]
      refine List.map_congr_left (fun x _ => ?_)
      simp only [Function.comp]
      by_cases q : x.st = 2 ∧ x.own ∈ D
      · rw [mvK_pos (D := D ++ [w]) ⟨q.1, by simp [q.2]⟩, mvK_pos q, mvK_neg (fun z => giveI_st _ _ _ z.1)]
      · rw [mvK_neg q]
        by_cases z : x.st = 2 ∧ x.own = w
        · rw [mvK_pos (D := D ++ [w]) ⟨z.1, by simp [z.2]⟩, mvK_pos (D := [w]) ⟨z.1, by simp [z.2]⟩]
        · rw [mvK_neg (D := D ++ [w]), mvK_neg (D := [w])]
          · rintro ⟨z1, z2⟩
            exact z ⟨z1, by simpa using z2⟩
          · rintro ⟨z1, z2⟩
            rcases List.mem_append.1 z2 with y | y
            · exact q ⟨z1, y⟩
            · exact z ⟨z1, by simpa using y⟩
    rw [hmm, hc]
    refine ckpt_up (r := { r with l := r.l.map (mvK r.ret D) }) (h0.map _ (mvK_n _ _)) (mvK r.ret [w]) (mvK_n _ _) (fun x _ q => ?_)
    by_cases z : x.st = 2
    · simp [pOpen, z]
    · rw [mvK_neg (fun y => z y.1)] at q
      exact q
  unfold RG.tidy
  rw [hck]
  simp only [List.map_map]
  congr 1
  exact List.map_congr_left (fun x _ => by simp only [Function.comp]; exact tidy_tidyI hle _)
theorem remL_head {y : Int} {l : List Int} (h : Ris (y :: l)) : remL (y :: l) y = l := by
  have e : lb (y :: l) y = 0 := List.countP_eq_zero.2 (fun z hz => by
    rcases List.mem_cons.1 hz with rfl | hz
    · simp
    · have := (List.pairwise_cons.1 h).1 z hz
      simp
      omega)
  unfold remL
  rw [if_pos (by simp), e]
  rfl
theorem takeGo_all : ∀ {l : List Int}, Ris l → GS.takeGo l l = ([], l)
  | [], _ => rfl
  | y :: l, h => by
    rw [GS.takeGo, if_pos (by simp), remL_head h, takeGo_all (List.pairwise_cons.1 h).2]
theorem late_go (h0 : RNum r) : ∀ (K D : List ByteArray) (n : Int) (g : GS), K.Nodup → (∀ w ∈ K, w ∉ D) → (∀ w ∈ K, g.is w = true) → g.Ok N → Rel g (RG.tidy { r with l := r.l.map (mvK r.ret D) }) →
    (GS.lateGo K n g).1 = n + ((K.map (fun w => (r.list 2 w).length)).sum : Nat) ∧ Rel (GS.lateGo K n g).2 (RG.tidy { r with l := r.l.map (mvK r.ret (D ++ K)) })
  | [], D, n, g, _, _, _, _, h => by
    unfold GS.lateGo
    exact ⟨by simp, by rw [List.append_nil]; exact h⟩
  | w :: K, D, n, g, hK, hD, his, ho, h => by
    unfold GS.lateGo
    obtain ⟨hK1, hK2⟩ := List.nodup_cons.1 hK
    have hwD := hD w (by simp)
    have hiw := his w (by simp)
    have hnk := nak_is g w (how := 2) (by omega) (g.fl w)
    obtain ⟨g1, g2, g3⟩ := h.give ho (tidy_tidied _) w 2 (by omega) (g.fl w)
    have hfw := h.fl_eq ho w
    have hret : (RG.tidy { r with l := r.l.map (mvK r.ret D) }).ret = r.ret := rfl
    have hlen : (g.fl w).length = (r.list 2 w).length := by
      rw [hfw, list_len, list_len]
      show ((r.l.map (mvK r.ret D)).map _).countP _ = _
      rw [List.map_map, List.countP_map]
      refine count_eq (fun x hx => ?_)
      simp only [Function.comp]
      obtain ⟨b1, b2⟩ := tidyI_two (RG.ckpt { r with l := r.l.map (mvK r.ret D) }) (mvK r.ret D x)
      have e : ∀ y : Item, pList 2 w y = decide (y.st = 2 ∧ y.own = w) := fun y => by
        unfold pList
        by_cases a : y.st = 2 <;> by_cases b : y.own = w <;> simp [a, b]
      rw [e, e]
      congr 1
      rw [b1, b2]
      by_cases q : x.st = 2 ∧ x.own ∈ D
      · rw [mvK_pos q, eq_iff_iff]
        refine ⟨fun z => absurd z.1 (giveI_st _ _ _), fun z => absurd (by rw [← z.2]; exact q.2) hwD⟩
      · rw [mvK_neg q]
    have hcnt : (g.nak w 2 (g.fl w)).1 = ((r.list 2 w).length : Int) := by
      rw [hnk]
      show (((g.take w (g.fl w)).1.length : Nat) : Int) = _
      unfold GS.take
      rw [if_pos hiw]
      simp only
      rw [takeGo_all (ho.flOf w).ris, hlen]
    have hmem : ∀ x ∈ r.l, x.st = 2 → x.own = w → x.n ∈ g.fl w := fun x hx z1 z2 => by
      have hy : tidyI (RG.ckpt { r with l := r.l.map (mvK r.ret D) }) (mvK r.ret D x) ∈ (RG.tidy { r with l := r.l.map (mvK r.ret D) }).l := List.mem_map_of_mem (List.mem_map_of_mem hx)
      have hp := (h.pt _ hy).fl w
      have a1 : mvK r.ret D x = x := mvK_neg (fun q => hwD (by rw [← z2]; exact q.2))
      rw [a1] at hp
      obtain ⟨b1, b2⟩ := tidyI_two (RG.ckpt { r with l := r.l.map (mvK r.ret D) }) x
      rw [(tidyI_open _ x).2] at hp
      exact hp.2 ⟨b1.2 z1, by rw [b2]; exact z2⟩
    rw [g3] at g2
    have g2' : Rel (giveG 2 g w (g.fl w)).2 (RG.tidy ⟨r.from_, r.buf, r.ret, r.who, (RG.tidy { r with l := r.l.map (mvK r.ret D) }).l.map (moved r.ret 2 w (g.fl w))⟩) := g2
    clear g2
    rw [late_step h0 D w hwD _ hmem, ← hnk] at g2'
    have g2 := g2'
    have his2 : ∀ t ∈ K, (g.nak w 2 (g.fl w)).2.is t = true := fun t ht => by
      rw [← g2.whoM]
      show t ∈ r.who
      have := (h.whoM t).2 (his t (by simp [ht]))
      exact this
    obtain ⟨i1, i2⟩ := late_go h0 K (D ++ [w]) (n + (g.nak w 2 (g.fl w)).1) (g.nak w 2 (g.fl w)).2 hK2 (fun t ht q => by
      rcases List.mem_append.1 q with q | q
      · exact hD t (by simp [ht]) q
      · have : t = w := by simpa using q
        exact hK1 (by rw [← this]; exact ht)) his2 (GS.nak_ok ho w 2 _) g2
    refine ⟨?_, ?_⟩
    · rw [i1, hcnt]
      simp only [List.map_cons, List.sum_cons]
      omega
    · rw [List.append_assoc] at i2
      exact i2
theorem Rel.late (h : Rel g r) (ho : g.Ok N) (ht : Tidied r) : g.late.1 = r.late.1 ∧ Rel g.late.2 r.late.2.tidy := by
  have hws := who_sorted g ho.nod
  have hnd : g.who.Nodup := hws.imp (fun q e => by rw [e] at q; exact absurd q (List.lt_irrefl _))
  have hid : r.l.map (mvK r.ret []) = r.l := by
    conv => rhs; rw [← List.map_id r.l]
    exact List.map_congr_left (fun x _ => by rw [mvK_neg (by simp)]; rfl)
  obtain ⟨h1, h2⟩ := late_go h.num g.who [] 0 g hnd (fun w _ => by simp) (fun w hw => (who_mem g w).1 hw) ho (by rw [hid]; rw [tidy_id (show Tidied { r with l := r.l } from ht)]; exact h)
  have hown : ∀ x ∈ r.l, x.st = 2 → x.own ∈ g.who := fun x hx hs => (who_mem g _).2 (h.ownIn hx hs)
  refine ⟨?_, ?_⟩
  · show (GS.lateGo g.who 0 g).1 = _
    rw [h1, show (g.who.map (fun w => (r.list 2 w).length)).sum = _ from sum_count hnd r.l hown]
    simp [RG.late]
  · show Rel (GS.lateGo g.who 0 g).2 _
    have e : r.l.map (mvK r.ret ([] ++ g.who)) = r.l.map (lateI r.ret) := List.map_congr_left (fun x hx => by
      unfold lateI
      by_cases q : x.st = 2
      · rw [mvK_pos ⟨q, by simpa using hown x hx q⟩, if_pos q]
      · rw [mvK_neg (fun z => q z.1), if_neg q])
    rw [e] at h2
    exact h2
end
end Go.Proofs.YthjgplgfcbhihaaGreat
/- A group and the document's group beside each other; what a step leaves alone. -/
set_option linter.unusedVariables false
set_option linter.unusedSimpArgs false
namespace Go.Proofs.YthjgplgfcbhihaaGreat
open Go.RowKit Go Go.Sort Go.Lib
section
variable {a w w' w'' : World} {H H' Hg Hg' Hr Hr' : List Nat} {gb rb N M : Nat} {g g' : GS} {r r' : RG}
theorem Stepped.out (k : Stepped w w' H H') {b : Nat} (hb : b < w.heap.size) (hn : b ∉ H) : b ∉ H' := fun q => by
  rcases k.blk b q with z | z
  · exact hn z
  · omega
theorem HasG.more' (h : HasG a w H gb g N) (hm : N ≤ M) : HasG a w H gb g M := by
  obtain ⟨⟨fb, tb, vw, vp, va, vs, pf, h1, rfl, hok, hnm⟩, ho, hab⟩ := h
  exact ⟨⟨fb, tb, vw, vp, va, vs, pf, h1, rfl, hok.more hm, hnm⟩, ho, hab⟩
theorem HasG.other (h : HasG a w Hg gb g N) (k : Stepped w w' H H') (ha : ∀ b ∈ H, a.heap.size ≤ b) (hd : ∀ b ∈ Hg, b ∉ H) : HasG a w' Hg gb g N ∧ ∀ b ∈ Hg, b ∉ H' := by
  obtain ⟨⟨S, hS, hSH⟩, hb⟩ := k
  refine ⟨⟨h.gin.keep hS (fun b q r => hd b q (hSH b r)), ((Stepped.of hS hSH hb).above h.only ha).1, h.above⟩, fun b q r => ?_⟩
  rcases hb b r with q1 | q1
  · exact hd b q q1
  · have := h.gin.lt b q
    omega
theorem HasR.other (h : HasR a w Hr rb r) (k : Stepped w w' H H') (ha : ∀ b ∈ H, a.heap.size ≤ b) (hd : ∀ b ∈ Hr, b ∉ H) : HasR a w' Hr rb r ∧ ∀ b ∈ Hr, b ∉ H' := by
  obtain ⟨⟨S, hS, hSH⟩, hb⟩ := k
  refine ⟨h.keep hS (fun b q => ha b (hSH b q)) (fun b q r => hd b q (hSH b r)), fun b q r => ?_⟩
  rcases hb b r with q1 | q1
  · exact hd b q q1
  · have := h.lt b q
    omega
/-- The two groups, in two places. -/
structure Two (a w : World) (Hg Hr : List Nat) (gb rb : Nat) (g : GS) (r : RG) (N : Nat) : Prop where
  g : HasG a w Hg gb g N
  r : HasR a w Hr rb r
  dis : ∀ b ∈ Hg, b ∉ Hr
theorem Two.keep0 (h : Two a w Hg Hr gb rb g r N) (k : Only [] w w') : Two a w' Hg Hr gb rb g r N := ⟨h.g.keep0 k, h.r.keep0 k, h.dis⟩
theorem Two.onG (h : Two a w Hg Hr gb rb g r N) (k : Stepped w w' Hg Hg') (h1 : HasG a w' Hg' gb g' M) : Two a w' Hg' Hr gb rb g' r M := by
  obtain ⟨q1, q2⟩ := h.r.other k h.g.above (fun b hb q => h.dis b q hb)
  exact ⟨h1, q1, fun b hb q => q2 b q hb⟩
theorem Two.onR (h : Two a w Hg Hr gb rb g r N) (k : Stepped w w' Hr Hr') (h1 : HasR a w' Hr' rb r') : Two a w' Hg Hr' gb rb g r' N := by
  obtain ⟨q1, q2⟩ := h.g.other k h.r.above h.dis
  exact ⟨q1, h1, q2⟩
/-- .. that are the same. -/
structure Both (a w : World) (Hg Hr : List Nat) (gb rb : Nat) (g : GS) (r : RG) (N : Nat) : Prop where
  two : Two a w Hg Hr gb rb g r N
  rel : Rel g r
  tid : Tidied r
  tr : ∀ x ∈ r.l, 0 ≤ x.tries ∧ x.tries ≤ N
theorem Both.ok (h : Both a w Hg Hr gb rb g r N) : g.Ok N := h.two.g.gin.ok
theorem Both.len (h : Both a w Hg Hr gb rb g r N) : r.l.length ≤ 1000 * N := by
  have h1 := h.rel.nx
  have h2 := h.ok.nx
  omega
theorem Both.few (h : Both a w Hg Hr gb rb g r N) : r.who.length ≤ 20 := by
  rw [← h.rel.few h.ok]
  exact h.ok.few
theorem Both.from_ (h : Both a w Hg Hr gb rb g r N) : r.from_ ≤ 1099511627776 ∧ 0 ≤ r.from_ := by
  have h1 := h.rel.base.1
  have h2 := h.ok.fr
  omega
theorem Both.keep0 (h : Both a w Hg Hr gb rb g r N) (k : Only [] w w') : Both a w' Hg Hr gb rb g r N := ⟨h.two.keep0 k, h.rel, h.tid, h.tr⟩
/-- What lies beside them: a box bx with a step, and a lent list. -/
structure Side (a w : World) (bx : Nat) (o : OpG) (A : Option Addr) (c : Nat) (Hg Hr : List Nat) : Prop where
  box : Blk w bx 45 #[.int .i64 o.kind, .int .i64 o.n, .string o.who, o.lv]
  bxg : bx ∉ Hg ∧ bx ∉ Hr
  lent : Lent w 0 A c o.l
  lng : ∀ b, (Value.slice A (o.l.length + 1) c).ownBlock = some b → b ∉ Hg ∧ b ∉ Hr
  lv : Slc w 1 o.lv o.l.length (ints o.l)
  lvb : ∀ b, o.lv.ownBlock = some b → b < a.heap.size ∨ o.l = []
variable {bx c : Nat} {o : OpG} {A : Option Addr}
theorem Side.step {S : List Nat} (h : Side a w bx o A c Hg Hr) (hS : Only S w w') (hSa : ∀ b ∈ S, a.heap.size ≤ b) (hS1 : ∀ b ∈ S, b ∈ Hg ∨ b ∈ Hr) (hg : ∀ b, b < w.heap.size → b ∉ Hg → b ∉ Hg') (hr : ∀ b, b < w.heap.size → b ∉ Hr → b ∉ Hr') : Side a w' bx o A c Hg' Hr' := by
  have hb := h.box.lt
  have hl := World.ownsRow.lt h.lent.own
  refine ⟨hS.blk h.box (fun q => ?_), ⟨hg _ hb h.bxg.1, hr _ hb h.bxg.2⟩, ⟨own_only h.lent.own hS (fun b q z => ?_)⟩, fun b q => ⟨hg _ (hl b q).2 (h.lng b q).1, hr _ (hl b q).2 (h.lng b q).2⟩, slc_keep hS hSa rfl h.lv h.lvb, h.lvb⟩
  · rcases hS1 _ q with z | z
    · exact h.bxg.1 z
    · exact h.bxg.2 z
  · rcases hS1 _ z with y | y
    · exact (h.lng b q).1 y
    · exact (h.lng b q).2 y
theorem Side.onG (h : Side a w bx o A c Hg Hr) (k : Stepped w w' Hg Hg') (ha : ∀ b ∈ Hg, a.heap.size ≤ b) : Side a w' bx o A c Hg' Hr := by
  obtain ⟨S, hS, hSH⟩ := k.only
  exact h.step hS (fun b q => ha b (hSH b q)) (fun b q => .inl (hSH b q)) (fun b h1 h2 => k.out h1 h2) (fun b _ h2 => h2)
theorem Side.onR (h : Side a w bx o A c Hg Hr) (k : Stepped w w' Hr Hr') (ha : ∀ b ∈ Hr, a.heap.size ≤ b) : Side a w' bx o A c Hg Hr' := by
  obtain ⟨S, hS, hSH⟩ := k.only
  exact h.step hS (fun b q => ha b (hSH b q)) (fun b q => .inr (hSH b q)) (fun b _ h2 => h2) (fun b h1 h2 => k.out h1 h2)
theorem Side.keep0 (h : Side a w bx o A c Hg Hr) (k : Only [] w w') : Side a w' bx o A c Hg Hr := h.step k (by simp) (by simp) (fun b _ q => q) (fun b _ q => q)
/-- What a step leaves. -/
def DTo (a w : World) (Hg Hr : List Nat) (gb rb N : Nat) (w' : World) : Prop := ∃ Hg' Hr' g' r', Both a w' Hg' Hr' gb rb g' r' (N + 1) ∧ ∃ S, Only S w w' ∧ (∀ b ∈ S, b ∈ Hg ∨ b ∈ Hr) ∧ ∀ b, b < w.heap.size → b ∉ Hg → b ∉ Hr → b ∉ Hg' ∧ b ∉ Hr'
end
end Go.Proofs.YthjgplgfcbhihaaGreat
/- Do: a step of a group and of the document's group: Join, Leave. -/
set_option linter.unusedVariables false
set_option linter.unusedSimpArgs false
namespace Go.Proofs.YthjgplgfcbhihaaGreat
open Go.RowKit Go Go.Sort Go.Lib
section
variable {a w w' w'' : World} {H H' Hg Hg' Hg'' Hr Hr' Hr'' : List Nat} {gb rb N M : Nat} {g g' : GS} {r r' : RG}
/-- What was turned on the way. -/
structure Trail (w w' : World) (Hg Hr Hg' Hr' : List Nat) : Prop where
  only : Only (Hg ++ Hr) w w'
  out : ∀ b, b < w.heap.size → b ∉ Hg → b ∉ Hr → b ∉ Hg' ∧ b ∉ Hr'
theorem Trail.of0 (k : Only [] w w') : Trail w w' Hg Hr Hg Hr := ⟨k.of_nil, fun b _ h1 h2 => ⟨h1, h2⟩⟩
theorem Trail.turn {S : List Nat} (h : Trail w w' Hg Hr Hg' Hr') (k : Only S w' w'') (hS : ∀ b ∈ S, b ∈ Hg' ∨ b ∈ Hr') : Only (Hg ++ Hr) w w'' :=
  h.only.step k (fun b hb => by
    by_cases q : w.heap.size ≤ b
    · exact .inr q
    · left
      by_cases z1 : b ∈ Hg
      · simp [z1]
      by_cases z2 : b ∈ Hr
      · simp [z2]
      have := h.out b (by omega) z1 z2
      rcases hS b hb with y | y
      · exact absurd y this.1
      · exact absurd y this.2)
theorem Trail.then0 (h : Trail w w' Hg Hr Hg' Hr') (k : Only [] w' w'') : Trail w w'' Hg Hr Hg' Hr' := ⟨h.turn k (by simp), h.out⟩
theorem Trail.onG (h : Trail w w' Hg Hr Hg' Hr') (k : Stepped w' w'' Hg' Hg'') : Trail w w'' Hg Hr Hg'' Hr' := by
  obtain ⟨S, hS, hSH⟩ := k.only
  exact ⟨h.turn hS (fun b q => .inl (hSH b q)), fun b h1 h2 h3 => ⟨k.out (Nat.lt_of_lt_of_le h1 h.only.size) (h.out b h1 h2 h3).1, (h.out b h1 h2 h3).2⟩⟩
theorem Trail.onR (h : Trail w w' Hg Hr Hg' Hr') (k : Stepped w' w'' Hr' Hr'') : Trail w w'' Hg Hr Hg' Hr'' := by
  obtain ⟨S, hS, hSH⟩ := k.only
  exact ⟨h.turn hS (fun b q => .inr (hSH b q)), fun b h1 h2 h3 => ⟨(h.out b h1 h2 h3).1, k.out (Nat.lt_of_lt_of_le h1 h.only.size) (h.out b h1 h2 h3).2⟩⟩
/-- What a step leaves. -/
def TTo (a w : World) (Hg Hr : List Nat) (gb rb N : Nat) (w' : World) : Prop := ∃ Hg' Hr' g' r', Both a w' Hg' Hr' gb rb g' r' (N + 1) ∧ Trail w w' Hg Hr Hg' Hr'
/-- A step: its argument. -/
def OpG.val (o : OpG) : Value := .agg #[.int .i64 o.kind, .int .i64 o.n, .string o.who, o.lv]
structure OpFit (a w : World) (o : OpG) : Prop where
  who : o.who.size ≤ 100
  l : o.l.length ≤ 30
  lv : Slc w 1 o.lv o.l.length (ints o.l)
  lvb : ∀ b, o.lv.ownBlock = some b → b < a.heap.size ∨ o.l = []
variable {o : OpG}
theorem side_of (hB : Both a w Hg Hr gb rb g r N) (ho : OpFit a w o) {w1 : World} {A : Option Addr} {c : Nat} (hle : Lent w1 (w.alloc (.cells #[.int .i64 o.kind, .int .i64 o.n, .string o.who, o.lv] 45)).heap.size A c o.l)
    (k1 : Only [] (w.alloc (.cells #[.int .i64 o.kind, .int .i64 o.n, .string o.who, o.lv] 45)) w1) : Side a w1 w.heap.size o A c Hg Hr := by
  have hlt : ∀ b, (b ∈ Hg ∨ b ∈ Hr) → b < w.heap.size := fun b q => by
    rcases q with q | q
    · exact hB.two.g.gin.lt b q
    · exact hB.two.r.lt b q
  refine ⟨k1.blk (Blk.new _ _ _) (by simp), ⟨fun q => ?_, fun q => ?_⟩, ⟨own_base hle.own (Nat.zero_le _)⟩, fun b q => ?_, slc_keep (a := a) (((Only.refl [] w).alloc _).trans k1) (by simp) rfl ho.lv ho.lvb, ho.lvb⟩
  · have := hlt _ (.inl q); omega
  · have := hlt _ (.inr q); omega
  · have h1 := (World.ownsRow.lt hle.own b q).1
    have h2 : w.heap.size < b := by simp at h1; omega
    exact ⟨fun z => by have := hlt _ (.inl z); omega, fun z => by have := hlt _ (.inr z); omega⟩
end
end Go.Proofs.YthjgplgfcbhihaaGreat
/- Do: Join, Leave. -/
set_option linter.unusedVariables false
set_option linter.unusedSimpArgs false
namespace Go.Proofs.YthjgplgfcbhihaaGreat
open Go.RowKit Go Go.Sort Go.Lib
theorem fr_of {g : GS} {r : RG} {N : Nat} (h : Rel g r.tidy) (ho : g.Ok N) : r.from_ ≤ 1099511627776 ∧ 0 ≤ r.from_ := by
  have e1 : r.from_ = g.from_ := h.base.1
  have e2 := ho.fr
  omega
theorem len_of {g : GS} {r : RG} {N : Nat} (h : Rel g r.tidy) (ho : g.Ok N) : r.l.length ≤ 1000 * N := by
  have e1 := h.nx
  have e2 := ho.nx
  have e3 : r.tidy.l.length = r.l.length := by simp [RG.tidy]
  omega
def TrB (r : RG) (N : Nat) : Prop := ∀ x ∈ r.l, 0 ≤ x.tries ∧ x.tries ≤ N
theorem tr_map {r : RG} {N : Nat} (h : TrB r N) (f : Item → Item) (hf : ∀ x ∈ r.l, 0 ≤ (f x).tries ∧ (f x).tries ≤ N) (who' : List ByteArray) : TrB { r with who := who', l := r.l.map f } N := fun y hy => by
  obtain ⟨x, hx, rfl⟩ := List.mem_map.1 hy
  exact hf x hx
theorem tr_tidy {r : RG} {N : Nat} (h : TrB r N) : TrB r.tidy N := tr_map h _ (fun x hx => by
  unfold tidyI
  split <;> exact h x hx) _
theorem TrB.more {r : RG} {N M : Nat} (h : TrB r N) (hm : N ≤ M) : TrB r M := fun x hx => ⟨(h x hx).1, by have := (h x hx).2; omega⟩
theorem tr_join {r : RG} {N : Nat} (h : TrB r N) (s : ByteArray) : TrB (r.join s).2 N := by
  unfold RG.join
  split
  · exact h
  split
  · exact h
  split
  · exact h
  · exact h
theorem tr_leave {r : RG} {N : Nat} (h : TrB r N) (s : ByteArray) : TrB (r.leave s).2 N := by
  unfold RG.leave
  split
  · exact h
  · exact tr_map h _ (fun x hx => by unfold leaveI; split <;> exact h x hx) _
theorem tr_feed {r : RG} {N : Nat} (h : TrB r N) (n : Int) : TrB (r.feed n).2 N := fun x hx => by
  have hx' : x ∈ r.l ++ addI (r.from_ + r.l.length) (r.feedN n) := hx
  rcases List.mem_append.1 hx' with q | q
  · exact h x q
  · obtain ⟨j, hj, rfl⟩ := List.getElem_of_mem q
    rw [addI_get]
    simp
theorem tr_next {r : RG} {N : Nat} (h : TrB r N) (s : ByteArray) : TrB (r.next s).2 (N + 1) := by
  have h' := h.more (Nat.le_succ N)
  unfold RG.next
  split
  · exact h'
  split
  · rename_i hj
    intro x hx
    rcases List.mem_or_eq_of_mem_set hx with q | q
    · exact h' x q
    · rw [q]
      have := h _ (List.getElem_mem hj)
      simp only
      omega
  · exact h'
theorem tr_moved {r : RG} {N : Nat} (h : TrB r N) (how : Int) (s : ByteArray) (l : List Int) : TrB { r with l := r.l.map (moved r.ret how s l) } N := tr_map h _ (fun x hx => by unfold moved; split <;> exact h x hx) _
theorem tr_late {r : RG} {N : Nat} (h : TrB r N) : TrB r.late.2 N := tr_map h _ (fun x hx => by unfold lateI; split <;> exact h x hx) _
theorem tr_replay {r : RG} {N : Nat} (h : TrB r N) : TrB r.replay.2 N := tr_map h _ (fun x hx => by
  unfold replayI
  split
  · simp
  · exact h x hx) _
section
variable {a w : World} {Hg Hr : List Nat} {gb rb N : Nat} {g : GS} {r : RG} {o : OpG}
set_option maxRecDepth 100000 in
set_option maxHeartbeats 500000 in
theorem do_join (hB : Both a w Hg Hr gb rb g r N) (hN : N ≤ 300) (ho : OpFit a w o) (hk : o.kind = 1) :
    Calls Tryz.prog 12 #[.pointer (some ⟨gb, 0, none⟩), .pointer (some ⟨rb, 0, none⟩), o.val] w fun e w' => e = .returned (.bool true) ∧ TTo a w Hg Hr gb rb N w' := by
  obtain ⟨Av, cv, hlve, hnv, hcv, _⟩ := ho.lv.openI
  unfold maxLen at hcv
  have hlv := ho.lv
  have hll := ho.l
  have hww := ho.who
  have HLent := Lib.hid (lent_any (w := w.alloc (.cells #[.int .i64 o.kind, .int .i64 o.n, .string o.who, o.lv] 45)) (slc_keep (a := a) ((Only.refl [] w).alloc _) (by simp) rfl ho.lv ho.lvb) (by omega))
  have HSide := Lib.hid (fun w1 A c h1 h2 => side_of (w1 := w1) (A := A) (c := c) hB ho h1 h2)
  unfold OpG.val
  rw [hlve] at hlv HLent HSide ⊢
  rw [hk] at HLent HSide ⊢
  go_enter Tryz.func12, Tryz.ntmps12
  go_wp2_with fail
  refine HLent.out.mono ?_
  rintro e w1 ⟨A, c, rfl, hle, k1⟩
  have hSd := HSide.out w1 A c hle k1
  have k01 := ((Only.refl [] w).alloc _).trans k1
  have hT1 : Trail w w1 Hg Hr Hg Hr := Trail.of0 k01
  have hB1 := hB.keep0 k01
  have c0 : w1.cell? ⟨w.heap.size, 0, none⟩ = some (.int .i64 1) := by have := hSd.box.cell 0; rw [hk] at this; exact this
  have c1 : w1.cell? ⟨w.heap.size, 1, none⟩ = some (.int .i64 o.n) := hSd.box.cell 1
  have c2 : w1.cell? ⟨w.heap.size, 2, none⟩ = some (.string o.who) := hSd.box.cell 2
  have c3 : w1.cell? ⟨w.heap.size, 3, none⟩ = some (.slice Av o.l.length cv) := by have := hSd.box.cell 3; rw [hlve] at this; exact this
  have hnf : w.heap.size ∉ Hg ++ Hr := by simp [hSd.bxg.1, hSd.bxg.2]
  clear HLent HSide hle k1 k01
  have hrel := hB1.rel.join hB1.ok o.who
  have HJ := Lib.hid (fun (W : World) (hW : Only [] w1 W) => in_join (hB1.two.g.keep0 hW) o.who (by unfold maxLen; omega))
  have HRj := Lib.hid (fun (W : World) (Hg' : List Nat) (hTw : Two a W Hg' Hr gb rb (g.join o.who).2 r (N + 1)) => (rjoin_any hTw.r o.who (by unfold maxLen; omega) (by have := hB1.few; omega)).mono fun e w' (q : _ ∧ _) => (show e = .returned (.int .i64 (g.join o.who).1) ∧ RTo a W Hr rb (r.join o.who).2 w' from ⟨by rw [hrel.1]; exact q.1, q.2⟩))
  have hrel2 := Lib.hid hrel.2
  have htid2 : Hid (Tidied (r.join o.who).2) := tidied_join hB1.tid o.who
  have HTr := Lib.hid (tr_tidy (tr_join (TrB.more hB1.tr (Nat.le_succ N)) o.who))
  have HRel : Hid (Rel (g.join o.who).2 (r.join o.who).2.tidy) := by rw [tidy_id htid2.out]; exact hrel2.out
  clear hrel
  have d2 := Within.cell (S := Hg ++ Hr) c2 hnf
  go_wp2_with fail
  refine wp_region_in (Hg ++ Hr) [0, 1, 2, 4, 5, 6] [3, 7, 8] [9] (by kernel_rfl) (by kernel_rfl) (by intro c d u a w h; cases d <;> exact h) ?_
  show wpQuiet _ _ _ _ [_, _, _, _, _, _] _
  repeat (go_big_quiet_step (fail))
  refine wpQuiet_nil ?_
  clear d2
  show wpList _ _ _ [_] _ _
  go_wp2_with fail
  refine (HJ.out _ (Only.refl _ _).drew).mono ?_
  rintro e w2 ⟨rfl, Hg2, h2, k2⟩
  have hSd2 := (hSd.keep0 (Only.refl _ _).drew).onG k2 hB1.two.g.above
  have hT2 := (hT1.then0 (Only.refl _ _).drew).onG k2
  have hTw2 := (hB1.two.keep0 (Only.refl _ _).drew).onG k2 h2
  have ho2 : Only (Hg ++ Hr) w1 w2 := ((Trail.of0 (Hg := Hg) (Hr := Hr) (Only.refl [] w1).drew).onG k2).only
  go_wp2_with fail
  refine check_of (S := Hg ++ Hr) ho2 ?_
  show wpList _ _ _ [_] _ _
  go_wp2_with fail
  refine (HRj.out _ _ hTw2).mono ?_
  rintro e w3 ⟨rfl, Hr3, h3, k3⟩
  have hSd3 := hSd2.onR k3 hTw2.r.above
  have hT3 := hT2.onR k3
  have hTw3 := hTw2.onR k3 h3
  have ho3 : Only (Hg ++ Hr) w1 w3 := (((Trail.of0 (Hg := Hg) (Hr := Hr) (Only.refl [] w1).drew).onG k2).onR k3).only
  clear HJ HRj hSd2 hT2 hTw2 h2 k2 h3 k3 ho2
  go_wp2_with fail
  refine check_of (S := Hg ++ Hr) ho3 ?_
  show wpList _ _ _ [_] _ _
  go_wp2_with fail
  refine check_of (S := Hg ++ Hr) ho3 ?_
  show wpList _ _ _ [_] _ _
  have c3' : (w3).cell? ⟨w.heap.size, 3, none⟩ = some (.slice Av o.l.length cv) := by have := hSd3.box.cell 3; rw [hlve] at this; exact this
  have HTd := Lib.hid (rtidy_any hTw3.r (fr_of HRel.out hTw3.g.gin.ok) (by have := len_of HRel.out hTw3.g.gin.ok; omega))
  go_wp2_with fail
  refine HTd.out.mono ?_
  rintro e w4 ⟨rfl, Hr4, h4, k4⟩
  have hSd4 := hSd3.onR k4 hTw3.r.above
  have hT4 := hT3.onR k4
  have hTw4 := hTw3.onR k4 h4
  have c3'' : w4.cell? ⟨w.heap.size, 3, none⟩ = some (.slice Av o.l.length cv) := by have := hSd4.box.cell 3; rw [hlve] at this; exact this
  have hlv4 := hSd4.lv
  rw [hlve] at hlv4
  have HSt := Lib.hid (stays_any hSd4.lent hlv4 (by omega))
  have HEnd := Lib.hid (fun w5 (k5 : Only [] w4 w5) => (show TTo a w Hg Hr gb rb N w5 from ⟨_, _, _, _, ⟨hTw4.keep0 k5, HRel.out, tidy_tidied _, HTr.out⟩, hT4.then0 k5⟩))
  clear HTd hSd4 hT4 hTw4 hlv4 c3' hSd3 hT3 hTw3 hB hB1
  go_wp2_with fail
  refine HSt.out.mono ?_
  rintro e w5 ⟨rfl, k5⟩
  go_wp2
  go_ret
  exact ⟨rfl, HEnd.out _ k5⟩
set_option maxRecDepth 100000 in
set_option maxHeartbeats 500000 in
theorem do_leave (hB : Both a w Hg Hr gb rb g r N) (hN : N ≤ 300) (ho : OpFit a w o) (hk : o.kind = 2) :
    Calls Tryz.prog 12 #[.pointer (some ⟨gb, 0, none⟩), .pointer (some ⟨rb, 0, none⟩), o.val] w fun e w' => e = .returned (.bool true) ∧ TTo a w Hg Hr gb rb N w' := by
  obtain ⟨Av, cv, hlve, hnv, hcv, _⟩ := ho.lv.openI
  unfold maxLen at hcv
  have hlv := ho.lv
  have hll := ho.l
  have hww := ho.who
  have HLent := Lib.hid (lent_any (w := w.alloc (.cells #[.int .i64 o.kind, .int .i64 o.n, .string o.who, o.lv] 45)) (slc_keep (a := a) ((Only.refl [] w).alloc _) (by simp) rfl ho.lv ho.lvb) (by omega))
  have HSide := Lib.hid (fun w1 A c h1 h2 => side_of (w1 := w1) (A := A) (c := c) hB ho h1 h2)
  unfold OpG.val
  rw [hlve] at hlv HLent HSide ⊢
  rw [hk] at HLent HSide ⊢
  go_enter Tryz.func12, Tryz.ntmps12
  go_wp2_with fail
  refine HLent.out.mono ?_
  rintro e w1 ⟨A, c, rfl, hle, k1⟩
  have hSd := HSide.out w1 A c hle k1
  have k01 := ((Only.refl [] w).alloc _).trans k1
  have hT1 : Trail w w1 Hg Hr Hg Hr := Trail.of0 k01
  have hB1 := hB.keep0 k01
  have c0 : w1.cell? ⟨w.heap.size, 0, none⟩ = some (.int .i64 2) := by have := hSd.box.cell 0; rw [hk] at this; exact this
  have c1 : w1.cell? ⟨w.heap.size, 1, none⟩ = some (.int .i64 o.n) := hSd.box.cell 1
  have c2 : w1.cell? ⟨w.heap.size, 2, none⟩ = some (.string o.who) := hSd.box.cell 2
  have c3 : w1.cell? ⟨w.heap.size, 3, none⟩ = some (.slice Av o.l.length cv) := by have := hSd.box.cell 3; rw [hlve] at this; exact this
  have hnf : w.heap.size ∉ Hg ++ Hr := by simp [hSd.bxg.1, hSd.bxg.2]
  clear HLent HSide hle k1 k01
  have hrel := hB1.rel.leave hB1.ok o.who
  have HJ := Lib.hid (fun (W : World) (hW : Only [] w1 W) => in_leave (hB1.two.g.keep0 hW) (by omega) o.who)
  have HRj := Lib.hid (fun (W : World) (Hg' : List Nat) (hTw : Two a W Hg' Hr gb rb (g.leave o.who).2 r (N + 1)) => (rleave_any hTw.r o.who (by have := hB1.few; omega) (by have := hB1.len; omega)).mono fun e w' (q : _ ∧ _) => (show e = .returned (.int .i64 (g.leave o.who).1) ∧ RTo a W Hr rb (r.leave o.who).2 w' from ⟨by rw [hrel.1]; exact q.1, q.2⟩))
  have hrel2 := Lib.hid hrel.2
  have htid2 : Hid (Tidied (r.leave o.who).2) := tidied_leave hB1.tid hB1.rel.num o.who
  have HTr := Lib.hid (tr_tidy (tr_leave (TrB.more hB1.tr (Nat.le_succ N)) o.who))
  have HRel : Hid (Rel (g.leave o.who).2 (r.leave o.who).2.tidy) := by rw [tidy_id htid2.out]; exact hrel2.out
  clear hrel
  have d2 := Within.cell (S := Hg ++ Hr) c2 hnf
  go_wp2_with fail
  refine wp_region_in (Hg ++ Hr) [0, 1, 2, 4, 5, 6] [3, 7, 8] [9] (by kernel_rfl) (by kernel_rfl) (by intro c d u a w h; cases d <;> exact h) ?_
  show wpQuiet _ _ _ _ [_, _, _, _, _, _] _
  repeat (go_big_quiet_step (fail))
  refine wpQuiet_nil ?_
  clear d2
  show wpList _ _ _ [_] _ _
  go_wp2_with fail
  refine (HJ.out _ (Only.refl _ _).drew).mono ?_
  rintro e w2 ⟨rfl, Hg2, h2, k2⟩
  have hSd2 := (hSd.keep0 (Only.refl _ _).drew).onG k2 hB1.two.g.above
  have hT2 := (hT1.then0 (Only.refl _ _).drew).onG k2
  have hTw2 := (hB1.two.keep0 (Only.refl _ _).drew).onG k2 h2
  have ho2 : Only (Hg ++ Hr) w1 w2 := ((Trail.of0 (Hg := Hg) (Hr := Hr) (Only.refl [] w1).drew).onG k2).only
  go_wp2_with fail
  refine check_of (S := Hg ++ Hr) ho2 ?_
  show wpList _ _ _ [_] _ _
  go_wp2_with fail
  refine (HRj.out _ _ hTw2).mono ?_
  rintro e w3 ⟨rfl, Hr3, h3, k3⟩
  have hSd3 := hSd2.onR k3 hTw2.r.above
  have hT3 := hT2.onR k3
  have hTw3 := hTw2.onR k3 h3
  have ho3 : Only (Hg ++ Hr) w1 w3 := (((Trail.of0 (Hg := Hg) (Hr := Hr) (Only.refl [] w1).drew).onG k2).onR k3).only
  clear HJ HRj hSd2 hT2 hTw2 h2 k2 h3 k3 ho2
  go_wp2_with fail
  refine check_of (S := Hg ++ Hr) ho3 ?_
  show wpList _ _ _ [_] _ _
  go_wp2_with fail
  refine check_of (S := Hg ++ Hr) ho3 ?_
  show wpList _ _ _ [_] _ _
  have c3' : (w3).cell? ⟨w.heap.size, 3, none⟩ = some (.slice Av o.l.length cv) := by have := hSd3.box.cell 3; rw [hlve] at this; exact this
  have HTd := Lib.hid (rtidy_any hTw3.r (fr_of HRel.out hTw3.g.gin.ok) (by have := len_of HRel.out hTw3.g.gin.ok; omega))
  go_wp2_with fail
  refine HTd.out.mono ?_
  rintro e w4 ⟨rfl, Hr4, h4, k4⟩
  have hSd4 := hSd3.onR k4 hTw3.r.above
  have hT4 := hT3.onR k4
  have hTw4 := hTw3.onR k4 h4
  have c3'' : w4.cell? ⟨w.heap.size, 3, none⟩ = some (.slice Av o.l.length cv) := by have := hSd4.box.cell 3; rw [hlve] at this; exact this
  have hlv4 := hSd4.lv
  rw [hlve] at hlv4
  have HSt := Lib.hid (stays_any hSd4.lent hlv4 (by omega))
  have HEnd := Lib.hid (fun w5 (k5 : Only [] w4 w5) => (show TTo a w Hg Hr gb rb N w5 from ⟨_, _, _, _, ⟨hTw4.keep0 k5, HRel.out, tidy_tidied _, HTr.out⟩, hT4.then0 k5⟩))
  clear HTd hSd4 hT4 hTw4 hlv4 c3' hSd3 hT3 hTw3 hB hB1
  go_wp2_with fail
  refine HSt.out.mono ?_
  rintro e w5 ⟨rfl, k5⟩
  go_wp2
  go_ret
  exact ⟨rfl, HEnd.out _ k5⟩
end
end Go.Proofs.YthjgplgfcbhihaaGreat
/- Do: Feed, Next, Late, Replay, and nothing. -/
set_option linter.unusedVariables false
set_option linter.unusedSimpArgs false
namespace Go.Proofs.YthjgplgfcbhihaaGreat
open Go.RowKit Go Go.Sort Go.Lib
section
variable {a w w' : World} {H Hg Hr : List Nat} {gb rb N M : Nat} {g : GS} {r : RG} {o : OpG}
theorem GTo.more' (h : GTo a w H gb g N w') (hm : N ≤ M) : GTo a w H gb g M w' := by
  obtain ⟨H', h1, h2⟩ := h
  exact ⟨H', h1.more' hm, h2⟩
set_option maxRecDepth 100000 in
set_option maxHeartbeats 500000 in
theorem do_feed (hB : Both a w Hg Hr gb rb g r N) (hN : N ≤ 300) (ho : OpFit a w o) (hk : o.kind = 3) :
    Calls Tryz.prog 12 #[.pointer (some ⟨gb, 0, none⟩), .pointer (some ⟨rb, 0, none⟩), o.val] w fun e w' => e = .returned (.bool true) ∧ TTo a w Hg Hr gb rb N w' := by
  obtain ⟨Av, cv, hlve, hnv, hcv, _⟩ := ho.lv.openI
  unfold maxLen at hcv
  have hlv := ho.lv
  have hll := ho.l
  have hww := ho.who
  have HLent := Lib.hid (lent_any (w := w.alloc (.cells #[.int .i64 o.kind, .int .i64 o.n, .string o.who, o.lv] 45)) (slc_keep (a := a) ((Only.refl [] w).alloc _) (by simp) rfl ho.lv ho.lvb) (by omega))
  have HSide := Lib.hid (fun w1 A c h1 h2 => side_of (w1 := w1) (A := A) (c := c) hB ho h1 h2)
  unfold OpG.val
  rw [hlve] at hlv HLent HSide ⊢
  rw [hk] at HLent HSide ⊢
  go_enter Tryz.func12, Tryz.ntmps12
  go_wp2_with fail
  refine HLent.out.mono ?_
  rintro e w1 ⟨A, c, rfl, hle, k1⟩
  have hSd := HSide.out w1 A c hle k1
  have k01 := ((Only.refl [] w).alloc _).trans k1
  have hT1 : Trail w w1 Hg Hr Hg Hr := Trail.of0 k01
  have hB1 := hB.keep0 k01
  have c0 : w1.cell? ⟨w.heap.size, 0, none⟩ = some (.int .i64 3) := by have := hSd.box.cell 0; rw [hk] at this; exact this
  have c1 : w1.cell? ⟨w.heap.size, 1, none⟩ = some (.int .i64 o.n) := hSd.box.cell 1
  have c2 : w1.cell? ⟨w.heap.size, 2, none⟩ = some (.string o.who) := hSd.box.cell 2
  have c3 : w1.cell? ⟨w.heap.size, 3, none⟩ = some (.slice Av o.l.length cv) := by have := hSd.box.cell 3; rw [hlve] at this; exact this
  have hnf : w.heap.size ∉ Hg ++ Hr := by simp [hSd.bxg.1, hSd.bxg.2]
  clear HLent HSide hle k1 k01
  have hrel := hB1.rel.feed hB1.ok (min o.n 40)
  have HJ := Lib.hid (fun (W : World) (hW : Only [] w1 W) => in_feed (hB1.two.g.keep0 hW) (by omega) (min o.n 40))
  have HRj := Lib.hid (fun (W : World) (Hg' : List Nat) (hTw : Two a W Hg' Hr gb rb (g.feed (min o.n 40)).2 r (N + 1)) => (rfeed_any hTw.r hB1.from_ (by have := hB1.len; omega) (min o.n 40) (by omega)).mono fun e w' (q : _ ∧ _) => (show e = .returned (.int .i64 (g.feed (min o.n 40)).1) ∧ RTo a W Hr rb (r.feed (min o.n 40)).2 w' from ⟨by rw [hrel.1]; exact q.1, q.2⟩))
  have HTr := Lib.hid (tr_tidy (tr_feed (TrB.more hB1.tr (Nat.le_succ N)) (min o.n 40)))
  have HRel : Hid (Rel (g.feed (min o.n 40)).2 (r.feed (min o.n 40)).2.tidy) := by rw [tidy_id (tidied_feed hB1.tid hB1.rel.num _)]; exact hrel.2
  clear hrel
  go_wp2_with fail
  refine (HJ.out _ (Only.refl _ _)).mono ?_
  rintro e w2 ⟨rfl, Hg2, h2, k2⟩
  have hSd2 := hSd.onG k2 hB1.two.g.above
  have hT2 := hT1.onG k2
  have hTw2 := hB1.two.onG k2 h2
  have d2 : w2.cell? ⟨w.heap.size, 2, none⟩ = some (.string o.who) := hSd2.box.cell 2
  clear HJ
  go_wp2_with fail
  refine (HRj.out _ _ hTw2).mono ?_
  rintro e w3 ⟨rfl, Hr3, h3, k3⟩
  have hSd3 := hSd2.onR k3 hTw2.r.above
  have hT3 := hT2.onR k3
  have hTw3 := hTw2.onR k3 h3
  clear HRj hSd2 hT2 hTw2 h2 k2 h3 k3 d2
  have c3' : (w3).cell? ⟨w.heap.size, 3, none⟩ = some (.slice Av o.l.length cv) := by have := hSd3.box.cell 3; rw [hlve] at this; exact this
  have HTd := Lib.hid (rtidy_any hTw3.r (fr_of HRel.out hTw3.g.gin.ok) (by have := len_of HRel.out hTw3.g.gin.ok; omega))
  go_wp2_with fail
  refine HTd.out.mono ?_
  rintro e w4 ⟨rfl, Hr4, h4, k4⟩
  have hSd4 := hSd3.onR k4 hTw3.r.above
  have hT4 := hT3.onR k4
  have hTw4 := hTw3.onR k4 h4
  have c3'' : w4.cell? ⟨w.heap.size, 3, none⟩ = some (.slice Av o.l.length cv) := by have := hSd4.box.cell 3; rw [hlve] at this; exact this
  have hlv4 := hSd4.lv
  rw [hlve] at hlv4
  have HSt := Lib.hid (stays_any hSd4.lent hlv4 (by omega))
  have HEnd := Lib.hid (fun w5 (k5 : Only [] w4 w5) => (show TTo a w Hg Hr gb rb N w5 from ⟨_, _, _, _, ⟨hTw4.keep0 k5, HRel.out, tidy_tidied _, HTr.out⟩, hT4.then0 k5⟩))
  clear HTd hSd4 hT4 hTw4 hlv4 c3' hSd3 hT3 hTw3 hB hB1
  go_wp2_with fail
  refine HSt.out.mono ?_
  rintro e w5 ⟨rfl, k5⟩
  go_wp2
  go_ret
  exact ⟨rfl, HEnd.out _ k5⟩
set_option maxRecDepth 100000 in
set_option maxHeartbeats 500000 in
theorem do_next (hB : Both a w Hg Hr gb rb g r N) (hN : N ≤ 300) (ho : OpFit a w o) (hk : o.kind = 4) :
    Calls Tryz.prog 12 #[.pointer (some ⟨gb, 0, none⟩), .pointer (some ⟨rb, 0, none⟩), o.val] w fun e w' => e = .returned (.bool true) ∧ TTo a w Hg Hr gb rb N w' := by
  obtain ⟨Av, cv, hlve, hnv, hcv, _⟩ := ho.lv.openI
  unfold maxLen at hcv
  have hlv := ho.lv
  have hll := ho.l
  have hww := ho.who
  have HLent := Lib.hid (lent_any (w := w.alloc (.cells #[.int .i64 o.kind, .int .i64 o.n, .string o.who, o.lv] 45)) (slc_keep (a := a) ((Only.refl [] w).alloc _) (by simp) rfl ho.lv ho.lvb) (by omega))
  have HSide := Lib.hid (fun w1 A c h1 h2 => side_of (w1 := w1) (A := A) (c := c) hB ho h1 h2)
  unfold OpG.val
  rw [hlve] at hlv HLent HSide ⊢
  rw [hk] at HLent HSide ⊢
  go_enter Tryz.func12, Tryz.ntmps12
  go_wp2_with fail
  refine HLent.out.mono ?_
  rintro e w1 ⟨A, c, rfl, hle, k1⟩
  have hSd := HSide.out w1 A c hle k1
  have k01 := ((Only.refl [] w).alloc _).trans k1
  have hT1 : Trail w w1 Hg Hr Hg Hr := Trail.of0 k01
  have hB1 := hB.keep0 k01
  have c0 : w1.cell? ⟨w.heap.size, 0, none⟩ = some (.int .i64 4) := by have := hSd.box.cell 0; rw [hk] at this; exact this
  have c1 : w1.cell? ⟨w.heap.size, 1, none⟩ = some (.int .i64 o.n) := hSd.box.cell 1
  have c2 : w1.cell? ⟨w.heap.size, 2, none⟩ = some (.string o.who) := hSd.box.cell 2
  have c3 : w1.cell? ⟨w.heap.size, 3, none⟩ = some (.slice Av o.l.length cv) := by have := hSd.box.cell 3; rw [hlve] at this; exact this
  have hnf : w.heap.size ∉ Hg ++ Hr := by simp [hSd.bxg.1, hSd.bxg.2]
  clear HLent HSide hle k1 k01
  have hrel := hB1.rel.next hB1.ok o.who
  have HJ := Lib.hid (fun (W : World) (hW : Only [] w1 W) => in_next (hB1.two.g.keep0 hW) (by omega) o.who)
  have HRj := Lib.hid (fun (W : World) (Hg' : List Nat) (hTw : Two a W Hg' Hr gb rb (g.next1 o.who).2 r (N + 1)) => (rnext_any hTw.r o.who (by have := hB1.len; omega) (fun x hx => by have := hB1.tr x hx; omega)).mono fun e w' (q : _ ∧ _) => (show e = .returned (.tuple #[.int .i64 (g.next1 o.who).1.1, .bool (g.next1 o.who).1.2]) ∧ RTo a W Hr rb (r.next o.who).2 w' from ⟨by rw [hrel.1]; exact q.1, q.2⟩))
  have HTr := Lib.hid (tr_tidy (tr_next hB1.tr o.who))
  have HRel : Hid (Rel (g.next1 o.who).2 (r.next o.who).2.tidy) := by rw [tidy_id (tidied_next hB1.tid hB1.rel _)]; exact hrel.2
  clear hrel
  go_wp2_with fail
  refine (HJ.out _ (Only.refl _ _)).mono ?_
  rintro e w2 ⟨rfl, Hg2, h2, k2⟩
  have hSd2 := hSd.onG k2 hB1.two.g.above
  have hT2 := hT1.onG k2
  have hTw2 := hB1.two.onG k2 h2
  have d2 : w2.cell? ⟨w.heap.size, 2, none⟩ = some (.string o.who) := hSd2.box.cell 2
  clear HJ
  go_wp2_with fail
  refine (HRj.out _ _ hTw2).mono ?_
  rintro e w3 ⟨rfl, Hr3, h3, k3⟩
  have hSd3 := hSd2.onR k3 hTw2.r.above
  have hT3 := hT2.onR k3
  have hTw3 := hTw2.onR k3 h3
  clear HRj hSd2 hT2 hTw2 h2 k2 h3 k3 d2
  have c3' : (w3).cell? ⟨w.heap.size, 3, none⟩ = some (.slice Av o.l.length cv) := by have := hSd3.box.cell 3; rw [hlve] at this; exact this
  have HTd := Lib.hid (rtidy_any hTw3.r (fr_of HRel.out hTw3.g.gin.ok) (by have := len_of HRel.out hTw3.g.gin.ok; omega))
  go_wp2_with fail
  refine HTd.out.mono ?_
  rintro e w4 ⟨rfl, Hr4, h4, k4⟩
  have hSd4 := hSd3.onR k4 hTw3.r.above
  have hT4 := hT3.onR k4
  have hTw4 := hTw3.onR k4 h4
  have c3'' : w4.cell? ⟨w.heap.size, 3, none⟩ = some (.slice Av o.l.length cv) := by have := hSd4.box.cell 3; rw [hlve] at this; exact this
  have hlv4 := hSd4.lv
  rw [hlve] at hlv4
  have HSt := Lib.hid (stays_any hSd4.lent hlv4 (by omega))
  have HEnd := Lib.hid (fun w5 (k5 : Only [] w4 w5) => (show TTo a w Hg Hr gb rb N w5 from ⟨_, _, _, _, ⟨hTw4.keep0 k5, HRel.out, tidy_tidied _, HTr.out⟩, hT4.then0 k5⟩))
  clear HTd hSd4 hT4 hTw4 hlv4 c3' hSd3 hT3 hTw3 hB hB1
  go_wp2_with fail
  refine HSt.out.mono ?_
  rintro e w5 ⟨rfl, k5⟩
  go_wp2
  go_ret
  exact ⟨rfl, HEnd.out _ k5⟩
set_option maxRecDepth 100000 in
set_option maxHeartbeats 500000 in
theorem do_late (hB : Both a w Hg Hr gb rb g r N) (hN : N ≤ 300) (ho : OpFit a w o) (hk : o.kind = 7) :
    Calls Tryz.prog 12 #[.pointer (some ⟨gb, 0, none⟩), .pointer (some ⟨rb, 0, none⟩), o.val] w fun e w' => e = .returned (.bool true) ∧ TTo a w Hg Hr gb rb N w' := by
  obtain ⟨Av, cv, hlve, hnv, hcv, _⟩ := ho.lv.openI
  unfold maxLen at hcv
  have hlv := ho.lv
  have hll := ho.l
  have hww := ho.who
  have HLent := Lib.hid (lent_any (w := w.alloc (.cells #[.int .i64 o.kind, .int .i64 o.n, .string o.who, o.lv] 45)) (slc_keep (a := a) ((Only.refl [] w).alloc _) (by simp) rfl ho.lv ho.lvb) (by omega))
  have HSide := Lib.hid (fun w1 A c h1 h2 => side_of (w1 := w1) (A := A) (c := c) hB ho h1 h2)
  unfold OpG.val
  rw [hlve] at hlv HLent HSide ⊢
  rw [hk] at HLent HSide ⊢
  go_enter Tryz.func12, Tryz.ntmps12
  go_wp2_with fail
  refine HLent.out.mono ?_
  rintro e w1 ⟨A, c, rfl, hle, k1⟩
  have hSd := HSide.out w1 A c hle k1
  have k01 := ((Only.refl [] w).alloc _).trans k1
  have hT1 : Trail w w1 Hg Hr Hg Hr := Trail.of0 k01
  have hB1 := hB.keep0 k01
  have c0 : w1.cell? ⟨w.heap.size, 0, none⟩ = some (.int .i64 7) := by have := hSd.box.cell 0; rw [hk] at this; exact this
  have c1 : w1.cell? ⟨w.heap.size, 1, none⟩ = some (.int .i64 o.n) := hSd.box.cell 1
  have c2 : w1.cell? ⟨w.heap.size, 2, none⟩ = some (.string o.who) := hSd.box.cell 2
  have c3 : w1.cell? ⟨w.heap.size, 3, none⟩ = some (.slice Av o.l.length cv) := by have := hSd.box.cell 3; rw [hlve] at this; exact this
  have hnf : w.heap.size ∉ Hg ++ Hr := by simp [hSd.bxg.1, hSd.bxg.2]
  clear HLent HSide hle k1 k01
  have hrel := hB1.rel.late hB1.ok hB1.tid
  have HJ := Lib.hid (fun (W : World) (hW : Only [] w1 W) => (in_late (hB1.two.g.keep0 hW) (by omega)).mono fun e w' (q : _ ∧ _) => (show e = .returned (.int .i64 g.late.1) ∧ GTo a W Hg gb g.late.2 (N + 1) w' from ⟨q.1, q.2.more' (Nat.le_succ N)⟩))
  have HRj := Lib.hid (fun (W : World) (Hg' : List Nat) (hTw : Two a W Hg' Hr gb rb g.late.2 r (N + 1)) => (rlate_any hTw.r (by have := hB1.len; omega)).mono fun e w' (q : _ ∧ _) => (show e = .returned (.int .i64 g.late.1) ∧ RTo a W Hr rb r.late.2 w' from ⟨by rw [hrel.1]; exact q.1, q.2⟩))
  have HTr := Lib.hid (tr_tidy (tr_late (TrB.more hB1.tr (Nat.le_succ N))))
  have HRel := Lib.hid hrel.2
  clear hrel
  go_wp2_with fail
  refine (HJ.out _ (Only.refl _ _)).mono ?_
  rintro e w2 ⟨rfl, Hg2, h2, k2⟩
  have hSd2 := hSd.onG k2 hB1.two.g.above
  have hT2 := hT1.onG k2
  have hTw2 := hB1.two.onG k2 h2
  have d2 : w2.cell? ⟨w.heap.size, 2, none⟩ = some (.string o.who) := hSd2.box.cell 2
  clear HJ
  go_wp2_with fail
  refine (HRj.out _ _ hTw2).mono ?_
  rintro e w3 ⟨rfl, Hr3, h3, k3⟩
  have hSd3 := hSd2.onR k3 hTw2.r.above
  have hT3 := hT2.onR k3
  have hTw3 := hTw2.onR k3 h3
  clear HRj hSd2 hT2 hTw2 h2 k2 h3 k3 d2
  have c3' : (w3).cell? ⟨w.heap.size, 3, none⟩ = some (.slice Av o.l.length cv) := by have := hSd3.box.cell 3; rw [hlve] at this; exact this
  have HTd := Lib.hid (rtidy_any hTw3.r (fr_of HRel.out hTw3.g.gin.ok) (by have := len_of HRel.out hTw3.g.gin.ok; omega))
  go_wp2_with fail
  refine HTd.out.mono ?_
  rintro e w4 ⟨rfl, Hr4, h4, k4⟩
  have hSd4 := hSd3.onR k4 hTw3.r.above
  have hT4 := hT3.onR k4
  have hTw4 := hTw3.onR k4 h4
  have c3'' : w4.cell? ⟨w.heap.size, 3, none⟩ = some (.slice Av o.l.length cv) := by have := hSd4.box.cell 3; rw [hlve] at this; exact this
  have hlv4 := hSd4.lv
  rw [hlve] at hlv4
  have HSt := Lib.hid (stays_any hSd4.lent hlv4 (by omega))
  have HEnd := Lib.hid (fun w5 (k5 : Only [] w4 w5) => (show TTo a w Hg Hr gb rb N w5 from ⟨_, _, _, _, ⟨hTw4.keep0 k5, HRel.out, tidy_tidied _, HTr.out⟩, hT4.then0 k5⟩))
  clear HTd hSd4 hT4 hTw4 hlv4 c3' hSd3 hT3 hTw3 hB hB1
  go_wp2_with fail
  refine HSt.out.mono ?_
  rintro e w5 ⟨rfl, k5⟩
  go_wp2
  go_ret
  exact ⟨rfl, HEnd.out _ k5⟩
set_option maxRecDepth 100000 in
set_option maxHeartbeats 500000 in
theorem do_replay (hB : Both a w Hg Hr gb rb g r N) (hN : N ≤ 300) (ho : OpFit a w o) (hk : o.kind = 8) :
    Calls Tryz.prog 12 #[.pointer (some ⟨gb, 0, none⟩), .pointer (some ⟨rb, 0, none⟩), o.val] w fun e w' => e = .returned (.bool true) ∧ TTo a w Hg Hr gb rb N w' := by
  obtain ⟨Av, cv, hlve, hnv, hcv, _⟩ := ho.lv.openI
  unfold maxLen at hcv
  have hlv := ho.lv
  have hll := ho.l
  have hww := ho.who
  have HLent := Lib.hid (lent_any (w := w.alloc (.cells #[.int .i64 o.kind, .int .i64 o.n, .string o.who, o.lv] 45)) (slc_keep (a := a) ((Only.refl [] w).alloc _) (by simp) rfl ho.lv ho.lvb) (by omega))
  have HSide := Lib.hid (fun w1 A c h1 h2 => side_of (w1 := w1) (A := A) (c := c) hB ho h1 h2)
  unfold OpG.val
  rw [hlve] at hlv HLent HSide ⊢
  rw [hk] at HLent HSide ⊢
  go_enter Tryz.func12, Tryz.ntmps12
  go_wp2_with fail
  refine HLent.out.mono ?_
  rintro e w1 ⟨A, c, rfl, hle, k1⟩
  have hSd := HSide.out w1 A c hle k1
  have k01 := ((Only.refl [] w).alloc _).trans k1
  have hT1 : Trail w w1 Hg Hr Hg Hr := Trail.of0 k01
  have hB1 := hB.keep0 k01
  have c0 : w1.cell? ⟨w.heap.size, 0, none⟩ = some (.int .i64 8) := by have := hSd.box.cell 0; rw [hk] at this; exact this
  have c1 : w1.cell? ⟨w.heap.size, 1, none⟩ = some (.int .i64 o.n) := hSd.box.cell 1
  have c2 : w1.cell? ⟨w.heap.size, 2, none⟩ = some (.string o.who) := hSd.box.cell 2
  have c3 : w1.cell? ⟨w.heap.size, 3, none⟩ = some (.slice Av o.l.length cv) := by have := hSd.box.cell 3; rw [hlve] at this; exact this
  have hnf : w.heap.size ∉ Hg ++ Hr := by simp [hSd.bxg.1, hSd.bxg.2]
  clear HLent HSide hle k1 k01
  have hrel := hB1.rel.replay hB1.ok
  have HJ := Lib.hid (fun (W : World) (hW : Only [] w1 W) => (in_replay (hB1.two.g.keep0 hW) (by omega)).mono fun e w' (q : _ ∧ _) => (show e = .returned (.int .i64 g.replay.1) ∧ GTo a W Hg gb g.replay.2 (N + 1) w' from ⟨q.1, q.2.more' (Nat.le_succ N)⟩))
  have HRj := Lib.hid (fun (W : World) (Hg' : List Nat) (hTw : Two a W Hg' Hr gb rb g.replay.2 r (N + 1)) => (rreplay_any hTw.r (by have := hB1.len; omega)).mono fun e w' (q : _ ∧ _) => (show e = .returned (.int .i64 g.replay.1) ∧ RTo a W Hr rb r.replay.2 w' from ⟨by rw [hrel.1]; exact q.1, q.2⟩))
  have HTr := Lib.hid (tr_tidy (tr_replay (TrB.more hB1.tr (Nat.le_succ N))))
  have HRel : Hid (Rel g.replay.2 r.replay.2.tidy) := by rw [tidy_id (tidied_replay hB1.tid hB1.rel.num)]; exact hrel.2
  clear hrel
  go_wp2_with fail
  refine (HJ.out _ (Only.refl _ _)).mono ?_
  rintro e w2 ⟨rfl, Hg2, h2, k2⟩
  have hSd2 := hSd.onG k2 hB1.two.g.above
  have hT2 := hT1.onG k2
  have hTw2 := hB1.two.onG k2 h2
  have d2 : w2.cell? ⟨w.heap.size, 2, none⟩ = some (.string o.who) := hSd2.box.cell 2
  clear HJ
  go_wp2_with fail
  refine (HRj.out _ _ hTw2).mono ?_
  rintro e w3 ⟨rfl, Hr3, h3, k3⟩
  have hSd3 := hSd2.onR k3 hTw2.r.above
  have hT3 := hT2.onR k3
  have hTw3 := hTw2.onR k3 h3
  clear HRj hSd2 hT2 hTw2 h2 k2 h3 k3 d2
  have c3' : (w3).cell? ⟨w.heap.size, 3, none⟩ = some (.slice Av o.l.length cv) := by have := hSd3.box.cell 3; rw [hlve] at this; exact this
  have HTd := Lib.hid (rtidy_any hTw3.r (fr_of HRel.out hTw3.g.gin.ok) (by have := len_of HRel.out hTw3.g.gin.ok; omega))
  go_wp2_with fail
  refine HTd.out.mono ?_
  rintro e w4 ⟨rfl, Hr4, h4, k4⟩
  have hSd4 := hSd3.onR k4 hTw3.r.above
  have hT4 := hT3.onR k4
  have hTw4 := hTw3.onR k4 h4
  have c3'' : w4.cell? ⟨w.heap.size, 3, none⟩ = some (.slice Av o.l.length cv) := by have := hSd4.box.cell 3; rw [hlve] at this; exact this
  have hlv4 := hSd4.lv
  rw [hlve] at hlv4
  have HSt := Lib.hid (stays_any hSd4.lent hlv4 (by omega))
  have HEnd := Lib.hid (fun w5 (k5 : Only [] w4 w5) => (show TTo a w Hg Hr gb rb N w5 from ⟨_, _, _, _, ⟨hTw4.keep0 k5, HRel.out, tidy_tidied _, HTr.out⟩, hT4.then0 k5⟩))
  clear HTd hSd4 hT4 hTw4 hlv4 c3' hSd3 hT3 hTw3 hB hB1
  go_wp2_with fail
  refine HSt.out.mono ?_
  rintro e w5 ⟨rfl, k5⟩
  go_wp2
  go_ret
  exact ⟨rfl, HEnd.out _ k5⟩
set_option maxRecDepth 100000 in
set_option maxHeartbeats 500000 in
theorem do_none (hB : Both a w Hg Hr gb rb g r N) (hN : N ≤ 300) (ho : OpFit a w o) (kk : Int) (hk : o.kind = kk) (hkn : kk < 1 ∨ 8 < kk) :
    Calls Tryz.prog 12 #[.pointer (some ⟨gb, 0, none⟩), .pointer (some ⟨rb, 0, none⟩), o.val] w fun e w' => e = .returned (.bool true) ∧ TTo a w Hg Hr gb rb N w' := by
  have b1 : (kk == 1) = false := by rw [beq_eq_false_iff_ne]; omega
  have b2 : (kk == 2) = false := by rw [beq_eq_false_iff_ne]; omega
  have b3 : (kk == 3) = false := by rw [beq_eq_false_iff_ne]; omega
  have b4 : (kk == 4) = false := by rw [beq_eq_false_iff_ne]; omega
  have b5 : (kk == 5) = false := by rw [beq_eq_false_iff_ne]; omega
  have b6 : (kk == 6) = false := by rw [beq_eq_false_iff_ne]; omega
  have b7 : (kk == 7) = false := by rw [beq_eq_false_iff_ne]; omega
  have b8 : (kk == 8) = false := by rw [beq_eq_false_iff_ne]; omega
  clear hkn
  obtain ⟨Av, cv, hlve, hnv, hcv, _⟩ := ho.lv.openI
  unfold maxLen at hcv
  have hlv := ho.lv
  have hll := ho.l
  have hww := ho.who
  have HLent := Lib.hid (lent_any (w := w.alloc (.cells #[.int .i64 o.kind, .int .i64 o.n, .string o.who, o.lv] 45)) (slc_keep (a := a) ((Only.refl [] w).alloc _) (by simp) rfl ho.lv ho.lvb) (by omega))
  have HSide := Lib.hid (fun w1 A c h1 h2 => side_of (w1 := w1) (A := A) (c := c) hB ho h1 h2)
  unfold OpG.val
  rw [hlve] at hlv HLent HSide ⊢
  rw [hk] at HLent HSide ⊢
  go_enter Tryz.func12, Tryz.ntmps12
  go_wp2_with fail
  refine HLent.out.mono ?_
  rintro e w1 ⟨A, c, rfl, hle, k1⟩
  have hSd := HSide.out w1 A c hle k1
  have k01 := ((Only.refl [] w).alloc _).trans k1
  have hT1 : Trail w w1 Hg Hr Hg Hr := Trail.of0 k01
  have hB1 := hB.keep0 k01
  have c0 : w1.cell? ⟨w.heap.size, 0, none⟩ = some (.int .i64 kk) := by have := hSd.box.cell 0; rw [hk] at this; exact this
  have c1 : w1.cell? ⟨w.heap.size, 1, none⟩ = some (.int .i64 o.n) := hSd.box.cell 1
  have c2 : w1.cell? ⟨w.heap.size, 2, none⟩ = some (.string o.who) := hSd.box.cell 2
  have c3 : w1.cell? ⟨w.heap.size, 3, none⟩ = some (.slice Av o.l.length cv) := by have := hSd.box.cell 3; rw [hlve] at this; exact this
  have hnf : w.heap.size ∉ Hg ++ Hr := by simp [hSd.bxg.1, hSd.bxg.2]
  clear HLent HSide hle k1 k01
  have HTr := Lib.hid (tr_tidy (TrB.more hB1.tr (Nat.le_succ N)))
  have HRel : Hid (Rel g r.tidy) := by rw [tidy_id hB1.tid]; exact hB1.rel
  have hSd3 := hSd
  have hT3 := hT1
  have hTw3 : Two a w1 Hg Hr gb rb g r (N + 1) := ⟨hB1.two.g.more' (Nat.le_succ N), hB1.two.r, hB1.two.dis⟩
  have HK := Lib.hid hk
  clear hk
  have c3' : (w1).cell? ⟨w.heap.size, 3, none⟩ = some (.slice Av o.l.length cv) := by have := hSd3.box.cell 3; rw [hlve] at this; exact this
  have HTd := Lib.hid (rtidy_any hTw3.r (fr_of HRel.out hTw3.g.gin.ok) (by have := len_of HRel.out hTw3.g.gin.ok; omega))
  go_wp2_with fail
  refine HTd.out.mono ?_
  rintro e w4 ⟨rfl, Hr4, h4, k4⟩
  have hSd4 := hSd3.onR k4 hTw3.r.above
  have hT4 := hT3.onR k4
  have hTw4 := hTw3.onR k4 h4
  have c3'' : w4.cell? ⟨w.heap.size, 3, none⟩ = some (.slice Av o.l.length cv) := by have := hSd4.box.cell 3; rw [hlve] at this; exact this
  have hlv4 := hSd4.lv
  rw [hlve] at hlv4
  have HSt := Lib.hid (stays_any hSd4.lent hlv4 (by omega))
  have HEnd := Lib.hid (fun w5 (k5 : Only [] w4 w5) => (show TTo a w Hg Hr gb rb N w5 from ⟨_, _, _, _, ⟨hTw4.keep0 k5, HRel.out, tidy_tidied _, HTr.out⟩, hT4.then0 k5⟩))
  clear HTd hSd4 hT4 hTw4 hlv4 c3' hSd3 hT3 hTw3 hB hB1
  go_wp2_with fail
  refine HSt.out.mono ?_
  rintro e w5 ⟨rfl, k5⟩
  go_wp2
  go_ret
  exact ⟨rfl, HEnd.out _ k5⟩
end
end Go.Proofs.YthjgplgfcbhihaaGreat
/- Do: Ack, Nak; Do whole. -/
set_option linter.unusedVariables false
set_option linter.unusedSimpArgs false
namespace Go.Proofs.YthjgplgfcbhihaaGreat
open Go.RowKit Go Go.Sort Go.Lib
section
variable {a w w' : World} {H Hg Hr : List Nat} {gb rb N M : Nat} {g : GS} {r : RG} {o : OpG}
theorem own_len (A : Option Addr) (n m c d : Nat) : (Value.slice A n c).ownBlock = (Value.slice A m d).ownBlock := by
  cases A with
  | none => rfl
  | some a => obtain ⟨b, off, sp⟩ := a; cases off <;> cases sp <;> rfl
theorem Side.lng0 {bx c : Nat} {A : Option Addr} (h : Side a w bx o A c Hg Hr) : ∀ b, (Value.slice A o.l.length c).ownBlock = some b → b ∉ Hg ∧ b ∉ Hr := fun b q => h.lng b (by rw [own_len A _ o.l.length _ c]; exact q)
theorem trG {r r' : RG} {N : Nat} (h : TrB r N) {how : Int} {s : ByteArray} {l : List Int} (e : r' = { r with l := r.l.map (moved r.ret how s l) }) : TrB r'.tidy N := by
  rw [e]
  exact tr_tidy (tr_moved h how s l)
theorem lvb_not (ho : OpFit a w o) (h : ∀ b ∈ H, a.heap.size ≤ b) : ∀ b, o.lv.ownBlock = some b → b ∉ H ∨ o.l = [] := fun b q => (ho.lvb b q).imp (fun z y => by have := h b y; omega) id
set_option maxRecDepth 100000 in
set_option maxHeartbeats 500000 in
theorem do_ack (hB : Both a w Hg Hr gb rb g r N) (hN : N ≤ 300) (ho : OpFit a w o) (hk : o.kind = 5) :
    Calls Tryz.prog 12 #[.pointer (some ⟨gb, 0, none⟩), .pointer (some ⟨rb, 0, none⟩), o.val] w fun e w' => e = .returned (.bool true) ∧ TTo a w Hg Hr gb rb N w' := by
  obtain ⟨Av, cv, hlve, hnv, hcv, _⟩ := ho.lv.openI
  unfold maxLen at hcv
  have hlv := ho.lv
  have hll := ho.l
  have hww := ho.who
  have HLent := Lib.hid (lent_any (w := w.alloc (.cells #[.int .i64 o.kind, .int .i64 o.n, .string o.who, o.lv] 45)) (slc_keep (a := a) ((Only.refl [] w).alloc _) (by simp) rfl ho.lv ho.lvb) (by omega))
  have HSide := Lib.hid (fun w1 A c h1 h2 => side_of (w1 := w1) (A := A) (c := c) hB ho h1 h2)
  unfold OpG.val
  rw [hlve] at hlv HLent HSide ⊢
  rw [hk] at HLent HSide ⊢
  go_enter Tryz.func12, Tryz.ntmps12
  go_wp2_with fail
  refine HLent.out.mono ?_
  rintro e w1 ⟨A, c, rfl, hle, k1⟩
  have hSd := HSide.out w1 A c hle k1
  have k01 := ((Only.refl [] w).alloc _).trans k1
  have hT1 : Trail w w1 Hg Hr Hg Hr := Trail.of0 k01
  have hB1 := hB.keep0 k01
  have c0 : w1.cell? ⟨w.heap.size, 0, none⟩ = some (.int .i64 5) := by have := hSd.box.cell 0; rw [hk] at this; exact this
  have c1 : w1.cell? ⟨w.heap.size, 1, none⟩ = some (.int .i64 o.n) := hSd.box.cell 1
  have c2 : w1.cell? ⟨w.heap.size, 2, none⟩ = some (.string o.who) := hSd.box.cell 2
  have c3 : w1.cell? ⟨w.heap.size, 3, none⟩ = some (.slice Av o.l.length cv) := by have := hSd.box.cell 3; rw [hlve] at this; exact this
  have hnf : w.heap.size ∉ Hg ++ Hr := by simp [hSd.bxg.1, hSd.bxg.2]
  clear HLent HSide hle k1 k01
  obtain ⟨q1, q2, q3⟩ := hB1.rel.give hB1.ok hB1.tid o.who 0 (.inl rfl) o.l
  rw [← ack_is] at q1 q2
  have HJ := Lib.hid (fun (W : World) (hW : Only [] w1 W) => (in_ack (hB1.two.g.keep0 hW) (by omega) o.who (hSd.keep0 hW).lent.slc (fun b q => .inl ((hSd.keep0 hW).lng0 b q).1) (by omega)).mono fun e w' (q : _ ∧ _) => (show e = .returned (.int .i64 (g.ack o.who o.l).1) ∧ GTo a W Hg gb (g.ack o.who o.l).2 (N + 1) w' from ⟨q.1, q.2.more' (Nat.le_succ N)⟩))
  have HRj := Lib.hid (fun (W : World) (Hg' : List Nat) (hTw : Two a W Hg' Hr gb rb (g.ack o.who o.l).2 r (N + 1)) (hS : Side a W w.heap.size o A c Hg' Hr) => (rgiveL_any (lv := .slice Av o.l.length cv) hTw.r o.who 0 (by have := hS.lv; rw [hlve] at this; exact this) (by have := lvb_not ho hTw.r.above; rw [hlve] at this; exact this) (by have := hB1.len; omega) (by omega) (by omega)).mono fun e w' (q : _ ∧ _) => (show e = .returned (.int .i64 (g.ack o.who o.l).1) ∧ RTo a W Hr rb (r.give o.who 0 o.l).2 w' from ⟨by rw [q1]; exact q.1, q.2⟩))
  have HTr := Lib.hid (trG (TrB.more hB1.tr (Nat.le_succ N)) q3)
  have HRel := Lib.hid q2
  clear q1 q2 q3
  have d2 := Within.cell (S := Hg ++ Hr) c2 hnf
  have d3 := Within.cell (S := Hg ++ Hr) c3 hnf
  go_wp2_with fail
  refine wp_region_in (Hg ++ Hr) [0, 1, 2, 3, 5, 6, 7, 8, 9] [4, 10, 11] [12] (by kernel_rfl) (by kernel_rfl) (by intro c d u a w h; cases d <;> exact h) ?_
  show wpQuiet _ _ _ _ [_, _, _, _, _, _, _, _, _] _
  repeat (go_big_quiet_step (fail))
  refine wpQuiet_nil ?_
  clear d2 d3
  show wpList _ _ _ [_] _ _
  go_wp2_with fail
  refine (HJ.out _ (Only.refl _ _).drew).mono ?_
  rintro e w2 ⟨rfl, Hg2, h2, k2⟩
  have hSd2 := (hSd.keep0 (Only.refl _ _).drew).onG k2 hB1.two.g.above
  have hT2 := (hT1.then0 (Only.refl _ _).drew).onG k2
  have hTw2 := (hB1.two.keep0 (Only.refl _ _).drew).onG k2 h2
  have ho2 : Only (Hg ++ Hr) w1 w2 := ((Trail.of0 (Hg := Hg) (Hr := Hr) (Only.refl [] w1).drew).onG k2).only
  go_wp2_with fail
  refine check_of (S := Hg ++ Hr) ho2 ?_
  show wpList _ _ _ [_] _ _
  go_wp2_with fail
  refine (HRj.out _ _ hTw2 hSd2).mono ?_
  rintro e w3 ⟨rfl, Hr3, h3, k3⟩
  have hSd3 := hSd2.onR k3 hTw2.r.above
  have hT3 := hT2.onR k3
  have hTw3 := hTw2.onR k3 h3
  have ho3 : Only (Hg ++ Hr) w1 w3 := (((Trail.of0 (Hg := Hg) (Hr := Hr) (Only.refl [] w1).drew).onG k2).onR k3).only
  clear HJ HRj hSd2 hT2 hTw2 h2 k2 h3 k3 ho2
  go_wp2_with fail
  refine check_of (S := Hg ++ Hr) ho3 ?_
  show wpList _ _ _ [_] _ _
  go_wp2_with fail
  refine check_of (S := Hg ++ Hr) ho3 ?_
  show wpList _ _ _ [_] _ _
  have c3' : (w3).cell? ⟨w.heap.size, 3, none⟩ = some (.slice Av o.l.length cv) := by have := hSd3.box.cell 3; rw [hlve] at this; exact this
  have HTd := Lib.hid (rtidy_any hTw3.r (fr_of HRel.out hTw3.g.gin.ok) (by have := len_of HRel.out hTw3.g.gin.ok; omega))
  go_wp2_with fail
  refine HTd.out.mono ?_
  rintro e w4 ⟨rfl, Hr4, h4, k4⟩
  have hSd4 := hSd3.onR k4 hTw3.r.above
  have hT4 := hT3.onR k4
  have hTw4 := hTw3.onR k4 h4
  have c3'' : w4.cell? ⟨w.heap.size, 3, none⟩ = some (.slice Av o.l.length cv) := by have := hSd4.box.cell 3; rw [hlve] at this; exact this
  have hlv4 := hSd4.lv
  rw [hlve] at hlv4
  have HSt := Lib.hid (stays_any hSd4.lent hlv4 (by omega))
  have HEnd := Lib.hid (fun w5 (k5 : Only [] w4 w5) => (show TTo a w Hg Hr gb rb N w5 from ⟨_, _, _, _, ⟨hTw4.keep0 k5, HRel.out, tidy_tidied _, HTr.out⟩, hT4.then0 k5⟩))
  clear HTd hSd4 hT4 hTw4 hlv4 c3' hSd3 hT3 hTw3 hB hB1
  go_wp2_with fail
  refine HSt.out.mono ?_
  rintro e w5 ⟨rfl, k5⟩
  go_wp2
  go_ret
  exact ⟨rfl, HEnd.out _ k5⟩
set_option maxRecDepth 100000 in
set_option maxHeartbeats 500000 in
theorem do_nak (hB : Both a w Hg Hr gb rb g r N) (hN : N ≤ 300) (ho : OpFit a w o) (hk : o.kind = 6) (hh : o.n = 1 ∨ o.n = 2 ∨ o.n = 3) :
    Calls Tryz.prog 12 #[.pointer (some ⟨gb, 0, none⟩), .pointer (some ⟨rb, 0, none⟩), o.val] w fun e w' => e = .returned (.bool true) ∧ TTo a w Hg Hr gb rb N w' := by
  have hn1 : ¬ o.n < 1 := by omega
  have hn3 : o.n ≤ 3 := by omega
  have hn1' : (1 : Int) ≤ o.n := by omega
  obtain ⟨Av, cv, hlve, hnv, hcv, _⟩ := ho.lv.openI
  unfold maxLen at hcv
  have hlv := ho.lv
  have hll := ho.l
  have hww := ho.who
  have HLent := Lib.hid (lent_any (w := w.alloc (.cells #[.int .i64 o.kind, .int .i64 o.n, .string o.who, o.lv] 45)) (slc_keep (a := a) ((Only.refl [] w).alloc _) (by simp) rfl ho.lv ho.lvb) (by omega))
  have HSide := Lib.hid (fun w1 A c h1 h2 => side_of (w1 := w1) (A := A) (c := c) hB ho h1 h2)
  unfold OpG.val
  rw [hlve] at hlv HLent HSide ⊢
  rw [hk] at HLent HSide ⊢
  go_enter Tryz.func12, Tryz.ntmps12
  go_wp2_with fail
  refine HLent.out.mono ?_
  rintro e w1 ⟨A, c, rfl, hle, k1⟩
  have hSd := HSide.out w1 A c hle k1
  have k01 := ((Only.refl [] w).alloc _).trans k1
  have hT1 : Trail w w1 Hg Hr Hg Hr := Trail.of0 k01
  have hB1 := hB.keep0 k01
  have c0 : w1.cell? ⟨w.heap.size, 0, none⟩ = some (.int .i64 6) := by have := hSd.box.cell 0; rw [hk] at this; exact this
  have c1 : w1.cell? ⟨w.heap.size, 1, none⟩ = some (.int .i64 o.n) := hSd.box.cell 1
  have c2 : w1.cell? ⟨w.heap.size, 2, none⟩ = some (.string o.who) := hSd.box.cell 2
  have c3 : w1.cell? ⟨w.heap.size, 3, none⟩ = some (.slice Av o.l.length cv) := by have := hSd.box.cell 3; rw [hlve] at this; exact this
  have hnf : w.heap.size ∉ Hg ++ Hr := by simp [hSd.bxg.1, hSd.bxg.2]
  clear HLent HSide hle k1 k01
  obtain ⟨q1, q2, q3⟩ := hB1.rel.give hB1.ok hB1.tid o.who o.n (by omega) o.l
  rw [← nak_is g o.who hh] at q1 q2
  have HRj := Lib.hid (show Calls Tryz.prog 36 #[.pointer (some ⟨rb, 0, none⟩), .string o.who, .int .i64 o.n, .slice Av o.l.length cv] w1 fun e w' => e = .returned (.int .i64 (g.nak o.who o.n o.l).1) ∧ RTo a w1 Hr rb (r.give o.who o.n o.l).2 w' from
    (rgiveL_any (lv := .slice Av o.l.length cv) hB1.two.r o.who o.n (by have := hSd.lv; rw [hlve] at this; exact this) (by have := lvb_not ho hB1.two.r.above; rw [hlve] at this; exact this) (by have := hB1.len; omega) (by omega) (by omega)).mono fun e w' (q : _ ∧ _) => ⟨by rw [q1]; exact q.1, q.2⟩)
  have HJ := Lib.hid (fun (W : World) (Hr' : List Nat) (r' : RG) (hTw : Two a W Hg Hr' gb rb g r' N) (hS : Side a W w.heap.size o A c Hg Hr') => (in_nak hTw.g (by omega) o.who o.n hS.lent.slc (fun b q => .inl (hS.lng0 b q).1) (by omega)).mono fun e w' (q : _ ∧ _) => (show e = .returned (.int .i64 (g.nak o.who o.n o.l).1) ∧ GTo a W Hg gb (g.nak o.who o.n o.l).2 (N + 1) w' from ⟨q.1, q.2.more' (Nat.le_succ N)⟩))
  have HTr := Lib.hid (trG (TrB.more hB1.tr (Nat.le_succ N)) q3)
  have HRel := Lib.hid q2
  have HH := Lib.hid hh
  clear q1 q2 q3 hh
  go_wp2_with fail
  refine HRj.out.mono ?_
  rintro e w2 ⟨rfl, Hr2, h2, k2⟩
  have hSd2 := hSd.onR k2 hB1.two.r.above
  have hT2 := hT1.onR k2
  have hTw2 := hB1.two.onR k2 h2
  have d1 : w2.cell? ⟨w.heap.size, 1, none⟩ = some (.int .i64 o.n) := hSd2.box.cell 1
  have d2 : w2.cell? ⟨w.heap.size, 2, none⟩ = some (.string o.who) := hSd2.box.cell 2
  clear HRj
  go_wp2_with fail
  refine (HJ.out _ _ _ hTw2 hSd2).mono ?_
  rintro e w3 ⟨rfl, Hg3, h3, k3⟩
  have hSd3 := hSd2.onG k3 hTw2.g.above
  have hT3 := hT2.onG k3
  have hTw3 := hTw2.onG k3 h3
  clear HJ hSd2 hT2 hTw2 h2 k2 h3 k3 d1 d2
  have c3' : (w3).cell? ⟨w.heap.size, 3, none⟩ = some (.slice Av o.l.length cv) := by have := hSd3.box.cell 3; rw [hlve] at this; exact this
  have HTd := Lib.hid (rtidy_any hTw3.r (fr_of HRel.out hTw3.g.gin.ok) (by have := len_of HRel.out hTw3.g.gin.ok; omega))
  go_wp2_with fail
  refine HTd.out.mono ?_
  rintro e w4 ⟨rfl, Hr4, h4, k4⟩
  have hSd4 := hSd3.onR k4 hTw3.r.above
  have hT4 := hT3.onR k4
  have hTw4 := hTw3.onR k4 h4
  have c3'' : w4.cell? ⟨w.heap.size, 3, none⟩ = some (.slice Av o.l.length cv) := by have := hSd4.box.cell 3; rw [hlve] at this; exact this
  have hlv4 := hSd4.lv
  rw [hlve] at hlv4
  have HSt := Lib.hid (stays_any hSd4.lent hlv4 (by omega))
  have HEnd := Lib.hid (fun w5 (k5 : Only [] w4 w5) => (show TTo a w Hg Hr gb rb N w5 from ⟨_, _, _, _, ⟨hTw4.keep0 k5, HRel.out, tidy_tidied _, HTr.out⟩, hT4.then0 k5⟩))
  clear HTd hSd4 hT4 hTw4 hlv4 c3' hSd3 hT3 hTw3 hB hB1
  go_wp2_with fail
  refine HSt.out.mono ?_
  rintro e w5 ⟨rfl, k5⟩
  go_wp2
  go_ret
  exact ⟨rfl, HEnd.out _ k5⟩
set_option maxRecDepth 100000 in
set_option maxHeartbeats 500000 in
theorem do_nak0 (hB : Both a w Hg Hr gb rb g r N) (hN : N ≤ 300) (ho : OpFit a w o) (hk : o.kind = 6) (hh : ¬ (o.n = 1 ∨ o.n = 2 ∨ o.n = 3)) :
    Calls Tryz.prog 12 #[.pointer (some ⟨gb, 0, none⟩), .pointer (some ⟨rb, 0, none⟩), o.val] w fun e w' => e = .returned (.bool true) ∧ TTo a w Hg Hr gb rb N w' := by
  obtain ⟨Av, cv, hlve, hnv, hcv, _⟩ := ho.lv.openI
  unfold maxLen at hcv
  have hlv := ho.lv
  have hll := ho.l
  have hww := ho.who
  have HLent := Lib.hid (lent_any (w := w.alloc (.cells #[.int .i64 o.kind, .int .i64 o.n, .string o.who, o.lv] 45)) (slc_keep (a := a) ((Only.refl [] w).alloc _) (by simp) rfl ho.lv ho.lvb) (by omega))
  have HSide := Lib.hid (fun w1 A c h1 h2 => side_of (w1 := w1) (A := A) (c := c) hB ho h1 h2)
  unfold OpG.val
  rw [hlve] at hlv HLent HSide ⊢
  rw [hk] at HLent HSide ⊢
  go_enter Tryz.func12, Tryz.ntmps12
  go_wp2_with fail
  refine HLent.out.mono ?_
  rintro e w1 ⟨A, c, rfl, hle, k1⟩
  have hSd := HSide.out w1 A c hle k1
  have k01 := ((Only.refl [] w).alloc _).trans k1
  have hT1 : Trail w w1 Hg Hr Hg Hr := Trail.of0 k01
  have hB1 := hB.keep0 k01
  have c0 : w1.cell? ⟨w.heap.size, 0, none⟩ = some (.int .i64 6) := by have := hSd.box.cell 0; rw [hk] at this; exact this
  have c1 : w1.cell? ⟨w.heap.size, 1, none⟩ = some (.int .i64 o.n) := hSd.box.cell 1
  have c2 : w1.cell? ⟨w.heap.size, 2, none⟩ = some (.string o.who) := hSd.box.cell 2
  have c3 : w1.cell? ⟨w.heap.size, 3, none⟩ = some (.slice Av o.l.length cv) := by have := hSd.box.cell 3; rw [hlve] at this; exact this
  have hnf : w.heap.size ∉ Hg ++ Hr := by simp [hSd.bxg.1, hSd.bxg.2]
  clear HLent HSide hle k1 k01
  have hnk : g.nak o.who o.n o.l = (0, g) := by unfold GS.nak; rw [if_pos (by omega)]
  have HJ := Lib.hid ((in_nak hB1.two.g (by omega) o.who o.n hSd.lent.slc (fun b q => .inl (hSd.lng0 b q).1) (by omega)).mono fun e w' (q : _ ∧ _) => (show e = .returned (.int .i64 0) ∧ GTo a w1 Hg gb g (N + 1) w' from ⟨by rw [q.1, hnk], by have := q.2; rw [hnk] at this; exact this.more' (Nat.le_succ N)⟩))
  have HTr := Lib.hid (tr_tidy (TrB.more hB1.tr (Nat.le_succ N)))
  have HRel : Hid (Rel g r.tidy) := by rw [tidy_id hB1.tid]; exact hB1.rel
  have hcs : o.n < 1 ∨ 3 < o.n := by omega
  clear hnk hh
  rcases hcs with hc | hc
  · have hc2 : ¬ (1 : Int) ≤ o.n := by omega
    go_wp2_with fail
    refine HJ.out.mono ?_
    rintro e w3 ⟨rfl, Hg3, h3, k3⟩
    have hSd3 := hSd.onG k3 hB1.two.g.above
    have hT3 := hT1.onG k3
    have hTw3 := hB1.two.onG k3 h3
    clear HJ h3 k3
    have c3' : (w3).cell? ⟨w.heap.size, 3, none⟩ = some (.slice Av o.l.length cv) := by have := hSd3.box.cell 3; rw [hlve] at this; exact this
    have HTd := Lib.hid (rtidy_any hTw3.r (fr_of HRel.out hTw3.g.gin.ok) (by have := len_of HRel.out hTw3.g.gin.ok; omega))
    go_wp2_with fail
    refine HTd.out.mono ?_
    rintro e w4 ⟨rfl, Hr4, h4, k4⟩
    have hSd4 := hSd3.onR k4 hTw3.r.above
    have hT4 := hT3.onR k4
    have hTw4 := hTw3.onR k4 h4
    have c3'' : w4.cell? ⟨w.heap.size, 3, none⟩ = some (.slice Av o.l.length cv) := by have := hSd4.box.cell 3; rw [hlve] at this; exact this
    have hlv4 := hSd4.lv
    rw [hlve] at hlv4
    have HSt := Lib.hid (stays_any hSd4.lent hlv4 (by omega))
    have HEnd := Lib.hid (fun w5 (k5 : Only [] w4 w5) => (show TTo a w Hg Hr gb rb N w5 from ⟨_, _, _, _, ⟨hTw4.keep0 k5, HRel.out, tidy_tidied _, HTr.out⟩, hT4.then0 k5⟩))
    clear HTd hSd4 hT4 hTw4 hlv4 c3' hSd3 hT3 hTw3 hB hB1
    go_wp2_with fail
    refine HSt.out.mono ?_
    rintro e w5 ⟨rfl, k5⟩
    go_wp2
    go_ret
    exact ⟨rfl, HEnd.out _ k5⟩
  · have hc2 : (1 : Int) ≤ o.n := by omega
    have hc3 : ¬ o.n ≤ 3 := by omega
    go_wp2_with fail
    refine HJ.out.mono ?_
    rintro e w3 ⟨rfl, Hg3, h3, k3⟩
    have hSd3 := hSd.onG k3 hB1.two.g.above
    have hT3 := hT1.onG k3
    have hTw3 := hB1.two.onG k3 h3
    clear HJ h3 k3
    have c3' : (w3).cell? ⟨w.heap.size, 3, none⟩ = some (.slice Av o.l.length cv) := by have := hSd3.box.cell 3; rw [hlve] at this; exact this
    have HTd := Lib.hid (rtidy_any hTw3.r (fr_of HRel.out hTw3.g.gin.ok) (by have := len_of HRel.out hTw3.g.gin.ok; omega))
    go_wp2_with fail
    refine HTd.out.mono ?_
    rintro e w4 ⟨rfl, Hr4, h4, k4⟩
    have hSd4 := hSd3.onR k4 hTw3.r.above
    have hT4 := hT3.onR k4
    have hTw4 := hTw3.onR k4 h4
    have c3'' : w4.cell? ⟨w.heap.size, 3, none⟩ = some (.slice Av o.l.length cv) := by have := hSd4.box.cell 3; rw [hlve] at this; exact this
    have hlv4 := hSd4.lv
    rw [hlve] at hlv4
    have HSt := Lib.hid (stays_any hSd4.lent hlv4 (by omega))
    have HEnd := Lib.hid (fun w5 (k5 : Only [] w4 w5) => (show TTo a w Hg Hr gb rb N w5 from ⟨_, _, _, _, ⟨hTw4.keep0 k5, HRel.out, tidy_tidied _, HTr.out⟩, hT4.then0 k5⟩))
    clear HTd hSd4 hT4 hTw4 hlv4 c3' hSd3 hT3 hTw3 hB hB1
    go_wp2_with fail
    refine HSt.out.mono ?_
    rintro e w5 ⟨rfl, k5⟩
    go_wp2
    go_ret
    exact ⟨rfl, HEnd.out _ k5⟩
theorem do_any (hB : Both a w Hg Hr gb rb g r N) (hN : N ≤ 300) (ho : OpFit a w o) :
    Calls Tryz.prog 12 #[.pointer (some ⟨gb, 0, none⟩), .pointer (some ⟨rb, 0, none⟩), o.val] w fun e w' => e = .returned (.bool true) ∧ TTo a w Hg Hr gb rb N w' := by
  by_cases k1 : o.kind = 1
  · exact do_join hB hN ho k1
  by_cases k2 : o.kind = 2
  · exact do_leave hB hN ho k2
  by_cases k3 : o.kind = 3
  · exact do_feed hB hN ho k3
  by_cases k4 : o.kind = 4
  · exact do_next hB hN ho k4
  by_cases k5 : o.kind = 5
  · exact do_ack hB hN ho k5
  by_cases k6 : o.kind = 6
  · by_cases hh : o.n = 1 ∨ o.n = 2 ∨ o.n = 3
    · exact do_nak hB hN ho k6 hh
    · exact do_nak0 hB hN ho k6 hh
  by_cases k7 : o.kind = 7
  · exact do_late hB hN ho k7
  by_cases k8 : o.kind = 8
  · exact do_replay hB hN ho k8
  exact do_none hB hN ho o.kind rfl (by omega)
end
end Go.Proofs.YthjgplgfcbhihaaGreat
/- Shows: a group is what the document's is; its lists are kept. -/
set_option linter.unusedVariables false
set_option linter.unusedSimpArgs false
namespace Go.Proofs.YthjgplgfcbhihaaGreat
open Go.RowKit Go Go.Sort Go.Lib
section
variable {a w w' : World} {Hg Hr Hk S : List Nat} {gb rb kb N : Nat} {g : GS} {r : RG}
theorem Rel.tries (h : Rel g r) (v : Int) : g.tr v = r.triesOf v := by
  unfold RG.triesOf
  cases hf : r.l.find? (pTries v) with
  | none =>
    have hn : ∀ x ∈ r.l, ¬ pTries v x = true := fun x hx => List.find?_eq_none.1 hf x hx
    show g.tr v = 0
    by_cases hv : g.from_ ≤ v ∧ v < g.next
    · obtain ⟨x, hx, rfl⟩ := h.item hv
      have := hn x hx
      rw [(h.pt x hx).tr, if_neg]
      intro q
      apply this
      rcases q with q | q <;> simp [pTries, q]
    · exact h.tr0 v (by omega)
  | some x =>
    have hx := List.mem_of_find?_eq_some hf
    have hp := List.find?_some hf
    simp [pTries] at hp
    show g.tr v = x.tries
    rw [← hp.1, (h.pt x hx).tr, if_pos hp.2]
theorem Rel.tries1 (h : Rel g r) (ho : g.Ok N) : g.tr (-1) = 0 := h.tr0 _ (.inl (by have := ho.fr; omega))
theorem Both.keepS (h : Both a w Hg Hr gb rb g r N) (k : Only S w w') (ha : ∀ b ∈ S, a.heap.size ≤ b) (hd : ∀ b ∈ S, b ∉ Hg ∧ b ∉ Hr) : Both a w' Hg Hr gb rb g r N := by
  refine ⟨⟨⟨h.two.g.gin.keep k (fun b q z => (hd b z).1 q), h.two.g.only.step k (fun i hi => .inr (ha i hi)), h.two.g.above⟩, h.two.r.keep k ha (fun b q z => (hd b z).2 q), h.two.dis⟩, h.rel, h.tid, h.tr⟩
/-- A fresh row of numbers, made between two worlds. -/
structure NewI (w : World) (lo hi : Nat) (A : Option Addr) (c : Nat) (l : List Int) : Prop where
  own : w.ownsRow 0 3 1 (.slice A l.length c) l.length (ints l)
  blk : ∀ b, (Value.slice A l.length c).ownBlock = some b → lo ≤ b ∧ b < hi
  few : l.length ≤ 1000000
structure NewT (w : World) (lo hi : Nat) (A : Option Addr) (c : Nat) (l : List ByteArray) : Prop where
  own : w.ownsRow 0 9 1 (.slice A l.length c) l.length (strs l)
  blk : ∀ b, (Value.slice A l.length c).ownBlock = some b → lo ≤ b ∧ b < hi
  few : l.length ≤ 1000000
variable {lo hi c : Nat} {A : Option Addr}
theorem NewI.keep {l : List Int} (h : NewI w lo hi A c l) (k : Only S w w') (hS : ∀ b ∈ S, ∀ cur, ¬ Blk w b 3 cur ∧ ¬ Blk w b 9 cur) : NewI w' lo hi A c l :=
  ⟨own_only h.own k (fun b q z => by obtain ⟨cur, hc⟩ := own_type h.own q; exact (hS b z cur).1 hc), h.blk, h.few⟩
theorem NewT.keep {l : List ByteArray} (h : NewT w lo hi A c l) (k : Only S w w') (hS : ∀ b ∈ S, ∀ cur, ¬ Blk w b 3 cur ∧ ¬ Blk w b 9 cur) : NewT w' lo hi A c l :=
  ⟨own_only h.own k (fun b q z => by obtain ⟨cur, hc⟩ := own_type h.own q; exact (hS b z cur).2 hc), h.blk, h.few⟩
theorem NewI.keep0 {l : List Int} (h : NewI w lo hi A c l) (k : Only [] w w') : NewI w' lo hi A c l := h.keep k (by simp)
theorem NewT.keep0 {l : List ByteArray} (h : NewT w lo hi A c l) (k : Only [] w w') : NewT w' lo hi A c l := h.keep k (by simp)
theorem NewI.slc {l : List Int} (h : NewI w lo hi A c l) : Slc w 1 (.slice A l.length c) l.length (ints l) := (Slc.of_own h.own).1
theorem NewT.slc {l : List ByteArray} (h : NewT w lo hi A c l) : Slc w 1 (.slice A l.length c) l.length (strs l) := (Slc.of_own h.own).1
def NewIRet (w : World) (l : List Int) (e : Ending) (w' : World) : Prop := ∃ A c, e = .returned (.slice A l.length c) ∧ NewI w' w.heap.size w'.heap.size A c l ∧ Only [] w w'
theorem newI_of {l : List Int} (hl : l.length ≤ 1000000) {e : Ending} (h : RowRet w l e w') : NewIRet w l e w' := by
  obtain ⟨v, rfl, h1, h2, h3⟩ := h
  obtain ⟨A, c, rfl, _⟩ := own_form h1
  exact ⟨A, c, rfl, ⟨h1, fun b q => ⟨h2 b q, (World.ownsRow.lt h1 b q).2⟩, hl⟩, h3⟩
def NewTRet (w : World) (l : List ByteArray) (e : Ending) (w' : World) : Prop := ∃ A c, e = .returned (.slice A l.length c) ∧ NewT w' w.heap.size w'.heap.size A c l ∧ Only [] w w'
theorem newT_of {l : List ByteArray} (hl : l.length ≤ 1000000) {e : Ending} (h : ∃ v, e = .returned v ∧ w'.ownsRow w.heap.size 9 1 v l.length (strs l) ∧ Only [] w w') : NewTRet w l e w' := by
  obtain ⟨v, rfl, h1, h3⟩ := h
  obtain ⟨A, c, rfl, _⟩ := own_form h1
  exact ⟨A, c, rfl, ⟨own_base h1 (Nat.zero_le _), fun b q => World.ownsRow.lt h1 b q, hl⟩, h3⟩
/-- The book beside the groups, while lists made behind m are put in. -/
structure BkIn (a w : World) (Hk0 : List Nat) (kb s0 m s6 : Nat) (Hk : List Nat) : Prop where
  b : HasB a w Hk kb
  mem : ∀ b ∈ Hk, b ∈ Hk0 ∨ (s0 ≤ b ∧ b < m) ∨ s6 ≤ b
  sz : s6 ≤ w.heap.size
/-- What one more list leaves. -/
def PutTo (a w : World) (Hk0 : List Nat) (kb s0 m s6 : Nat) (Hk : List Nat) (w' : World) : Prop := ∃ Hk' S, BkIn a w' Hk0 kb s0 m s6 Hk' ∧ Only S w w' ∧ (∀ b ∈ S, b ∈ Hk) ∧ ∀ b ∈ S, ∀ cur, ¬ Blk w b 3 cur ∧ ¬ Blk w b 9 cur
theorem putI {Hk0 : List Nat} {s0 s6 : Nat} (h : BkIn a w Hk0 kb s0 lo s6 Hk) (h0 : ∀ b ∈ Hk0, b < s0) (hs : a.heap.size ≤ s0 ∧ s0 ≤ lo ∧ hi ≤ s6) (hm : lo ≤ hi) {l : List Int} (hn : NewI w lo hi A c l) :
    Calls Tryz.prog 45 #[.pointer (some ⟨kb, 0, none⟩), .slice A l.length c] w fun e w' => e = .returned (.tuple #[]) ∧ PutTo a w Hk0 kb s0 hi s6 Hk w' :=
  (bints_any h.b hn.own (fun b q => ⟨fun z => by
    have := hn.blk b q
    rcases h.mem b z with y | y | y
    · have := h0 b y; omega
    · omega
    · omega, by have := hn.blk b q; omega⟩) hn.few).mono fun e w' ⟨e1, Hk', k1, ⟨S, k2, k3, k4⟩, k5⟩ => ⟨e1, Hk', S, ⟨k1, fun b q => by
      rcases k5 b q with y | y | y
      · rcases h.mem b y with z | z | z
        · exact .inl z
        · exact .inr (.inl (by omega))
        · exact .inr (.inr z)
      · have := hn.blk b y
        exact .inr (.inl (by omega))
      · have := h.sz
        exact .inr (.inr (by omega)), Nat.le_trans h.sz k2.size⟩, k2, k3, k4⟩
theorem putT {Hk0 : List Nat} {s0 s6 : Nat} (h : BkIn a w Hk0 kb s0 lo s6 Hk) (h0 : ∀ b ∈ Hk0, b < s0) (hs : a.heap.size ≤ s0 ∧ s0 ≤ lo ∧ hi ≤ s6) (hm : lo ≤ hi) {l : List ByteArray} (hn : NewT w lo hi A c l) :
    Calls Tryz.prog 46 #[.pointer (some ⟨kb, 0, none⟩), .slice A l.length c] w fun e w' => e = .returned (.tuple #[]) ∧ PutTo a w Hk0 kb s0 hi s6 Hk w' :=
  (btexts_any h.b hn.own (fun b q => ⟨fun z => by
    have := hn.blk b q
    rcases h.mem b z with y | y | y
    · have := h0 b y; omega
    · omega
    · omega, by have := hn.blk b q; omega⟩) hn.few).mono fun e w' ⟨e1, Hk', k1, ⟨S, k2, k3, k4⟩, k5⟩ => ⟨e1, Hk', S, ⟨k1, fun b q => by
      rcases k5 b q with y | y | y
      · rcases h.mem b y with z | z | z
        · exact .inl z
        · exact .inr (.inl (by omega))
        · exact .inr (.inr z)
      · have := hn.blk b y
        exact .inr (.inl (by omega))
      · have := h.sz
        exact .inr (.inr (by omega)), Nat.le_trans h.sz k2.size⟩, k2, k3, k4⟩
end
end Go.Proofs.YthjgplgfcbhihaaGreat
/- Shows: the walk. -/
set_option linter.unusedVariables false
set_option linter.unusedSimpArgs false
namespace Go.Proofs.YthjgplgfcbhihaaGreat
open Go.RowKit Go Go.Sort Go.Lib
section
variable {a w w' w0 : World} {Hg Hr Hk Hk0 S : List Nat} {gb rb kb N s0 m s6 : Nat} {g : GS} {r : RG}
theorem keepBoth (hBk : BkIn a w Hk0 kb s0 m s6 Hk) (hB : Both a w Hg Hr gb rb g r N) (kS : Only S w w') (kIn : ∀ b ∈ S, b ∈ Hk) (hd0 : ∀ b ∈ Hk0, b ∉ Hg ∧ b ∉ Hr) (hgl : ∀ b ∈ Hg, b < s0) (hrl : ∀ b ∈ Hr, b < s0) (hs : s0 ≤ s6) : Both a w' Hg Hr gb rb g r N :=
  hB.keepS kS (fun b q => hBk.b.above b (kIn b q)) (fun b q => by
    rcases hBk.mem b (kIn b q) with y | y | y
    · exact hd0 b y
    · exact ⟨fun z => by have := hgl b z; omega, fun z => by have := hrl b z; omega⟩
    · exact ⟨fun z => by have := hgl b z; omega, fun z => by have := hrl b z; omega⟩)
theorem keepOnly (hBk : BkIn a w Hk0 kb w0.heap.size m s6 Hk) (hO : Only Hk0 w0 w) (kS : Only S w w') (kIn : ∀ b ∈ S, b ∈ Hk) (hs : w0.heap.size ≤ s6) : Only Hk0 w0 w' :=
  hO.step kS (fun b q => by
    rcases hBk.mem b (kIn b q) with y | y | y
    · exact .inl y
    · exact .inr y.1
    · exact .inr (by omega))
/-- What Shows leaves. -/
def STo (a w : World) (Hg Hr Hk0 : List Nat) (gb rb kb : Nat) (g : GS) (r : RG) (N : Nat) (w' : World) : Prop :=
  ∃ Hk', Both a w' Hg Hr gb rb g r N ∧ HasB a w' Hk' kb ∧ (∀ b ∈ Hk', b ∈ Hk0 ∨ w.heap.size ≤ b) ∧ Only Hk0 w w'
set_option maxRecDepth 100000 in
set_option maxHeartbeats 400000 in
theorem shows_any (hB : Both a w Hg Hr gb rb g r N) (hN : N ≤ 400) (hK : HasB a w Hk0 kb) (hd : ∀ b ∈ Hk0, b ∉ Hg ∧ b ∉ Hr) (who : ByteArray) :
    Calls Tryz.prog 13 #[.pointer (some ⟨gb, 0, none⟩), .pointer (some ⟨rb, 0, none⟩), .string who, .pointer (some ⟨kb, 0, none⟩)] w fun e w' => e = .returned (.bool true) ∧ STo a w Hg Hr Hk0 gb rb kb g r N w' := by
  have hok := hB.ok
  have hgG := hB.two.g
  have HR1 := Lib.hid (fun (W : World) (hW : Only [] w W) => (in_flight (hgG.keep0 hW) (by omega) who).mono fun e w' q => newI_of (by have := hok.len (hok.flOf who); omega) q)
  have HR2 := Lib.hid (fun (W : World) (hW : Only [] w W) => (in_parked (hgG.keep0 hW) (by omega)).mono fun e w' q => newI_of (by have := hok.len hok.pa; omega) q)
  have HR3 := Lib.hid (fun (W : World) (hW : Only [] w W) => (in_skipped (hgG.keep0 hW) (by omega)).mono fun e w' q => newI_of (by have := hok.len hok.sk; omega) q)
  have HR4 := Lib.hid (fun (W : World) (hW : Only [] w W) => (in_acked (hgG.keep0 hW) (by omega)).mono fun e w' q => newI_of (by have := hok.len hok.ac; omega) q)
  have HR5 := Lib.hid (fun (W : World) (hW : Only [] w W) => (in_waiting (hgG.keep0 hW) (by omega)).mono fun e w' q => newI_of (by have := hok.len hok.wa; omega) q)
  have HR6 := Lib.hid (fun (W : World) (hW : Only [] w W) => (in_who (hgG.keep0 hW)).mono fun e w' q => newT_of (by have := hok.few; rw [show g.who.length = g.flight.length by simp [GS.who]]; omega) q)
  have hgl := hgG.gin.lt
  have hrl := hB.two.r.lt
  have hHk0 := hK.lt
  have hsa := hgG.only.size
  have hO : Only [] w w := Only.refl _ _
  clear hgG
  go_enter Tryz.func13, Tryz.ntmps13
  go_wp2_with fail
  refine (HR1.out _ hO).mono ?_
  rintro e w1 ⟨A1, c1, rfl, n1, k1⟩
  have hO := hO.trans k1
  have z1 := k1.size
  go_wp2_with fail
  refine (HR2.out _ hO).mono ?_
  rintro e w2 ⟨A2, c2, rfl, n2, k2⟩
  have hO := hO.trans k2
  have z2 := k2.size
  go_wp2_with fail
  refine (HR3.out _ hO).mono ?_
  rintro e w3 ⟨A3, c3, rfl, n3, k3⟩
  have hO := hO.trans k3
  have z3 := k3.size
  go_wp2_with fail
  refine (HR4.out _ hO).mono ?_
  rintro e w4 ⟨A4, c4, rfl, n4, k4⟩
  have hO := hO.trans k4
  have z4 := k4.size
  go_wp2_with fail
  refine (HR5.out _ hO).mono ?_
  rintro e w5 ⟨A5, c5, rfl, n5, k5⟩
  have hO := hO.trans k5
  have z5 := k5.size
  go_wp2_with fail
  refine (HR6.out _ hO).mono ?_
  rintro e w6 ⟨A6, c6, rfl, n6, k6⟩
  have hO := hO.trans k6
  have z6 := k6.size
  clear HR1 HR2 HR3 HR4 HR5 HR6
  have n1 := ((((n1.keep0 k2).keep0 k3).keep0 k4).keep0 k5).keep0 k6
  have n2 := (((n2.keep0 k3).keep0 k4).keep0 k5).keep0 k6
  have n3 := ((n3.keep0 k4).keep0 k5).keep0 k6
  have n4 := (n4.keep0 k5).keep0 k6
  have n5 := n5.keep0 k6
  have hBk : BkIn a w6 Hk0 kb w.heap.size w.heap.size w6.heap.size Hk0 := ⟨hK.keep0 hO, fun b q => .inl q, Nat.le_refl _⟩
  have hB := hB.keep0 hO
  have hOk : Only Hk0 w w6 := hO.of_nil
  clear hO k1 k2 k3 k4 k5 k6 hK
  go_wp2_with fail
  refine (putI hBk hHk0 ⟨hsa, by omega, by omega⟩ (by omega) n1).mono ?_
  rintro e wx ⟨rfl, Hkx, Sx, hBk', kS, kIn, kTy⟩
  have hB := keepBoth hBk hB kS kIn hd hgl hrl (by omega)
  have hOk := keepOnly hBk hOk kS kIn (by omega)
  have n1 := n1.keep kS kTy
  have n2 := n2.keep kS kTy
  have n3 := n3.keep kS kTy
  have n4 := n4.keep kS kTy
  have n5 := n5.keep kS kTy
  have n6 := n6.keep kS kTy
  clear hBk kS kIn kTy
  have hBk := hBk'
  clear hBk'
  go_wp2_with fail
  refine (putI hBk hHk0 ⟨hsa, by omega, by omega⟩ (by omega) n2).mono ?_
  rintro e wx ⟨rfl, Hkx, Sx, hBk', kS, kIn, kTy⟩
  have hB := keepBoth hBk hB kS kIn hd hgl hrl (by omega)
  have hOk := keepOnly hBk hOk kS kIn (by omega)
  have n1 := n1.keep kS kTy
  have n2 := n2.keep kS kTy
  have n3 := n3.keep kS kTy
  have n4 := n4.keep kS kTy
  have n5 := n5.keep kS kTy
  have n6 := n6.keep kS kTy
  clear hBk kS kIn kTy
  have hBk := hBk'
  clear hBk'
  go_wp2_with fail
  refine (putI hBk hHk0 ⟨hsa, by omega, by omega⟩ (by omega) n3).mono ?_
  rintro e wx ⟨rfl, Hkx, Sx, hBk', kS, kIn, kTy⟩
  have hB := keepBoth hBk hB kS kIn hd hgl hrl (by omega)
  have hOk := keepOnly hBk hOk kS kIn (by omega)
  have n1 := n1.keep kS kTy
  have n2 := n2.keep kS kTy
  have n3 := n3.keep kS kTy
  have n4 := n4.keep kS kTy
  have n5 := n5.keep kS kTy
  have n6 := n6.keep kS kTy
  clear hBk kS kIn kTy
  have hBk := hBk'
  clear hBk'
  go_wp2_with fail
  refine (putI hBk hHk0 ⟨hsa, by omega, by omega⟩ (by omega) n4).mono ?_
  rintro e wx ⟨rfl, Hkx, Sx, hBk', kS, kIn, kTy⟩
  have hB := keepBoth hBk hB kS kIn hd hgl hrl (by omega)
  have hOk := keepOnly hBk hOk kS kIn (by omega)
  have n1 := n1.keep kS kTy
  have n2 := n2.keep kS kTy
  have n3 := n3.keep kS kTy
  have n4 := n4.keep kS kTy
  have n5 := n5.keep kS kTy
  have n6 := n6.keep kS kTy
  clear hBk kS kIn kTy
  have hBk := hBk'
  clear hBk'
  go_wp2_with fail
  refine (putI hBk hHk0 ⟨hsa, by omega, by omega⟩ (by omega) n5).mono ?_
  rintro e wx ⟨rfl, Hkx, Sx, hBk', kS, kIn, kTy⟩
  have hB := keepBoth hBk hB kS kIn hd hgl hrl (by omega)
  have hOk := keepOnly hBk hOk kS kIn (by omega)
  have n1 := n1.keep kS kTy
  have n2 := n2.keep kS kTy
  have n3 := n3.keep kS kTy
  have n4 := n4.keep kS kTy
  have n5 := n5.keep kS kTy
  have n6 := n6.keep kS kTy
  clear hBk kS kIn kTy
  have hBk := hBk'
  clear hBk'
  go_wp2_with fail
  refine (putT hBk hHk0 ⟨hsa, by omega, by omega⟩ (by omega) n6).mono ?_
  rintro e wx ⟨rfl, Hkx, Sx, hBk', kS, kIn, kTy⟩
  have hB := keepBoth hBk hB kS kIn hd hgl hrl (by omega)
  have hOk := keepOnly hBk hOk kS kIn (by omega)
  have n1 := n1.keep kS kTy
  have n2 := n2.keep kS kTy
  have n3 := n3.keep kS kTy
  have n4 := n4.keep kS kTy
  have n5 := n5.keep kS kTy
  have n6 := n6.keep kS kTy
  clear hBk kS kIn kTy
  have hBk := hBk'
  clear hBk'
  -- the flight of the document's group
  have hlen : r.l.length ≤ 1000000 := by have := hB.len; omega
  have HFin := Lib.hid (fun (W : World) (hW : Only [] _ W) => (show STo a w Hg Hr Hk0 gb rb kb g r N W from ⟨_, hB.keep0 hW, hBk.b.keep0 hW, fun b q => by
    rcases hBk.mem b q with y | y | y
    · exact .inl y
    · exact .inr y.1
    · exact .inr (by omega), hOk.trans hW.of_nil⟩))
  clear hBk hOk hHk0 hgl hrl hd
  obtain ⟨⟨vw, vl, hRA, _⟩, _, _⟩ := hB.two.r
  obtain ⟨Aw, cw, hvw, hnw, hcw⟩ := own_form hRA.who
  unfold maxLen at hcw
  have f3 : wx.cell? ⟨rb, 3, none⟩ = some (.slice Aw r.who.length cw) := by rw [← hvw]; exact hRA.blk.cell 3
  have hrbl := hRA.blk.lt
  have swho : Slc wx 1 (.slice Aw r.who.length cw) g.who.length (strs g.who) := by
    rw [hB.rel.who_eq hB.ok, ← hvw]
    exact (Slc.of_own hRA.who).1
  have hwlen : g.who.length = r.who.length := by rw [hB.rel.who_eq hB.ok]
  clear hvw hRA hwlen hO hnw
  have hO : Only [] wx wx := Only.refl _ _
  by_cases hw : who = emptyB
  · have b5 : who.toList.isEmpty = true := by rw [hw, ByteArray.toList_eq]; rfl
    have hfe : g.fl who = [] := by
      refine fl_none ?_
      cases q : g.is who
      · rfl
      · exact absurd hw (hB.rel.whoN _ ((hB.rel.whoM who).2 q))
    have HSf := Lib.hid (fun (W : World) (hW : Only [] wx W) => sameI_refl (l := g.fl who) (v2 := .slice none 0 0) (n1.keep0 hW).slc (by rw [hfe]; exact Slc.nil _ _))
    clear hw hfe
    go_wp2
    clear n1
    go_loopw [16] (fun iv wr => ∃ j : Nat, j ≤ r.l.length ∧ j ≤ 60 ∧ iv = .int .i64 j ∧ Only [] wx wr) (fun iv _ => r.l.length - (intOf iv).toNat)
    case atStart => exact ⟨0, Nat.zero_le _, by omega, rfl, hO⟩
    case round =>
      clear hO
      obtain ⟨j, hj, hj6, rfl, hO⟩ := hrel
      have hR := hB.two.r.keep0 hO
      by_cases hlt : j < r.l.length ∧ j < 60
      · obtain ⟨hlt, hlt6⟩ := hlt
        have hlt6' : (j : Int) < 60 := by omega
        obtain ⟨b, off, cl, f4, hle, hcap, c0, c1, c2, c3⟩ := hR.item j hlt
        obtain ⟨x, hx⟩ : ∃ x, x = r.l[j] := ⟨_, rfl⟩
        rw [← hx] at c0 c1 c2 c3
        have HT1 := Lib.hid (fun (W : World) (hW : Only [] wr W) => in_tries (hB.two.g.keep0 (hO.trans hW)) x.n)
        have HT2 := Lib.hid (fun (W : World) (hW : Only [] wr W) => (rtries_any (hR.keep0 hW) x.n).mono fun e w' (q : _ ∧ _) => (show e = .returned (.int .i64 (g.tr x.n)) ∧ Only [] W w' from ⟨by rw [hB.rel.tries]; exact q.1, q.2⟩))
        have d4 := Within.cell (S := []) f4 (by simp)
        have d0 := Within.cell (S := []) c0 (by simp)
        clear hx c0 c1 c2 c3 hR
        go_wp2_with fail
        refine wp_region_in [] [0, 1, 2, 3, 4, 5, 6, 7, 8, 10, 11, 12, 13, 14, 15, 16, 17, 18] [9, 19, 20] [] (by kernel_rfl) (by kernel_rfl) (by intro c d u a w h; cases d <;> exact h) ?_
        show wpQuiet _ _ _ _ [_, _, _, _, _, _, _, _, _, _, _, _, _, _, _, _, _, _] _
        repeat (go_big_quiet_step (fail))
        refine wpQuiet_nil ?_
        clear d4 d0 f4
        show wpList _ _ _ [_] _ _
        go_wp2_with fail
        refine (HT1.out _ (Only.refl _ _).drew).mono ?_
        rintro e w8 ⟨rfl, rfl⟩
        go_wp2_with fail
        refine check_of (S := []) (Only.refl _ _).drew ?_
        show wpList _ _ _ [_] _ _
        go_wp2_with fail
        refine (HT2.out _ (Only.refl _ _).drew).mono ?_
        rintro e w9 ⟨rfl, k9⟩
        have k9' := (Only.refl [] wr).drew.trans k9
        go_wp2_with fail
        refine check_of (S := []) k9' ?_
        show wpList _ _ _ [_] _ _
        go_wp2_with fail
        refine check_last (S := []) k9' (fun _ _ q => q) ?_
        clear HT1 HT2 k9
        go_wp2
        exact ⟨⟨j + 1, hlt, hlt6, by simp, hO.trans k9'⟩, by simp [intOf]; omega⟩
      · obtain ⟨A0, cl0, f4, hle, hcap⟩ := hR.len
        have hx : ¬ (j : Int) < r.l.length ∨ ¬ (j : Int) < 60 := by
          by_cases q : j < r.l.length
          · exact .inr (by omega)
          · exact .inl (by omega)
        clear hlt hR
        rcases hx with hx | hx
        · go_wp2_with fail
          refine (HSf.out _ hO).mono ?_
          rintro e wz ⟨rfl, kz⟩
          have hO := hO.trans kz
          go_wp2_with fail
          refine ((rlist_any (hB.two.r.keep0 hO) 4 ⟨#[]⟩ hlen).mono fun e w' q => rowAt_of q).mono ?_
          rintro e wy ⟨Ay, cy, rfl, sy, ky⟩
          rw [← hB.rel.pa_eq hB.ok ⟨#[]⟩] at sy
          have hO := hO.trans ky
          have HSi := Lib.hid (sameI_refl (l := g.parked) (n2.keep0 hO).slc sy)
          go_wp2_with fail
          rw [← hB.rel.pa_eq hB.ok ⟨#[]⟩]
          refine HSi.out.mono ?_
          rintro e wz ⟨rfl, kz⟩
          have hO := hO.trans kz
          clear HSi sy ky kz
          skip
          go_wp2_with fail
          refine ((rlist_any (hB.two.r.keep0 hO) 5 ⟨#[]⟩ hlen).mono fun e w' q => rowAt_of q).mono ?_
          rintro e wy ⟨Ay, cy, rfl, sy, ky⟩
          rw [← hB.rel.sk_eq hB.ok ⟨#[]⟩] at sy
          have hO := hO.trans ky
          have HSi := Lib.hid (sameI_refl (l := g.skipped) (n3.keep0 hO).slc sy)
          go_wp2_with fail
          rw [← hB.rel.sk_eq hB.ok ⟨#[]⟩]
          refine HSi.out.mono ?_
          rintro e wz ⟨rfl, kz⟩
          have hO := hO.trans kz
          clear HSi sy ky kz
          skip
          go_wp2_with fail
          refine ((rlist_any (hB.two.r.keep0 hO) 3 ⟨#[]⟩ hlen).mono fun e w' q => rowAt_of q).mono ?_
          rintro e wy ⟨Ay, cy, rfl, sy, ky⟩
          rw [← hB.rel.ac_eq hB.ok ⟨#[]⟩] at sy
          have hO := hO.trans ky
          have HSi := Lib.hid (sameI_refl (l := g.acked) (n4.keep0 hO).slc sy)
          go_wp2_with fail
          rw [← hB.rel.ac_eq hB.ok ⟨#[]⟩]
          refine HSi.out.mono ?_
          rintro e wz ⟨rfl, kz⟩
          have hO := hO.trans kz
          clear HSi sy ky kz
          skip
          go_wp2_with fail
          refine ((rlist_any (hB.two.r.keep0 hO) 1 ⟨#[]⟩ hlen).mono fun e w' q => rowAt_of q).mono ?_
          rintro e wy ⟨Ay, cy, rfl, sy, ky⟩
          rw [← hB.rel.wa_eq hB.ok ⟨#[]⟩] at sy
          have hO := hO.trans ky
          have HSi := Lib.hid (sameI_refl (l := g.waiting) (n5.keep0 hO).slc sy)
          go_wp2_with fail
          rw [← hB.rel.wa_eq hB.ok ⟨#[]⟩]
          refine HSi.out.mono ?_
          rintro e wz ⟨rfl, kz⟩
          have hO := hO.trans kz
          clear HSi sy ky kz
          have f3' := (hO.cell (show rb < _ from hrbl) (by simp)).trans f3
          have HSt := Lib.hid (sameT_refl (l := g.who) (n6.keep0 hO).slc (swho.only hO (by simp)))
          go_wp2_with fail
          refine HSt.out.mono ?_
          rintro e wt ⟨rfl, kt⟩
          have hO := hO.trans kt
          clear HSt f3'
          go_wp2_with fail
          refine (in_ckpt (hB.two.g.keep0 hO) (by omega)).mono ?_
          rintro e wu ⟨rfl, ku⟩
          have hO := hO.trans ku
          go_wp2_with fail
          refine (rckpt_any (hB.two.r.keep0 hO) ⟨hB.from_.1, hB.from_.2, hlen⟩).mono ?_
          rintro e wv ⟨rfl, kv⟩
          have hO := hO.trans kv
          rw [← hB.rel.ckpt hB.ok]
          go_wp2_with fail
          refine (in_tries (hB.two.g.keep0 hO) (-1)).mono ?_
          rintro e ww ⟨rfl, rfl⟩
          rw [hB.rel.tries1 hB.ok]
          go_wp2
          go_ret
          exact ⟨rfl, HFin.out _ hO⟩
        · by_cases hx2 : (j : Int) < r.l.length
          · go_wp2_with fail
            refine (HSf.out _ hO).mono ?_
            rintro e wz ⟨rfl, kz⟩
            have hO := hO.trans kz
            go_wp2_with fail
            refine ((rlist_any (hB.two.r.keep0 hO) 4 ⟨#[]⟩ hlen).mono fun e w' q => rowAt_of q).mono ?_
            rintro e wy ⟨Ay, cy, rfl, sy, ky⟩
            rw [← hB.rel.pa_eq hB.ok ⟨#[]⟩] at sy
            have hO := hO.trans ky
            have HSi := Lib.hid (sameI_refl (l := g.parked) (n2.keep0 hO).slc sy)
            go_wp2_with fail
            rw [← hB.rel.pa_eq hB.ok ⟨#[]⟩]
            refine HSi.out.mono ?_
            rintro e wz ⟨rfl, kz⟩
            have hO := hO.trans kz
            clear HSi sy ky kz
            skip
            go_wp2_with fail
            refine ((rlist_any (hB.two.r.keep0 hO) 5 ⟨#[]⟩ hlen).mono fun e w' q => rowAt_of q).mono ?_
            rintro e wy ⟨Ay, cy, rfl, sy, ky⟩
            rw [← hB.rel.sk_eq hB.ok ⟨#[]⟩] at sy
            have hO := hO.trans ky
            have HSi := Lib.hid (sameI_refl (l := g.skipped) (n3.keep0 hO).slc sy)
            go_wp2_with fail
            rw [← hB.rel.sk_eq hB.ok ⟨#[]⟩]
            refine HSi.out.mono ?_
            rintro e wz ⟨rfl, kz⟩
            have hO := hO.trans kz
            clear HSi sy ky kz
            skip
            go_wp2_with fail
            refine ((rlist_any (hB.two.r.keep0 hO) 3 ⟨#[]⟩ hlen).mono fun e w' q => rowAt_of q).mono ?_
            rintro e wy ⟨Ay, cy, rfl, sy, ky⟩
            rw [← hB.rel.ac_eq hB.ok ⟨#[]⟩] at sy
            have hO := hO.trans ky
            have HSi := Lib.hid (sameI_refl (l := g.acked) (n4.keep0 hO).slc sy)
            go_wp2_with fail
            rw [← hB.rel.ac_eq hB.ok ⟨#[]⟩]
            refine HSi.out.mono ?_
            rintro e wz ⟨rfl, kz⟩
            have hO := hO.trans kz
            clear HSi sy ky kz
            skip
            go_wp2_with fail
            refine ((rlist_any (hB.two.r.keep0 hO) 1 ⟨#[]⟩ hlen).mono fun e w' q => rowAt_of q).mono ?_
            rintro e wy ⟨Ay, cy, rfl, sy, ky⟩
            rw [← hB.rel.wa_eq hB.ok ⟨#[]⟩] at sy
            have hO := hO.trans ky
            have HSi := Lib.hid (sameI_refl (l := g.waiting) (n5.keep0 hO).slc sy)
            go_wp2_with fail
            rw [← hB.rel.wa_eq hB.ok ⟨#[]⟩]
            refine HSi.out.mono ?_
            rintro e wz ⟨rfl, kz⟩
            have hO := hO.trans kz
            clear HSi sy ky kz
            have f3' := (hO.cell (show rb < _ from hrbl) (by simp)).trans f3
            have HSt := Lib.hid (sameT_refl (l := g.who) (n6.keep0 hO).slc (swho.only hO (by simp)))
            go_wp2_with fail
            refine HSt.out.mono ?_
            rintro e wt ⟨rfl, kt⟩
            have hO := hO.trans kt
            clear HSt f3'
            go_wp2_with fail
            refine (in_ckpt (hB.two.g.keep0 hO) (by omega)).mono ?_
            rintro e wu ⟨rfl, ku⟩
            have hO := hO.trans ku
            go_wp2_with fail
            refine (rckpt_any (hB.two.r.keep0 hO) ⟨hB.from_.1, hB.from_.2, hlen⟩).mono ?_
            rintro e wv ⟨rfl, kv⟩
            have hO := hO.trans kv
            rw [← hB.rel.ckpt hB.ok]
            go_wp2_with fail
            refine (in_tries (hB.two.g.keep0 hO) (-1)).mono ?_
            rintro e ww ⟨rfl, rfl⟩
            rw [hB.rel.tries1 hB.ok]
            go_wp2
            go_ret
            exact ⟨rfl, HFin.out _ hO⟩
          · go_wp2_with fail
            refine (HSf.out _ hO).mono ?_
            rintro e wz ⟨rfl, kz⟩
            have hO := hO.trans kz
            go_wp2_with fail
            refine ((rlist_any (hB.two.r.keep0 hO) 4 ⟨#[]⟩ hlen).mono fun e w' q => rowAt_of q).mono ?_
            rintro e wy ⟨Ay, cy, rfl, sy, ky⟩
            rw [← hB.rel.pa_eq hB.ok ⟨#[]⟩] at sy
            have hO := hO.trans ky
            have HSi := Lib.hid (sameI_refl (l := g.parked) (n2.keep0 hO).slc sy)
            go_wp2_with fail
            rw [← hB.rel.pa_eq hB.ok ⟨#[]⟩]
            refine HSi.out.mono ?_
            rintro e wz ⟨rfl, kz⟩
            have hO := hO.trans kz
            clear HSi sy ky kz
            skip
            go_wp2_with fail
            refine ((rlist_any (hB.two.r.keep0 hO) 5 ⟨#[]⟩ hlen).mono fun e w' q => rowAt_of q).mono ?_
            rintro e wy ⟨Ay, cy, rfl, sy, ky⟩
            rw [← hB.rel.sk_eq hB.ok ⟨#[]⟩] at sy
            have hO := hO.trans ky
            have HSi := Lib.hid (sameI_refl (l := g.skipped) (n3.keep0 hO).slc sy)
            go_wp2_with fail
            rw [← hB.rel.sk_eq hB.ok ⟨#[]⟩]
            refine HSi.out.mono ?_
            rintro e wz ⟨rfl, kz⟩
            have hO := hO.trans kz
            clear HSi sy ky kz
            skip
            go_wp2_with fail
            refine ((rlist_any (hB.two.r.keep0 hO) 3 ⟨#[]⟩ hlen).mono fun e w' q => rowAt_of q).mono ?_
            rintro e wy ⟨Ay, cy, rfl, sy, ky⟩
            rw [← hB.rel.ac_eq hB.ok ⟨#[]⟩] at sy
            have hO := hO.trans ky
            have HSi := Lib.hid (sameI_refl (l := g.acked) (n4.keep0 hO).slc sy)
            go_wp2_with fail
            rw [← hB.rel.ac_eq hB.ok ⟨#[]⟩]
            refine HSi.out.mono ?_
            rintro e wz ⟨rfl, kz⟩
            have hO := hO.trans kz
            clear HSi sy ky kz
            skip
            go_wp2_with fail
            refine ((rlist_any (hB.two.r.keep0 hO) 1 ⟨#[]⟩ hlen).mono fun e w' q => rowAt_of q).mono ?_
            rintro e wy ⟨Ay, cy, rfl, sy, ky⟩
            rw [← hB.rel.wa_eq hB.ok ⟨#[]⟩] at sy
            have hO := hO.trans ky
            have HSi := Lib.hid (sameI_refl (l := g.waiting) (n5.keep0 hO).slc sy)
            go_wp2_with fail
            rw [← hB.rel.wa_eq hB.ok ⟨#[]⟩]
            refine HSi.out.mono ?_
            rintro e wz ⟨rfl, kz⟩
            have hO := hO.trans kz
            clear HSi sy ky kz
            have f3' := (hO.cell (show rb < _ from hrbl) (by simp)).trans f3
            have HSt := Lib.hid (sameT_refl (l := g.who) (n6.keep0 hO).slc (swho.only hO (by simp)))
            go_wp2_with fail
            refine HSt.out.mono ?_
            rintro e wt ⟨rfl, kt⟩
            have hO := hO.trans kt
            clear HSt f3'
            go_wp2_with fail
            refine (in_ckpt (hB.two.g.keep0 hO) (by omega)).mono ?_
            rintro e wu ⟨rfl, ku⟩
            have hO := hO.trans ku
            go_wp2_with fail
            refine (rckpt_any (hB.two.r.keep0 hO) ⟨hB.from_.1, hB.from_.2, hlen⟩).mono ?_
            rintro e wv ⟨rfl, kv⟩
            have hO := hO.trans kv
            rw [← hB.rel.ckpt hB.ok]
            go_wp2_with fail
            refine (in_tries (hB.two.g.keep0 hO) (-1)).mono ?_
            rintro e ww ⟨rfl, rfl⟩
            rw [hB.rel.tries1 hB.ok]
            go_wp2
            go_ret
            exact ⟨rfl, HFin.out _ hO⟩
  · have b5 : who.toList.isEmpty = false := by
      cases hz : who.toList.isEmpty
      · rfl
      · exact absurd (ByteArray.ext (Array.toList_inj.1 (by rw [ByteArray.toList_eq] at hz; simpa [emptyB] using hz))) hw
    have HLf := Lib.hid ((rlist_any (hB.two.r.keep0 hO) 2 who hlen).mono fun e w' q => rowAt_of q)
    rw [← hB.rel.fl_eq hB.ok who] at HLf
    clear hw
    go_wp2_with fail
    refine HLf.out.mono ?_
    rintro e wf ⟨Af, cf, rfl, sf, kf⟩
    have HSf := Lib.hid (fun (W : World) (hW : Only [] wf W) => sameI_refl (l := g.fl who) (n1.keep0 (kf.trans hW)).slc (sf.only hW (by simp)))
    have hO := kf
    have f30 := f3
    go_wp2
    clear n1 f3
    have f3 := f30
    go_loopw [16] (fun iv wr => ∃ j : Nat, j ≤ r.l.length ∧ j ≤ 60 ∧ iv = .int .i64 j ∧ Only [] wx wr ∧ Only [] wf wr) (fun iv _ => r.l.length - (intOf iv).toNat)
    case atStart => exact ⟨0, Nat.zero_le _, by omega, rfl, hO, Only.refl _ _⟩
    case round =>
      clear hO
      obtain ⟨j, hj, hj6, rfl, hO, hOf⟩ := hrel
      have hR := hB.two.r.keep0 hO
      by_cases hlt : j < r.l.length ∧ j < 60
      · obtain ⟨hlt, hlt6⟩ := hlt
        have hlt6' : (j : Int) < 60 := by omega
        obtain ⟨b, off, cl, f4, hle, hcap, c0, c1, c2, c3⟩ := hR.item j hlt
        obtain ⟨x, hx⟩ : ∃ x, x = r.l[j] := ⟨_, rfl⟩
        rw [← hx] at c0 c1 c2 c3
        have HT1 := Lib.hid (fun (W : World) (hW : Only [] wr W) => in_tries (hB.two.g.keep0 (hO.trans hW)) x.n)
        have HT2 := Lib.hid (fun (W : World) (hW : Only [] wr W) => (rtries_any (hR.keep0 hW) x.n).mono fun e w' (q : _ ∧ _) => (show e = .returned (.int .i64 (g.tr x.n)) ∧ Only [] W w' from ⟨by rw [hB.rel.tries]; exact q.1, q.2⟩))
        have d4 := Within.cell (S := []) f4 (by simp)
        have d0 := Within.cell (S := []) c0 (by simp)
        clear hx c0 c1 c2 c3 hR
        go_wp2_with fail
        refine wp_region_in [] [0, 1, 2, 3, 4, 5, 6, 7, 8, 10, 11, 12, 13, 14, 15, 16, 17, 18] [9, 19, 20] [] (by kernel_rfl) (by kernel_rfl) (by intro c d u a w h; cases d <;> exact h) ?_
        show wpQuiet _ _ _ _ [_, _, _, _, _, _, _, _, _, _, _, _, _, _, _, _, _, _] _
        repeat (go_big_quiet_step (fail))
        refine wpQuiet_nil ?_
        clear d4 d0 f4
        show wpList _ _ _ [_] _ _
        go_wp2_with fail
        refine (HT1.out _ (Only.refl _ _).drew).mono ?_
        rintro e w8 ⟨rfl, rfl⟩
        go_wp2_with fail
        refine check_of (S := []) (Only.refl _ _).drew ?_
        show wpList _ _ _ [_] _ _
        go_wp2_with fail
        refine (HT2.out _ (Only.refl _ _).drew).mono ?_
        rintro e w9 ⟨rfl, k9⟩
        have k9' := (Only.refl [] wr).drew.trans k9
        go_wp2_with fail
        refine check_of (S := []) k9' ?_
        show wpList _ _ _ [_] _ _
        go_wp2_with fail
        refine check_last (S := []) k9' (fun _ _ q => q) ?_
        clear HT1 HT2 k9
        go_wp2
        exact ⟨⟨j + 1, hlt, hlt6, by simp, hO.trans k9', hOf.trans k9'⟩, by simp [intOf]; omega⟩
      · obtain ⟨A0, cl0, f4, hle, hcap⟩ := hR.len
        have hx : ¬ (j : Int) < r.l.length ∨ ¬ (j : Int) < 60 := by
          by_cases q : j < r.l.length
          · exact .inr (by omega)
          · exact .inl (by omega)
        clear hlt hR
        rcases hx with hx | hx
        · go_wp2_with fail
          refine (HSf.out _ hOf).mono ?_
          rintro e wz ⟨rfl, kz⟩
          have hO := hO.trans kz
          go_wp2_with fail
          refine ((rlist_any (hB.two.r.keep0 hO) 4 ⟨#[]⟩ hlen).mono fun e w' q => rowAt_of q).mono ?_
          rintro e wy ⟨Ay, cy, rfl, sy, ky⟩
          rw [← hB.rel.pa_eq hB.ok ⟨#[]⟩] at sy
          have hO := hO.trans ky
          have HSi := Lib.hid (sameI_refl (l := g.parked) (n2.keep0 hO).slc sy)
          go_wp2_with fail
          rw [← hB.rel.pa_eq hB.ok ⟨#[]⟩]
          refine HSi.out.mono ?_
          rintro e wz ⟨rfl, kz⟩
          have hO := hO.trans kz
          clear HSi sy ky kz
          skip
          go_wp2_with fail
          refine ((rlist_any (hB.two.r.keep0 hO) 5 ⟨#[]⟩ hlen).mono fun e w' q => rowAt_of q).mono ?_
          rintro e wy ⟨Ay, cy, rfl, sy, ky⟩
          rw [← hB.rel.sk_eq hB.ok ⟨#[]⟩] at sy
          have hO := hO.trans ky
          have HSi := Lib.hid (sameI_refl (l := g.skipped) (n3.keep0 hO).slc sy)
          go_wp2_with fail
          rw [← hB.rel.sk_eq hB.ok ⟨#[]⟩]
          refine HSi.out.mono ?_
          rintro e wz ⟨rfl, kz⟩
          have hO := hO.trans kz
          clear HSi sy ky kz
          skip
          go_wp2_with fail
          refine ((rlist_any (hB.two.r.keep0 hO) 3 ⟨#[]⟩ hlen).mono fun e w' q => rowAt_of q).mono ?_
          rintro e wy ⟨Ay, cy, rfl, sy, ky⟩
          rw [← hB.rel.ac_eq hB.ok ⟨#[]⟩] at sy
          have hO := hO.trans ky
          have HSi := Lib.hid (sameI_refl (l := g.acked) (n4.keep0 hO).slc sy)
          go_wp2_with fail
          rw [← hB.rel.ac_eq hB.ok ⟨#[]⟩]
          refine HSi.out.mono ?_
          rintro e wz ⟨rfl, kz⟩
          have hO := hO.trans kz
          clear HSi sy ky kz
          skip
          go_wp2_with fail
          refine ((rlist_any (hB.two.r.keep0 hO) 1 ⟨#[]⟩ hlen).mono fun e w' q => rowAt_of q).mono ?_
          rintro e wy ⟨Ay, cy, rfl, sy, ky⟩
          rw [← hB.rel.wa_eq hB.ok ⟨#[]⟩] at sy
          have hO := hO.trans ky
          have HSi := Lib.hid (sameI_refl (l := g.waiting) (n5.keep0 hO).slc sy)
          go_wp2_with fail
          rw [← hB.rel.wa_eq hB.ok ⟨#[]⟩]
          refine HSi.out.mono ?_
          rintro e wz ⟨rfl, kz⟩
          have hO := hO.trans kz
          clear HSi sy ky kz
          have f3' := (hO.cell (show rb < _ from hrbl) (by simp)).trans f3
          have HSt := Lib.hid (sameT_refl (l := g.who) (n6.keep0 hO).slc (swho.only hO (by simp)))
          go_wp2_with fail
          refine HSt.out.mono ?_
          rintro e wt ⟨rfl, kt⟩
          have hO := hO.trans kt
          clear HSt f3'
          go_wp2_with fail
          refine (in_ckpt (hB.two.g.keep0 hO) (by omega)).mono ?_
          rintro e wu ⟨rfl, ku⟩
          have hO := hO.trans ku
          go_wp2_with fail
          refine (rckpt_any (hB.two.r.keep0 hO) ⟨hB.from_.1, hB.from_.2, hlen⟩).mono ?_
          rintro e wv ⟨rfl, kv⟩
          have hO := hO.trans kv
          rw [← hB.rel.ckpt hB.ok]
          go_wp2_with fail
          refine (in_tries (hB.two.g.keep0 hO) (-1)).mono ?_
          rintro e ww ⟨rfl, rfl⟩
          rw [hB.rel.tries1 hB.ok]
          go_wp2
          go_ret
          exact ⟨rfl, HFin.out _ hO⟩
        · by_cases hx2 : (j : Int) < r.l.length
          · go_wp2_with fail
            refine (HSf.out _ hOf).mono ?_
            rintro e wz ⟨rfl, kz⟩
            have hO := hO.trans kz
            go_wp2_with fail
            refine ((rlist_any (hB.two.r.keep0 hO) 4 ⟨#[]⟩ hlen).mono fun e w' q => rowAt_of q).mono ?_
            rintro e wy ⟨Ay, cy, rfl, sy, ky⟩
            rw [← hB.rel.pa_eq hB.ok ⟨#[]⟩] at sy
            have hO := hO.trans ky
            have HSi := Lib.hid (sameI_refl (l := g.parked) (n2.keep0 hO).slc sy)
            go_wp2_with fail
            rw [← hB.rel.pa_eq hB.ok ⟨#[]⟩]
            refine HSi.out.mono ?_
            rintro e wz ⟨rfl, kz⟩
            have hO := hO.trans kz
            clear HSi sy ky kz
            skip
            go_wp2_with fail
            refine ((rlist_any (hB.two.r.keep0 hO) 5 ⟨#[]⟩ hlen).mono fun e w' q => rowAt_of q).mono ?_
            rintro e wy ⟨Ay, cy, rfl, sy, ky⟩
            rw [← hB.rel.sk_eq hB.ok ⟨#[]⟩] at sy
            have hO := hO.trans ky
            have HSi := Lib.hid (sameI_refl (l := g.skipped) (n3.keep0 hO).slc sy)
            go_wp2_with fail
            rw [← hB.rel.sk_eq hB.ok ⟨#[]⟩]
            refine HSi.out.mono ?_
            rintro e wz ⟨rfl, kz⟩
            have hO := hO.trans kz
            clear HSi sy ky kz
            skip
            go_wp2_with fail
            refine ((rlist_any (hB.two.r.keep0 hO) 3 ⟨#[]⟩ hlen).mono fun e w' q => rowAt_of q).mono ?_
            rintro e wy ⟨Ay, cy, rfl, sy, ky⟩
            rw [← hB.rel.ac_eq hB.ok ⟨#[]⟩] at sy
            have hO := hO.trans ky
            have HSi := Lib.hid (sameI_refl (l := g.acked) (n4.keep0 hO).slc sy)
            go_wp2_with fail
            rw [← hB.rel.ac_eq hB.ok ⟨#[]⟩]
            refine HSi.out.mono ?_
            rintro e wz ⟨rfl, kz⟩
            have hO := hO.trans kz
            clear HSi sy ky kz
            skip
            go_wp2_with fail
            refine ((rlist_any (hB.two.r.keep0 hO) 1 ⟨#[]⟩ hlen).mono fun e w' q => rowAt_of q).mono ?_
            rintro e wy ⟨Ay, cy, rfl, sy, ky⟩
            rw [← hB.rel.wa_eq hB.ok ⟨#[]⟩] at sy
            have hO := hO.trans ky
            have HSi := Lib.hid (sameI_refl (l := g.waiting) (n5.keep0 hO).slc sy)
            go_wp2_with fail
            rw [← hB.rel.wa_eq hB.ok ⟨#[]⟩]
            refine HSi.out.mono ?_
            rintro e wz ⟨rfl, kz⟩
            have hO := hO.trans kz
            clear HSi sy ky kz
            have f3' := (hO.cell (show rb < _ from hrbl) (by simp)).trans f3
            have HSt := Lib.hid (sameT_refl (l := g.who) (n6.keep0 hO).slc (swho.only hO (by simp)))
            go_wp2_with fail
            refine HSt.out.mono ?_
            rintro e wt ⟨rfl, kt⟩
            have hO := hO.trans kt
            clear HSt f3'
            go_wp2_with fail
            refine (in_ckpt (hB.two.g.keep0 hO) (by omega)).mono ?_
            rintro e wu ⟨rfl, ku⟩
            have hO := hO.trans ku
            go_wp2_with fail
            refine (rckpt_any (hB.two.r.keep0 hO) ⟨hB.from_.1, hB.from_.2, hlen⟩).mono ?_
            rintro e wv ⟨rfl, kv⟩
            have hO := hO.trans kv
            rw [← hB.rel.ckpt hB.ok]
            go_wp2_with fail
            refine (in_tries (hB.two.g.keep0 hO) (-1)).mono ?_
            rintro e ww ⟨rfl, rfl⟩
            rw [hB.rel.tries1 hB.ok]
            go_wp2
            go_ret
            exact ⟨rfl, HFin.out _ hO⟩
          · go_wp2_with fail
            refine (HSf.out _ hOf).mono ?_
            rintro e wz ⟨rfl, kz⟩
            have hO := hO.trans kz
            go_wp2_with fail
            refine ((rlist_any (hB.two.r.keep0 hO) 4 ⟨#[]⟩ hlen).mono fun e w' q => rowAt_of q).mono ?_
            rintro e wy ⟨Ay, cy, rfl, sy, ky⟩
            rw [← hB.rel.pa_eq hB.ok ⟨#[]⟩] at sy
            have hO := hO.trans ky
            have HSi := Lib.hid (sameI_refl (l := g.parked) (n2.keep0 hO).slc sy)
            go_wp2_with fail
            rw [← hB.rel.pa_eq hB.ok ⟨#[]⟩]
            refine HSi.out.mono ?_
            rintro e wz ⟨rfl, kz⟩
            have hO := hO.trans kz
            clear HSi sy ky kz
            skip
            go_wp2_with fail
            refine ((rlist_any (hB.two.r.keep0 hO) 5 ⟨#[]⟩ hlen).mono fun e w' q => rowAt_of q).mono ?_
            rintro e wy ⟨Ay, cy, rfl, sy, ky⟩
            rw [← hB.rel.sk_eq hB.ok ⟨#[]⟩] at sy
            have hO := hO.trans ky
            have HSi := Lib.hid (sameI_refl (l := g.skipped) (n3.keep0 hO).slc sy)
            go_wp2_with fail
            rw [← hB.rel.sk_eq hB.ok ⟨#[]⟩]
            refine HSi.out.mono ?_
            rintro e wz ⟨rfl, kz⟩
            have hO := hO.trans kz
            clear HSi sy ky kz
            skip
            go_wp2_with fail
            refine ((rlist_any (hB.two.r.keep0 hO) 3 ⟨#[]⟩ hlen).mono fun e w' q => rowAt_of q).mono ?_
            rintro e wy ⟨Ay, cy, rfl, sy, ky⟩
            rw [← hB.rel.ac_eq hB.ok ⟨#[]⟩] at sy
            have hO := hO.trans ky
            have HSi := Lib.hid (sameI_refl (l := g.acked) (n4.keep0 hO).slc sy)
            go_wp2_with fail
            rw [← hB.rel.ac_eq hB.ok ⟨#[]⟩]
            refine HSi.out.mono ?_
            rintro e wz ⟨rfl, kz⟩
            have hO := hO.trans kz
            clear HSi sy ky kz
            skip
            go_wp2_with fail
            refine ((rlist_any (hB.two.r.keep0 hO) 1 ⟨#[]⟩ hlen).mono fun e w' q => rowAt_of q).mono ?_
            rintro e wy ⟨Ay, cy, rfl, sy, ky⟩
            rw [← hB.rel.wa_eq hB.ok ⟨#[]⟩] at sy
            have hO := hO.trans ky
            have HSi := Lib.hid (sameI_refl (l := g.waiting) (n5.keep0 hO).slc sy)
            go_wp2_with fail
            rw [← hB.rel.wa_eq hB.ok ⟨#[]⟩]
            refine HSi.out.mono ?_
            rintro e wz ⟨rfl, kz⟩
            have hO := hO.trans kz
            clear HSi sy ky kz
            have f3' := (hO.cell (show rb < _ from hrbl) (by simp)).trans f3
            have HSt := Lib.hid (sameT_refl (l := g.who) (n6.keep0 hO).slc (swho.only hO (by simp)))
            go_wp2_with fail
            refine HSt.out.mono ?_
            rintro e wt ⟨rfl, kt⟩
            have hO := hO.trans kt
            clear HSt f3'
            go_wp2_with fail
            refine (in_ckpt (hB.two.g.keep0 hO) (by omega)).mono ?_
            rintro e wu ⟨rfl, ku⟩
            have hO := hO.trans ku
            go_wp2_with fail
            refine (rckpt_any (hB.two.r.keep0 hO) ⟨hB.from_.1, hB.from_.2, hlen⟩).mono ?_
            rintro e wv ⟨rfl, kv⟩
            have hO := hO.trans kv
            rw [← hB.rel.ckpt hB.ok]
            go_wp2_with fail
            refine (in_tries (hB.two.g.keep0 hO) (-1)).mono ?_
            rintro e ww ⟨rfl, rfl⟩
            rw [hB.rel.tries1 hB.ok]
            go_wp2
            go_ret
            exact ⟨rfl, HFin.out _ hO⟩
end
end Go.Proofs.YthjgplgfcbhihaaGreat
/- GroupPlays: what lies beside each other; a bad Config; an empty book. -/
set_option linter.unusedVariables false
set_option linter.unusedSimpArgs false
namespace Go.Proofs.YthjgplgfcbhihaaGreat
open Go.RowKit Go Go.Sort Go.Lib
theorem in_copy {a w : World} {H : List Nat} {gb N : Nat} {g : GS} (h : HasG a w H gb g N) (hN : N ≤ 1000) :
    Calls Tryz.prog 8 #[.pointer (some ⟨gb, 0, none⟩)] w fun e w' => ∃ cb H', e = .returned (.pointer (some ⟨cb, 0, none⟩)) ∧ HasG a w' H' cb g N ∧ Only [] w w' ∧ ∀ x ∈ H', w.heap.size ≤ x := by
  obtain ⟨⟨fb, tb, vw, vp, va, vs, pf, h1, rfl, hok, hnm⟩, ho, hab⟩ := h
  exact (copy_any h1 hok (by omega)).mono fun e w' ⟨cb, fb', tb', v1, v2, v3, v4, pf', e1, q1, q2, q3⟩ => ⟨cb, _, e1, ⟨⟨fb', tb', v1, v2, v3, v4, pf', q1, rfl, hok, hnm⟩, ho.trans q3, fun x hx => Nat.le_trans ho.size (q2 x hx)⟩, q3, q2⟩
section
variable {a w w' : World} {H H' Hg Hr Hk : List Nat} {gb rb kb N : Nat} {g : GS} {r : RG}
theorem Both.other (hB : Both a w Hg Hr gb rb g r N) (k : Stepped w w' H H') (ha : ∀ b ∈ H, a.heap.size ≤ b) (hd : ∀ b ∈ H, b ∉ Hg ∧ b ∉ Hr) : Both a w' Hg Hr gb rb g r N ∧ ∀ b ∈ H', b ∉ Hg ∧ b ∉ Hr := by
  obtain ⟨q1, q2⟩ := hB.two.g.other k ha (fun b z y => (hd b y).1 z)
  obtain ⟨q3, q4⟩ := hB.two.r.other k ha (fun b z y => (hd b y).2 z)
  exact ⟨⟨⟨q1, q3, hB.two.dis⟩, hB.rel, hB.tid, hB.tr⟩, fun b z => ⟨fun y => q2 b y z, fun y => q4 b y z⟩⟩
theorem HasB.other (hB : HasB a w Hk kb) (k : Stepped w w' H H') (ha : ∀ b ∈ H, a.heap.size ≤ b) (hd : ∀ b ∈ H, b ∉ Hk) : HasB a w' Hk kb ∧ ∀ b ∈ H', b ∉ Hk := by
  obtain ⟨⟨S, hS, hSH⟩, hb⟩ := k
  refine ⟨hB.keep hS (fun b q => ha b (hSH b q)) (fun b q z => hd b (hSH b z) q), fun b q z => ?_⟩
  rcases hb b q with y | y
  · exact hd b y z
  · have := hB.lt b z
    omega
theorem blkOther {bx : Nat} {t : TypeId} {cs : Array Value} (hb : Blk w bx t cs) (k : Stepped w w' H H') (hd : bx ∉ H) : Blk w' bx t cs ∧ bx ∉ H' := by
  have hl := hb.lt
  obtain ⟨⟨S, hS, hSH⟩, hbb⟩ := k
  refine ⟨hS.blk hb (fun q => hd (hSH _ q)), fun z => ?_⟩
  rcases hbb _ z with y | y
  · exact hd y
  · omega
theorem HasB.empty {kb : Nat} (ho : Only [] a w) (hb : Blk w kb 42 #[.slice none 0 0, .slice none 0 0, .slice none 0 0, .slice none 0 0, .slice none 0 0, .slice none 0 0, .slice none 0 0, .slice none 0 0, .slice none 0 0, .slice none 0 0, .slice none 0 0, .slice none 0 0]) (hk : a.heap.size ≤ kb) : HasB a w [kb] kb :=
  ⟨⟨.slice none 0 0, .slice none 0 0, .slice none 0 0, .slice none 0 0, [], [], [], [], ⟨hb, World.ownsRow_nil _ _ _ _, World.ownsRow_nil _ _ _ _, World.ownsRow_nil _ _ _ _, World.ownsRow_nil _ _ _ _, fun b q => by simp [Value.ownBlock] at q, fun b q => by simp [Value.ownBlock] at q,
    ⟨by simp, by simp [blocksV], by simp⟩, ⟨by simp, by simp [blocksV], by simp⟩, rfl, rfl, by simp, by simp, ⟨by simp, by simp⟩⟩, by simp [hBk, blocksV, Value.ownBlock]⟩, ho, fun b q => by simp at q; omega⟩
theorem in_apart (h : HasB a w Hk kb) : Calls Tryz.prog 14 #[.pointer (some ⟨kb, 0, none⟩)] w fun e w' => e = .returned (.bool true) ∧ Only [] a w' := by
  obtain ⟨⟨vt, vx, vi, vy, T, X, I, Y, h1, rfl⟩, h2, h3⟩ := h
  refine (apart_any h1).mono fun e w' ⟨q1, q2⟩ => ⟨q1, h2.step q2 (fun b z => .inr (h3 b ?_))⟩
  rcases List.mem_append.1 z with y | y
  · exact mem_hBk.2 (.inr (.inr (.inr (.inr (.inr (.inl (by rw [blocksV_app]; exact List.mem_append_right _ y)))))))
  · exact mem_hBk.2 (.inr (.inr (.inr (.inr (.inr (.inr (by rw [blocksV_app]; exact List.mem_append_right _ y)))))))
end
set_option maxRecDepth 100000 in
set_option maxHeartbeats 1000000 in
theorem gnew_no (w : World) (f b r : Int) (hok : GS.okNew f b r = false) :
    Calls Tryz.prog 6 #[.agg #[.int .i64 f, .int .i64 b, .int .i64 r]] w fun e w' => e = .returned (.tuple #[.pointer none, .int .i64 1]) ∧ Only [] w w' := by
  have hno : f < 0 ∨ (1099511627776 : Int) < f ∨ b < 1 ∨ (100 : Int) < b ∨ r < 0 ∨ (100 : Int) < r := by
    simp [GS.okNew] at hok
    omega
  clear hok
  have hO := (Only.refl [] w).alloc (.cells #[.int .i64 f, .int .i64 b, .int .i64 r] 30)
  go_enter Tryz.func6, Tryz.ntmps6
  by_cases k1 : f < 0
  · clear hno
    go_wp2
    go_ret2
    exact ⟨rfl, hO⟩
  by_cases k2 : (1099511627776 : Int) < f
  · clear hno
    go_wp2
    go_ret2
    exact ⟨rfl, hO⟩
  by_cases k3 : b < 1
  · clear hno
    go_wp2
    go_ret2
    exact ⟨rfl, hO⟩
  by_cases k4 : (100 : Int) < b
  · clear hno
    go_wp2
    go_ret2
    exact ⟨rfl, hO⟩
  by_cases k5 : r < 0
  · clear hno
    go_wp2
    go_ret2
    exact ⟨rfl, hO⟩
  have k6 : (100 : Int) < r := by omega
  clear hno
  go_wp2
  go_ret2
  exact ⟨rfl, hO⟩
end Go.Proofs.YthjgplgfcbhihaaGreat
/- GroupPlays: the walk. -/
set_option linter.unusedVariables false
set_option linter.unusedSimpArgs false
namespace Go.Proofs.YthjgplgfcbhihaaGreat
open Go.RowKit Go Go.Sort Go.Lib
def nZZ : ByteArray := ⟨#[122, 122]⟩
theorem nZZ_lim : nZZ.size ≤ maxLen := by unfold maxLen; decide
/-- The two groups and the book, at the step j. -/
def PlayAt (a w : World) (gb rb kb j : Nat) : Prop := ∃ Hg Hr Hk g r, Both a w Hg Hr gb rb g r j ∧ HasB a w Hk kb ∧ ∀ b ∈ Hk, b ∉ Hg ∧ b ∉ Hr
section
variable {a w w' : World} {gb rb kb j : Nat} {Hg Hr Hk : List Nat} {g : GS} {r : RG}
theorem play_do (hB : Both a w Hg Hr gb rb g r j) (hK : HasB a w Hk kb) (hd : ∀ b ∈ Hk, b ∉ Hg ∧ b ∉ Hr) (hT : TTo a w Hg Hr gb rb j w') : PlayAt a w' gb rb kb (j + 1) ∧ ∀ bx t cs, Blk w bx t cs → bx ∉ Hg → bx ∉ Hr → Blk w' bx t cs := by
  obtain ⟨Hg', Hr', g', r', hB', hT'⟩ := hT
  have hSa : ∀ b ∈ Hg ++ Hr, a.heap.size ≤ b := fun b q => by
    rcases List.mem_append.1 q with y | y
    · exact hB.two.g.above b y
    · exact hB.two.r.above b y
  refine ⟨⟨Hg', Hr', Hk, g', r', hB', hK.keep hT'.only hSa (fun b q z => ?_), fun b q => hT'.out b (hK.lt b q) (hd b q).1 (hd b q).2⟩, fun bx t cs hb h1 h2 => hT'.only.blk hb (fun q => ?_)⟩
  · rcases List.mem_append.1 z with y | y
    · exact (hd b q).1 y
    · exact (hd b q).2 y
  · rcases List.mem_append.1 q with y | y
    · exact h1 y
    · exact h2 y
theorem play_shows (hd : ∀ b ∈ Hk, b ∉ Hg ∧ b ∉ Hr) (hB0 : Both a w Hg Hr gb rb g r j) (hS : STo a w Hg Hr Hk gb rb kb g r j w') : PlayAt a w' gb rb kb j := by
  obtain ⟨Hk', hB, hK, hm, hO⟩ := hS
  refine ⟨Hg, Hr, Hk', g, r, hB, hK, fun b q => ?_⟩
  rcases hm b q with y | y
  · exact hd b y
  · exact ⟨fun z => by have := hB0.two.g.gin.lt b z; omega, fun z => by have := hB0.two.r.lt b z; omega⟩
end
/-- One of two goes its own way; what lies beside it. -/
structure Aside (a w : World) (Hs Hr Hk Hm : List Nat) (gs rb kb bx : Nat) (cs : Array Value) (g : GS) (r : RG) (j : Nat) : Prop where
  both : Both a w Hs Hr gs rb g r j
  bk : HasB a w Hk kb
  dk : ∀ b ∈ Hk, b ∉ Hs ∧ b ∉ Hr
  box : Blk w bx 45 cs
  bxn : bx ∉ Hs ∧ bx ∉ Hr
  dm : ∀ b ∈ Hm, b ∉ Hs ∧ b ∉ Hr ∧ b ∉ Hk ∧ b ≠ bx
  ab : ∀ b ∈ Hm, a.heap.size ≤ b
section
variable {a w w' : World} {gs rb kb bx j : Nat} {Hs Hr Hk Hm Hm' : List Nat} {g : GS} {r : RG} {cs : Array Value}
theorem Aside.step (h : Aside a w Hs Hr Hk Hm gs rb kb bx cs g r j) (k : Stepped w w' Hm Hm') : Aside a w' Hs Hr Hk Hm' gs rb kb bx cs g r j := by
  obtain ⟨q1, q2⟩ := h.both.other k h.ab (fun b z => ⟨(h.dm b z).1, (h.dm b z).2.1⟩)
  obtain ⟨q3, q4⟩ := h.bk.other k h.ab (fun b z => (h.dm b z).2.2.1)
  obtain ⟨q5, q6⟩ := blkOther h.box k (fun z => (h.dm _ z).2.2.2 rfl)
  exact ⟨q1, q3, h.dk, q5, h.bxn, fun b z => ⟨(q2 b z).1, (q2 b z).2, q4 b z, fun e => q6 (e ▸ z)⟩, (k.above h.both.two.g.only h.ab).2⟩
theorem Aside.keep0 (h : Aside a w Hs Hr Hk Hm gs rb kb bx cs g r j) (k : Only [] w w') : Aside a w' Hs Hr Hk Hm gs rb kb bx cs g r j :=
  ⟨h.both.keep0 k, h.bk.keep0 k, h.dk, k.blk h.box (by simp), h.bxn, h.dm, h.ab⟩
/-- The box of a step, new. -/
theorem Aside.start (hB : Both a w Hs Hr gs rb g r j) (hK : HasB a w Hk kb) (hd : ∀ b ∈ Hk, b ∉ Hs ∧ b ∉ Hr) (cs : Array Value) :
    Aside a (w.alloc (.cells cs 45)) Hs Hr Hk [] gs rb kb w.heap.size cs g r j := by
  have k := (Only.refl [] w).alloc (.cells cs 45)
  exact ⟨hB.keep0 k, hK.keep0 k, hd, Blk.new _ _ _, ⟨fun z => by have := hB.two.g.gin.lt _ z; omega, fun z => by have := hB.two.r.lt _ z; omega⟩, by simp, by simp⟩
theorem HasG.less {H : List Nat} {gb N M : Nat} (h : HasG a w H gb g N) (hm : N ≤ M) : HasG a w H gb g M := h.more' hm
/-- The copy goes its own way. -/
theorem Aside.copyGoes {H' : List Nat} {cb : Nat} (h : Aside a w Hs Hr Hk [] gs rb kb bx cs g r j) (hc : HasG a w' H' cb g j) (k : Only [] w w') (hf : ∀ x ∈ H', w.heap.size ≤ x) :
    Aside a w' Hs Hr Hk H' gs rb kb bx cs g r j := by
  refine ⟨h.both.keep0 k, h.bk.keep0 k, h.dk, k.blk h.box (by simp), h.bxn, fun b z => ?_, hc.above⟩
  have hz := hf b z
  refine ⟨fun y => ?_, fun y => ?_, fun y => ?_, fun y => ?_⟩
  · have := h.both.two.g.gin.lt b y; omega
  · have := h.both.two.r.lt b y; omega
  · have := h.bk.lt b y; omega
  · have := h.box.lt; omega
/-- The first one goes its own way; the copy stays. -/
theorem Aside.firstGoes {H' : List Nat} {cb : Nat} (h : Aside a w Hs Hr Hk [] gs rb kb bx cs g r j) (hc : HasG a w' H' cb g j) (k : Only [] w w') (hf : ∀ x ∈ H', w.heap.size ≤ x) :
    Aside a w' H' Hr Hk Hs cb rb kb bx cs g r j ∧ HasG a w' Hs gs g j := by
  have hb := h.both.keep0 k
  refine ⟨⟨⟨⟨hc, hb.two.r, fun b z y => ?_⟩, hb.rel, hb.tid, hb.tr⟩, h.bk.keep0 k, fun b z => ⟨fun y => ?_, (h.dk b z).2⟩, k.blk h.box (by simp), ⟨fun z => ?_, h.bxn.2⟩, fun b z => ⟨fun y => ?_, h.both.two.dis b z, fun y => (h.dk b y).1 z, fun y => h.bxn.1 (y ▸ z)⟩, h.both.two.g.above⟩, hb.two.g⟩
  · have := hf b z; have := h.both.two.r.lt b y; omega
  · have := hf b y; have := h.bk.lt b z; omega
  · have := hf _ z; have := h.box.lt; omega
  · have := hf b y; have := h.both.two.g.gin.lt b z; omega
end
set_option maxRecDepth 100000 in
set_option maxHeartbeats 4000000 in
theorem playsW (f : Int) (hf : (Lit.int .i64 f).wf = true) (bu : Int) (hb : (Lit.int .i64 bu).wf = true) (rt : Int) (hr : (Lit.int .i64 rt).wf = true) (v : Value) (l : List OpG) (W : World)
    (x0 : Slc W 4 v l.length (l.flatMap OpG.cells)) (y0 : ∀ o ∈ l, o.Ok W ∧ o.cells.length = 4) (z0 : ∀ g, v.ownBlock = some g → g < W.heap.size ∨ l = []) :
    Calls Tryz.prog 3 #[.int .i64 f, .int .i64 bu, .int .i64 rt, v] W fun e W' => e = .returned (.bool true) ∧ Only [] W W' := by
  have ho := OpsG.of x0 y0 z0
  have HL := Lib.hid (lightG_any ho)
  have HAl := Lib.hid (fun W => alive_any W)
  have hop := ho.op
  have HO := Lib.hid ho
  obtain ⟨A, cap, rfl, _, hcap, hel⟩ := ho.cells
  unfold maxLen at hcap
  have Hel := Lib.hid hel
  clear hel ho x0 y0 z0 hf hb hr
  go_enter Tryz.func3, Tryz.ntmps3
  go_wp2_with fail
  refine HL.out.mono ?_
  rintro e w1 ⟨⟨b1, rfl, hl1⟩, ho1⟩
  cases b1
  · go_wp2_with (go_at_call 5; refine (HAl.out _).mono ?_; rintro e w3 ⟨rfl, ho3⟩)
    go_ret
    exact ⟨rfl, ho1.trans ho3⟩
  have hos : SmallG l := by first | exact hl1 rfl | exact hl1 trivial | exact hl1
  obtain ⟨hl60, hos⟩ := hos
  clear hl1 HL
  by_cases hok : GS.okNew f bu rt = true
  case neg =>
    have hok : GS.okNew f bu rt = false := by simpa using hok
    have HG := Lib.hid (gnew_no w1 f bu rt hok)
    have HR := Lib.hid (fun W => rnew_no W f bu rt hok)
    clear hok
    go_wp2_with fail
    refine HG.out.mono ?_
    rintro e w2 ⟨rfl, k2⟩
    go_wp2_with fail
    refine (HR.out _).mono ?_
    rintro e w3 ⟨rfl, k3⟩
    go_wp2_with (go_at_call 5; refine (HAl.out _).mono ?_; rintro e w4 ⟨rfl, k4⟩)
    go_ret
    exact ⟨rfl, ((ho1.trans k2).trans k3).trans k4⟩
  have HG := Lib.hid (in_new W w1 ho1 f bu rt hok)
  have HR := Lib.hid (fun (w : World) (h : Only [] W w) => rnew_ok W w h f bu rt hok)
  clear hok
  go_wp2_with fail
  refine HG.out.mono ?_
  rintro e w2 ⟨gb, Hg, rfl, hg2, k2, f2⟩
  go_wp2_with fail
  refine (HR.out _ hg2.only).mono ?_
  rintro e w3 ⟨rb, Hr, rfl, hr3, k3, f3⟩
  have hd3 : ∀ b ∈ Hg, b ∉ Hr := fun b q z => by
    have := hg2.gin.lt b q
    have := f3 b z
    omega
  have hB3 : Both W w3 Hg Hr gb rb (GS.new f bu rt) (RG.new f bu rt) 0 := ⟨⟨hg2.keep0 k3, hr3, hd3⟩, Rel.new _ _ _, (by intro x hx; cases hx), (by intro x hx; cases hx)⟩
  have hP : PlayAt W (w3.alloc (.cells #[.slice none 0 0, .slice none 0 0, .slice none 0 0, .slice none 0 0, .slice none 0 0, .slice none 0 0, .slice none 0 0, .slice none 0 0, .slice none 0 0, .slice none 0 0, .slice none 0 0, .slice none 0 0] 42)) gb rb w3.heap.size 0 := by
    have hO := (Only.refl [] w3).alloc (.cells #[.slice none 0 0, .slice none 0 0, .slice none 0 0, .slice none 0 0, .slice none 0 0, .slice none 0 0, .slice none 0 0, .slice none 0 0, .slice none 0 0, .slice none 0 0, .slice none 0 0, .slice none 0 0] 42)
    refine ⟨_, _, [w3.heap.size], _, _, hB3.keep0 hO, HasB.empty (hr3.only.trans hO) (Blk.new _ _ _) hr3.only.size, fun b q => ?_⟩
    simp at q
    subst q
    exact ⟨fun z => by have := hB3.two.g.gin.lt _ z; omega, fun z => by have := hB3.two.r.lt _ z; omega⟩
  have HP := Lib.hid hP
  clear hP hB3 hd3 hg2 k2 f2 hr3 k3 f3 HG HR
  go_wp2_with fail
  obtain ⟨kb, hkb⟩ : ∃ kb, kb = w3.heap.size := ⟨_, rfl⟩
  rw [← hkb] at HP ⊢
  clear hkb
  go_loopw [9, 14] (fun gv iv wr => ∃ (j gb : Nat), j ≤ l.length ∧ iv = .int .i64 j ∧ gv = .pointer (some ⟨gb, 0, none⟩) ∧ PlayAt W wr gb rb kb j) (fun _ iv _ => l.length - (intOf iv).toNat)
  case atStart => exact ⟨0, gb, Nat.zero_le _, rfl, rfl, HP.out⟩
  case round =>
    clear HP
    obtain ⟨j, gb, hj, rfl, rfl, Hg, Hr, Hk, g, r, hB, hK, hd⟩ := hrel
    by_cases hlt : j < l.length
    case neg =>
      clear hj
      go_wp2_with fail
      refine (HAl.out _).mono ?_
      rintro e w4 ⟨rfl, k4⟩
      have HA := Lib.hid (in_apart (hK.keep0 k4))
      clear hB hK hd
      go_wp2_with fail
      refine HA.out.mono ?_
      rintro e w5 ⟨rfl, k5⟩
      clear HA
      go_wp2
      go_ret
      exact ⟨rfl, k5⟩
    case pos =>
      obtain ⟨b, off, rfl, hb, hba, hcell⟩ := Hel.out j hlt
      obtain ⟨o, hoe⟩ : ∃ o, o = l[j] := ⟨_, rfl⟩
      have hmem : o ∈ l := by rw [hoe]; exact List.getElem_mem hlt
      obtain ⟨hw1, hsl0, hw3⟩ := hop o hmem
      obtain ⟨hw4, hw5⟩ := hos o hmem
      rw [← hoe] at hcell
      have hWr : Only [] W wr := hB.two.g.only
      obtain ⟨Al, cl, hlv, _, _, _⟩ := hsl0.openI
      have c0 : wr.cell? ⟨b, off + j * 4, none⟩ = some (.int .i64 o.kind) := (hWr.cell hb (by simp)).trans (hcell 0 (by omega))
      have c1 : wr.cell? ⟨b, off + j * 4 + 1, none⟩ = some (.int .i64 o.n) := (hWr.cell hb (by simp)).trans (hcell 1 (by omega))
      have c2 : wr.cell? ⟨b, off + j * 4 + 2, none⟩ = some (.string o.who) := (hWr.cell hb (by simp)).trans (hcell 2 (by omega))
      have c3 : wr.cell? ⟨b, off + j * 4 + 3, none⟩ = some (.slice Al o.l.length cl) := by rw [← hlv]; exact (hWr.cell hb (by simp)).trans (hcell 3 (by omega))
      clear hcell hmem hoe
      by_cases k9 : o.kind = 9
      case neg =>
        have hb9 : ((o.kind : Int) == 9) = false := by simpa using k9
        have hA0 := Aside.start hB hK hd #[.int .i64 o.kind, .int .i64 o.n, .string o.who, .slice Al o.l.length cl]
        have HA2 := Lib.hid hA0
        have hA2 := HA2.out
        have HD0 := Lib.hid (do_any hA2.both (by omega) (show OpFit W (wr.alloc (.cells #[.int .i64 o.kind, .int .i64 o.n, .string o.who, .slice Al o.l.length cl] 45)) o from ⟨hw4, hw5, slc_keep (a := W) hA2.both.two.g.only (by simp) rfl hsl0 hw3, hw3⟩))
        unfold OpG.val at HD0
        rw [hlv] at HD0
        clear hA0 hB hK hA2
        go_wp2_with fail
        refine HD0.out.mono ?_
        clear HD0
        rintro e wd ⟨rfl, hT⟩
        obtain ⟨⟨Hg2, Hr2, Hk2, g2, r2, hB2, hK2, hd2⟩, hbx2⟩ := play_do HA2.out.both HA2.out.bk HA2.out.dk hT
        have hbx2 := hbx2 _ _ _ HA2.out.box HA2.out.bxn.1 HA2.out.bxn.2
        have d2 : wd.cell? ⟨wr.heap.size, 2, none⟩ = some (.string o.who) := hbx2.cell 2
        have HS := Lib.hid (shows_any hB2 (by omega) hK2 hd2 o.who)
        clear hT HA2 hbx2
        have HB2 := Lib.hid hB2
        have HK2 := Lib.hid hK2
        clear hB2 hK2
        go_wp2_with fail
        refine HS.out.mono ?_
        rintro e ws ⟨rfl, hS⟩
        have HP2 := Lib.hid (play_shows hd2 HB2.out hS)
        clear hS HB2 HK2 hd2 HS d2
        go_wp2
        exact ⟨⟨j + 1, _, by omega, rfl, rfl, HP2.out⟩, by simp [intOf]; omega⟩
      case pos =>
        have hA0 := Aside.start hB hK hd #[.int .i64 9, .int .i64 o.n, .string o.who, .slice Al o.l.length cl]
        have HA0 := Lib.hid hA0
        have HB0 := Lib.hid hB
        have hCo := in_copy hA0.both.two.g (by omega)
        have HC := Lib.hid hCo
        clear hA0 hB hK hCo
        go_wp2_with fail
        refine HC.out.mono ?_
        rintro e wc ⟨cb, Hc, rfl, hc, kc, fc⟩
        have hc1 : wc.cell? ⟨wr.heap.size, 1, none⟩ = some (.int .i64 o.n) := (kc.blk HA0.out.box (by simp)).cell 1
        obtain ⟨n1, hn1⟩ : ∃ n : Int, bits .and .i64 o.n 1 = n := ⟨_, rfl⟩
        have HC2 := Lib.hid hc
        have HCf := Lib.hid fc
        have HCk := Lib.hid kc
        clear hc fc kc HC
        by_cases kn : n1 = 0
        · have hkn : (n1 == 0) = true := by simp [kn]
          have h7 := HA0.out.firstGoes HC2.out HCk.out HCf.out
          have HA4 := Lib.hid h7.1
          have HM4 := Lib.hid h7.2
          clear h7 HA0 HB0 HC2 HCk HCf
          have HC5 := Lib.hid (in_join HM4.out nZZ nZZ_lim)
          go_wp2_with fail
          refine HC5.out.mono ?_
          rintro e wo5 ⟨rfl, Hm5, hm5, km5⟩
          have HA5 := Lib.hid (HA4.out.step km5)
          have HM5 := Lib.hid hm5
          clear HA4 HC5 km5 hm5 HM4
          have HC6 := Lib.hid (in_feed HM5.out (by omega) 3)
          go_wp2_with fail
          refine HC6.out.mono ?_
          rintro e wo6 ⟨rfl, Hm6, hm6, km6⟩
          have HA6 := Lib.hid (HA5.out.step km6)
          have HM6 := Lib.hid hm6
          clear HA5 HC6 km6 hm6 HM5
          have HC7 := Lib.hid (in_late HM6.out (by omega))
          go_wp2_with fail
          refine HC7.out.mono ?_
          rintro e wo7 ⟨rfl, Hm7, hm7, km7⟩
          have HA7 := Lib.hid (HA6.out.step km7)
          have HM7 := Lib.hid hm7
          clear HA6 HC7 km7 hm7 HM6
          have HA2 := HA7
          have hA2 := HA2.out
          have HD0 := Lib.hid (do_any hA2.both (by omega) (show OpFit W wo7 o from ⟨hw4, hw5, slc_keep (a := W) hA2.both.two.g.only (by simp) rfl hsl0 hw3, hw3⟩))
          unfold OpG.val at HD0
          rw [hlv] at HD0
          rw [k9] at HD0
          have hbx := hA2.box
          have e0 : wo7.cell? ⟨wr.heap.size, 0, none⟩ = some (.int .i64 9) := hbx.cell 0
          have e1 : wo7.cell? ⟨wr.heap.size, 1, none⟩ = some (.int .i64 o.n) := hbx.cell 1
          have e2 : wo7.cell? ⟨wr.heap.size, 2, none⟩ = some (.string o.who) := hbx.cell 2
          have e3 : wo7.cell? ⟨wr.heap.size, 3, none⟩ = some (.slice Al o.l.length cl) := hbx.cell 3
          clear hbx hA2
          clear HA7 HM7
          go_wp2_with fail
          clear e0 e1 e2 e3
          refine HD0.out.mono ?_
          clear HD0
          rintro e wd ⟨rfl, hT⟩
          obtain ⟨⟨Hg2, Hr2, Hk2, g2, r2, hB2, hK2, hd2⟩, hbx2⟩ := play_do HA2.out.both HA2.out.bk HA2.out.dk hT
          have hbx2 := hbx2 _ _ _ HA2.out.box HA2.out.bxn.1 HA2.out.bxn.2
          have d2 : wd.cell? ⟨wr.heap.size, 2, none⟩ = some (.string o.who) := hbx2.cell 2
          have HS := Lib.hid (shows_any hB2 (by omega) hK2 hd2 o.who)
          clear hT HA2 hbx2
          have HB2 := Lib.hid hB2
          have HK2 := Lib.hid hK2
          clear hB2 hK2
          go_wp2_with fail
          refine HS.out.mono ?_
          rintro e ws ⟨rfl, hS⟩
          have HP2 := Lib.hid (play_shows hd2 HB2.out hS)
          clear hS HB2 HK2 hd2 HS d2
          go_wp2
          exact ⟨⟨j + 1, _, by omega, rfl, rfl, HP2.out⟩, by simp [intOf]; omega⟩
        · have hkn : (n1 == 0) = false := by simpa using kn
          have HA4 := Lib.hid (HA0.out.copyGoes HC2.out HCk.out HCf.out)
          have HM4 := HC2
          clear HA0 HB0 HC2 HCk HCf
          have HC5 := Lib.hid (in_join HM4.out nZZ nZZ_lim)
          go_wp2_with fail
          refine HC5.out.mono ?_
          rintro e wo5 ⟨rfl, Hm5, hm5, km5⟩
          have HA5 := Lib.hid (HA4.out.step km5)
          have HM5 := Lib.hid hm5
          clear HA4 HC5 km5 hm5 HM4
          have HC6 := Lib.hid (in_feed HM5.out (by omega) 3)
          go_wp2_with fail
          refine HC6.out.mono ?_
          rintro e wo6 ⟨rfl, Hm6, hm6, km6⟩
          have HA6 := Lib.hid (HA5.out.step km6)
          have HM6 := Lib.hid hm6
          clear HA5 HC6 km6 hm6 HM5
          have HC7 := Lib.hid (in_late HM6.out (by omega))
          go_wp2_with fail
          refine HC7.out.mono ?_
          rintro e wo7 ⟨rfl, Hm7, hm7, km7⟩
          have HA7 := Lib.hid (HA6.out.step km7)
          have HM7 := Lib.hid hm7
          clear HA6 HC7 km7 hm7 HM6
          have HA2 := HA7
          have hA2 := HA2.out
          have HD0 := Lib.hid (do_any hA2.both (by omega) (show OpFit W wo7 o from ⟨hw4, hw5, slc_keep (a := W) hA2.both.two.g.only (by simp) rfl hsl0 hw3, hw3⟩))
          unfold OpG.val at HD0
          rw [hlv] at HD0
          rw [k9] at HD0
          have hbx := hA2.box
          have e0 : wo7.cell? ⟨wr.heap.size, 0, none⟩ = some (.int .i64 9) := hbx.cell 0
          have e1 : wo7.cell? ⟨wr.heap.size, 1, none⟩ = some (.int .i64 o.n) := hbx.cell 1
          have e2 : wo7.cell? ⟨wr.heap.size, 2, none⟩ = some (.string o.who) := hbx.cell 2
          have e3 : wo7.cell? ⟨wr.heap.size, 3, none⟩ = some (.slice Al o.l.length cl) := hbx.cell 3
          clear hbx hA2
          clear HA7 HM7
          go_wp2_with fail
          clear e0 e1 e2 e3
          refine HD0.out.mono ?_
          clear HD0
          rintro e wd ⟨rfl, hT⟩
          obtain ⟨⟨Hg2, Hr2, Hk2, g2, r2, hB2, hK2, hd2⟩, hbx2⟩ := play_do HA2.out.both HA2.out.bk HA2.out.dk hT
          have hbx2 := hbx2 _ _ _ HA2.out.box HA2.out.bxn.1 HA2.out.bxn.2
          have d2 : wd.cell? ⟨wr.heap.size, 2, none⟩ = some (.string o.who) := hbx2.cell 2
          have HS := Lib.hid (shows_any hB2 (by omega) hK2 hd2 o.who)
          clear hT HA2 hbx2
          have HB2 := Lib.hid hB2
          have HK2 := Lib.hid hK2
          clear hB2 hK2
          go_wp2_with fail
          refine HS.out.mono ?_
          rintro e ws ⟨rfl, hS⟩
          have HP2 := Lib.hid (play_shows hd2 HB2.out hS)
          clear hS HB2 HK2 hd2 HS d2
          go_wp2
          exact ⟨⟨j + 1, _, by omega, rfl, rfl, HP2.out⟩, by simp [intOf]; omega⟩
end Go.Proofs.YthjgplgfcbhihaaGreat
