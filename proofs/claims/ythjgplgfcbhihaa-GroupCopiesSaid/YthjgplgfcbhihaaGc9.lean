/- Contract: Who: the sorted keys of a map with texts as keys; names stay short. -/
import Derived.Test.YthjgplgfcbhihaaGc8
import Derived.Test.YthjgplgfcbhihaaShelf
set_option linter.unusedVariables false
set_option linter.unusedSimpArgs false
namespace Go.Proofs.Ythjgplgfcbhihaa
open Go.RowKit Go.MapKept Go.Maps Go.WideMaps
open Go.WideElems (Fit rd rg pl rd_mk rg_of)
/-- How an element reads where nobody looks at it. -/
def blind (_ : Value) : Option (DataW Unit × List MemPlace) := some (.nil, [])
theorem MapIs.owns {P : Program} {k : TypeId} (hk : P.underlying k = some .string) {w : World} {b : Nat} {kv : List (ByteArray × Value)} (h : MapIs Value.string w b kv) (hn : kv.length ≤ maxLen) (hs : ∀ p ∈ kv, p.1.size ≤ maxLen) :
    ∃ D0 : DataW Unit, w.ownsMap P k blind b kv.length D0 ∧ (strKeys D0).Perm (kv.map fun p => p.1.data.toList) ∧ Maps.size D0 = kv.length := by
  obtain ⟨es, clock, hb, hst, hm⟩ := h
  have hl : es.size = kv.length := by have := congrArg List.length hm; simpa using this
  have hx : ∀ x ∈ es.toList, ∃ s : ByteArray, x.key = .string s ∧ s.size ≤ maxLen := by
    intro x hx
    have : (x.key, x.val) ∈ kv.map (fun p => (Value.string p.1, p.2)) := by rw [← hm]; exact List.mem_map.2 ⟨x, hx, rfl⟩
    obtain ⟨p, hp, e⟩ := List.mem_map.1 this
    simp only [Prod.mk.injEq] at e
    exact ⟨p.1, e.1.symm, hs p hp⟩
  have hr : ∀ x ∈ es.toList, ∀ s, x.key = .string s → s.size ≤ maxLen → rg P k blind x = (.string s.data.toList, .nil) := by
    intro x _ s e h1
    have h2 := rd_mk (R := blind) (val := x.val) (born := x.born) (keyOf_string_mk hk h1) (rfl : blind x.val = some (.nil, []))
    rw [← e] at h2
    exact rg_of h2
  refine ⟨_, ⟨es, clock, hb, ⟨by omega, hst, ?_⟩, by omega, rfl⟩, ?_, ?_⟩
  · intro x hx'
    obtain ⟨s, e, h1⟩ := hx x hx'
    refine ⟨(.string s.data.toList, .nil), ?_⟩
    have h2 := rd_mk (R := blind) (val := x.val) (born := x.born) (keyOf_string_mk hk h1) (rfl : blind x.val = some (.nil, []))
    rw [← e] at h2
    exact h2
  · refine ((WideShapes.sorted_perm _).map _).trans ?_
    have e1 : (es.toList.map (rg P k blind)).map (fun p => strOf p.1) = kv.map fun p => p.1.data.toList := by
      apply List.ext_getElem?
      intro i
      have hi := congrArg (fun l => l[i]?) hm
      simp only [List.getElem?_map] at hi ⊢
      cases h1 : es.toList[i]? with
      | none =>
        rw [h1] at hi
        cases h2 : kv[i]? with
        | none => rfl
        | some p => rw [h2] at hi; simp at hi
      | some x =>
        rw [h1] at hi
        cases h2 : kv[i]? with
        | none => rw [h2] at hi; simp at hi
        | some p =>
          rw [h2] at hi
          simp only [Option.map_some, Option.some.injEq, Prod.mk.injEq] at hi
          have hp : p.1.size ≤ maxLen := hs p (List.mem_of_getElem? h2)
          have := hr x (List.mem_of_getElem? h1) p.1 hi.1 hp
          simp [this, strOf]
    rw [e1]
  · show (List.foldr DataW.insert [] (es.toList.map (rg P k blind))).length = _
    rw [(WideShapes.sorted_perm _).length_eq]
    simp [hl]

theorem strs_sorted (l : List (List UInt8)) : (l.map encStr) = strs (l.map fun x => ⟨x.toArray⟩) := by
  simp [strs, encStr]


/-! ## names are short -/
def GS.Nm (g : GS) : Prop := ∀ p ∈ g.flight, p.1.size ≤ 60
namespace GS
variable {g : GS}
theorem new_nm (f b r : Int) : (new f b r).Nm := fun p hp => by cases hp
theorem nm_aput (h : g.Nm) {who : ByteArray} (hw : who.size ≤ 60) (l : List Int) : ∀ p ∈ aput g.flight who l, p.1.size ≤ 60 := fun p hp => by
  rcases aput_in hp with rfl | q
  · exact hw
  · exact h p q
theorem nm_is (h : g.Nm) {who : ByteArray} (hi : g.is who = true) : who.size ≤ 60 := by
  unfold is at hi
  cases hx : aget g.flight who with
  | none => rw [hx] at hi; cases hi
  | some l => exact h _ (aget_mem hx)
theorem join_nm (h : g.Nm) (who : ByteArray) : (g.join who).2.Nm := by
  unfold join
  split
  · exact h
  split
  · exact h
  split
  · exact h
  · rename_i q _ _
    exact nm_aput h (by omega) []
theorem leave_nm (h : g.Nm) (who : ByteArray) : (g.leave who).2.Nm := by
  unfold leave
  split
  · exact fun p hp => h p ((adel_sublist g.flight who).subset hp)
  · exact h
theorem feed_nm (h : g.Nm) (n : Int) : (g.feed n).2.Nm := by
  unfold feed
  split <;> exact h
theorem take1_nm (h : g.Nm) (who : ByteArray) {n : Int} {t : GS} (he : g.take1 who = some (n, t)) : t.Nm := by
  unfold take1 at he
  split at he
  · cases he
  · rename_i q
    split at he
    · cases he
    · injection he with he
      injection he with e1 e2
      subst e1 e2
      have hi : g.is who = true := by
        cases hh : g.is who with
        | true => rfl
        | false => exact absurd (.inl hh) q
      exact nm_aput h (nm_is h hi) _
theorem take_nm (h : g.Nm) (who : ByteArray) (l : List Int) : (g.take who l).2.Nm := by
  unfold take
  split
  · rename_i hi
    dsimp only
    split
    · exact h
    · exact nm_aput h (nm_is h hi) _
  · exact h
theorem forget_nm (h : g.Nm) : g.forget.Nm := h
theorem ack_nm (h : g.Nm) (who : ByteArray) (l : List Int) : (g.ack who l).2.Nm := by
  have h1 := take_nm h who l
  unfold ack
  dsimp only
  split
  · exact h1
  · exact forget_nm h1
theorem nak1_fl (how : Int) (g : GS) (n : Int) : (nak1 how g n).flight = g.flight := by
  unfold nak1
  split
  · rfl
  split <;> rfl
theorem nakAll_fl (how : Int) : ∀ (d : List Int) (g : GS), (d.foldl (nak1 how) g).flight = g.flight
  | [], _ => rfl
  | x :: d, g => by rw [List.foldl_cons, nakAll_fl how d, nak1_fl]
theorem nak_nm (h : g.Nm) (who : ByteArray) (how : Int) (l : List Int) : (g.nak who how l).2.Nm := by
  have h1 := take_nm h who l
  unfold nak
  split
  · exact h
  · dsimp only
    have hk : ((g.take who l).1.foldl (nak1 how) (g.take who l).2).Nm := fun p hp => h1 p (by rw [nakAll_fl] at hp; exact hp)
    split
    · exact hk
    · exact forget_nm hk
theorem lateGo_nm : ∀ (l : List ByteArray) (n : Int) {g : GS}, g.Nm → (lateGo l n g).2.Nm
  | [], _, _, h => h
  | w :: l, n, g, h => lateGo_nm l _ (nak_nm h w 2 (g.fl w))
theorem late_nm (h : g.Nm) : g.late.2.Nm := lateGo_nm g.who 0 h
theorem replay_nm (h : g.Nm) : g.replay.2.Nm := h
end GS
theorem who_len (g : GS) : g.who.length = g.flight.length := by simp [GS.who]
set_option maxRecDepth 100000 in
theorem who_any {w : World} {gb fb tb N : Nat} {vw vp va vs : Value} {pf : ByteArray → Value} {g : GS} (h : GAt w gb fb tb vw vp va vs pf g) (hok : g.Ok N) (hnm : g.Nm) :
    Calls Try.prog 28 #[.pointer (some ⟨gb, 0, none⟩)] w fun e w' => ∃ v, e = .returned v ∧ w'.ownsRow w.heap.size 9 1 v g.who.length (strs g.who) ∧ Only [] w w' := by
  have c5 : w.cell? ⟨gb, 5, none⟩ = some (.map (some fb)) := h.blk.cell 5
  have HN := Lib.hid (none_any h)
  have hlen : (g.flight.map fun p => (p.1, pf p.1)).length = g.flight.length := by simp
  have hf := hok.few
  obtain ⟨D0, hown, hperm, hsz⟩ := h.flight.owns (P := Try.prog) (k := 9) Try.underlying9 (by rw [hlen]; unfold maxLen; omega) (by
    intro p hp
    obtain ⟨q, hq, rfl⟩ := List.mem_map.1 hp
    have := hnm q hq
    unfold maxLen
    show q.1.size ≤ _
    omega)
  have hc := fun W => callsIn_wide.1 (Try.maps_Keys_44 (some fb) W)
  have hs := callsIn_wide.1 (Try.slices_Sorted_keys_43_44 fb _ D0 blind w hown (by rw [hsz, hlen]; unfold maxLen; omega) (by rw [hsz, hlen]; omega))
  have HS := Lib.hid hs
  have HC := Lib.hid hc
  clear hs hc
  go_enter Try.func28, Try.ntmps28
  go_wp2_with (first
    | (go_at_call 29; refine HN.out.mono ?_; rintro e w1 ⟨rfl, rfl⟩)
    | (go_at_call 44; refine (HC.out _).mono ?_; rintro e w' ⟨rfl, rfl⟩)
    | (go_at_call 43; refine (HS.out).mono ?_; rintro e w' ⟨v, ss, rfl, hS, hrow, hnil, hb⟩))
  go_ret
  have e1 : ss.mergeSort (fun x y => decide (x ≤ y)) = (g.flight.map fun p => p.1.data.toList).mergeSort (fun x y => decide (x ≤ y)) := by
    refine mergeSort_of_perm ((hS.trans hperm).trans ?_)
    rw [List.map_map]
    exact List.Perm.refl _
  have e2 : (ss.mergeSort (fun x y => decide (x ≤ y))).map encStr = strs g.who := by
    rw [strs_sorted, e1]
    rfl
  have e3 : ss.length = g.who.length := by
    have := congrArg List.length e2
    simpa [strs] using this
  rw [e2, e3] at hrow
  exact ⟨v, rfl, own_base hrow (by simp), ((Only.refl [] w).alloc _).below hb (Nat.le_refl _)⟩
end Go.Proofs.Ythjgplgfcbhihaa
