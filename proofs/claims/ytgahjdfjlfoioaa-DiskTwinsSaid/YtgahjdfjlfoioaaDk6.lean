/- The sorted keys of a map with texts as keys: slices.Sorted(maps.Keys(m)); names. -/
import Derived.Test.YtgahjdfjlfoioaaDk5
namespace Go.Proofs.Ytgahjdfjlfoioaa
open Go.RowKit Go.MapKept Go.Maps Go.WideMaps
open Go.WideElems (Fit rd rg pl rd_mk rg_of)

/-- How an element reads where nobody looks at it. -/
def blind (_ : Value) : Option (DataW Unit × List MemPlace) := some (.nil, [])
theorem MapIs.owns {P : Program} {k : TypeId} (hk : P.underlying k = some .string) {w : World} {b : Nat} {kv : List (ByteArray × Value)} (h : MapIs Value.string w b kv) (hn : kv.length ≤ maxLen) (hs : ∀ p ∈ kv, p.1.size ≤ maxLen) :
    ∃ D0 : DataW Unit, w.ownsMap P k blind b kv.length D0 ∧ (strKeys D0).Perm (kv.map fun p => p.1.data.toList) ∧ Maps.size D0 = kv.length := by
  obtain ⟨es, clock, hb, hst, hm⟩ := h
  have hl : es.size = kv.length := by have := congrArg List.length hm; simpa using this
  have hx : ∀ x ∈ es.toList, ∃ s : ByteArray, x.key = .string s ∧ s.size ≤ maxLen := by
    intro x hx
    have : (x.key, x.val) ∈ kv.map (fun p => (Value.string p.1, p.2)) := by rw [← hm]; exact List.mem_map.2 ⟨x, hx, rfl⟩
    obtain ⟨p, hp, e⟩ := List.mem_map.1 this
    simp only [Prod.mk.injEq] at e
    exact ⟨p.1, e.1.symm, hs p hp⟩
  have hr : ∀ x ∈ es.toList, ∀ s, x.key = .string s → s.size ≤ maxLen → rg P k blind x = (.string s.data.toList, .nil) := by
    intro x _ s e h1
    have h2 := rd_mk (R := blind) (val := x.val) (born := x.born) (keyOf_string_mk hk h1) (rfl : blind x.val = some (.nil, []))
    rw [← e] at h2
    exact rg_of h2
  refine ⟨_, ⟨es, clock, hb, ⟨by omega, hst, ?_⟩, by omega, rfl⟩, ?_, ?_⟩
  · intro x hx'
    obtain ⟨s, e, h1⟩ := hx x hx'
    refine ⟨(.string s.data.toList, .nil), ?_⟩
    have h2 := rd_mk (R := blind) (val := x.val) (born := x.born) (keyOf_string_mk hk h1) (rfl : blind x.val = some (.nil, []))
    rw [← e] at h2
    exact h2
  · refine ((WideShapes.sorted_perm _).map _).trans ?_
    have e1 : (es.toList.map (rg P k blind)).map (fun p => strOf p.1) = kv.map fun p => p.1.data.toList := by
      apply List.ext_getElem?
      intro i
      have hi := congrArg (fun l => l[i]?) hm
      simp only [List.getElem?_map] at hi ⊢
      cases h1 : es.toList[i]? with
      | none =>
        rw [h1] at hi
        cases h2 : kv[i]? with
        | none => rfl
        | some p => rw [h2] at hi; simp at hi
      | some x =>
        rw [h1] at hi
        cases h2 : kv[i]? with
        | none => rw [h2] at hi; simp at hi
        | some p =>
          rw [h2] at hi
          simp only [Option.map_some, Option.some.injEq, Prod.mk.injEq] at hi
          have hp : p.1.size ≤ maxLen := hs p (List.mem_of_getElem? h2)
          have := hr x (List.mem_of_getElem? h1) p.1 hi.1 hp
          simp [this, strOf]
    rw [e1]
  · show (List.foldr DataW.insert [] (es.toList.map (rg P k blind))).length = _
    rw [(WideShapes.sorted_perm _).length_eq]
    simp [hl]

theorem strs_sorted (l : List (List UInt8)) : (l.map encStr) = strs (l.map fun x => ⟨x.toArray⟩) := by
  simp [strs, encStr]

theorem names_own {w : World} {db mb : Nat} {d : DS} {kv : Value} {M : Nat} (h : DiskAt w db mb d kv) (hk : Fs d.fs M) :
    Calls Try.prog 38 #[.pointer (some ⟨db, 0, none⟩)] w fun e w' => ∃ v base, e = .returned v ∧ w'.ownsRow base 9 1 v d.names.length (strs d.names) ∧ w.heap.size ≤ base ∧ Only [] w w' := by
  have c2 : w.cell? ⟨db, 2, none⟩ = some (.map (some mb)) := h.blk.cell 2
  have hlen : (d.fs.map fun p => (p.1, p.2.val)).length = d.fs.length := by simp
  have hf := hk.few
  obtain ⟨D0, hown, hperm, hsz⟩ := h.map.owns (P := Try.prog) (k := 9) Try.underlying9 (by rw [hlen]; unfold maxLen; omega) (by
    intro p hp
    obtain ⟨q, hq, rfl⟩ := List.mem_map.1 hp
    have := hk.short q hq
    unfold maxLen
    show q.1.size ≤ _
    omega)
  have hc := fun W => callsIn_wide.1 (Try.maps_Keys_47 (some mb) W)
  have hs := callsIn_wide.1 (Try.slices_Sorted_keys_46_47 mb _ D0 blind w hown (by rw [hsz, hlen]; unfold maxLen; omega) (by rw [hsz, hlen]; omega))
  have HS := Lib.hid hs
  have HC := Lib.hid hc
  clear hs hc
  go_enter Try.func38, Try.ntmps38
  go_wp2_with (first | (go_at_call 47; refine (HC.out _).mono ?_; rintro e w' ⟨rfl, rfl⟩) | (go_at_call 46; refine (HS.out).mono ?_; rintro e w' ⟨v, ss, rfl, hS, hrow, hnil, hb⟩))
  go_ret
  have e1 : ss.mergeSort (fun x y => decide (x ≤ y)) = (d.fs.map fun p => p.1.data.toList).mergeSort (fun x y => decide (x ≤ y)) := by
    refine mergeSort_of_perm ((hS.trans hperm).trans ?_)
    rw [List.map_map]
    exact List.Perm.refl _
  have e2 : (ss.mergeSort (fun x y => decide (x ≤ y))).map encStr = strs d.names := by
    rw [strs_sorted, e1]
    rfl
  have e3 : ss.length = d.names.length := by
    have := congrArg List.length e2
    simpa [strs] using this
  rw [e2, e3] at hrow
  exact ⟨v, _, rfl, hrow, by simp, ((Only.refl [] w).alloc _).below hb (Nat.le_refl _)⟩
theorem names_any {w : World} {db mb : Nat} {d : DS} {kv : Value} {M : Nat} (h : DiskAt w db mb d kv) (hk : Fs d.fs M) :
    Calls Try.prog 38 #[.pointer (some ⟨db, 0, none⟩)] w fun e w' => ∃ v, e = .returned v ∧ Slc w' 1 v d.names.length (strs d.names) ∧ (∀ g, v.ownBlock = some g → w.heap.size ≤ g) ∧ Only [] w w' := by
  refine (names_own h hk).mono fun e w' ⟨v, base, he, hrow, hb, ho⟩ => ⟨v, he, (Slc.of_own hrow).1, fun g hg => ?_, ho⟩
  have := ((Slc.of_own hrow).2 g hg).1
  omega
end Go.Proofs.Ytgahjdfjlfoioaa
