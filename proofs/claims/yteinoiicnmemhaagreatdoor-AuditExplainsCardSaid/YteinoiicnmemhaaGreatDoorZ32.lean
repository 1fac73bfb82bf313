/- Proved here: contracts of functions and plain laws, part 32 of one proof. Conditions: each theorem names its own. -/
import Derived.Test.YteinoiicnmemhaaGreatDoorZ1
import Derived.Test.YteinoiicnmemhaaGreatDoorZ2
import Derived.Test.YteinoiicnmemhaaGreatDoorZ6
import Derived.Test.YteinoiicnmemhaaGreatDoorZ8
import Derived.Test.YteinoiicnmemhaaGreatDoorZ31
import Derived.Test.YteinoiicnmemhaaGreatDoorRows
import Derived.Test.YteinoiicnmemhaaGreatDoorProg
import Derived.Deep.AppendLies
import Derived.Lib.AppendZeros
import Derived.RegionTactic
import Derived.ChangeAlike
import Derived.Deep.QuietTactic
import Derived.BigQuiet
import Derived.Lib.QuietBelow
namespace Go.Proofs.YteinoiicnmemhaaGreatDoor.J
section
open Go.RowKit

/-! ## slices that are only read -/
section
variable {w w' : World} {size n : Nat} {v : Value} {cs : List Value}
end

/-! ## the disk in memory -/
def DS.cells (d : DS) (mb : Nat) (kv : Value) : Array Value := #[.bool d.on, .int .i64 d.room, .map (some mb), .bool d.armed, .int .i64 d.left, kv]
/-- The disk d lies in block db, its files in the map mb. -/
structure DiskAt (w : World) (db mb : Nat) (d : DS) (kv : Value) : Prop where
  blk : Blk w db 168 (d.cells mb kv)
  map : MapIs Value.string w mb (d.fs.map fun p => (p.1, p.2.val))
  slc : Slc w 1 kv d.keep.length (ints d.keep)
  apart : ∀ g, kv.ownBlock = some g → g ≠ db ∧ g ≠ mb
  left : -9223372036854775808 ≤ d.left ∧ d.left ≤ 9223372036854775807
  room : -9223372036854775808 ≤ d.room ∧ d.room ≤ 9223372036854775807
  old : ∀ g, kv.ownBlock = some g → g < w.heap.size

theorem DiskAt.only {w w' : World} {db mb : Nat} {d : DS} {kv : Value} {S : List Nat} (h : DiskAt w db mb d kv) (k : Only S w w') (hd : db ∉ S) (hm : mb ∉ S) (hk : ∀ g, kv.ownBlock = some g → g ∉ S) : DiskAt w' db mb d kv :=
  ⟨k.blk h.blk hd, h.map.only k hm, h.slc.only k hk, h.apart, h.left, h.room, fun g hg => Nat.lt_of_lt_of_le (h.old g hg) k.size⟩
/-! ## On -/
theorem on_any {w : World} {db mb : Nat} {d : DS} {kv : Value} (h : DiskAt w db mb d kv) :
    Calls Tryz.prog 178 #[.pointer (some ⟨db, 0, none⟩)] w fun e w' => e = .returned (.bool d.on) ∧ w = w' := by
  have c0 : w.cell? ⟨db, 0, none⟩ = some (.bool d.on) := h.blk.cell 0
  go_enter Tryz.func178, Tryz.ntmps178
  go_wp2
  go_ret
  exact ⟨rfl, rfl⟩
/-! ## goes -/
end
section
open Go.RowKit

theorem strClone_any (s : ByteArray) (w : World) (hlim : s.size ≤ 281474976710656) :
    Calls Tryz.prog 129 #[.string s] w fun e w' => e = .returned (.string s) ∧ Only [] w w' := by
  go_enter Tryz.func129, Tryz.ntmps129
  go_wp2_with (go_at_call 153; refine (Tryz.stringslite_Clone s _ hlim).mono ?_; rintro e w' ⟨rfl, hb⟩)
  go_ret
  exact ⟨rfl, Only.of_below hb (Nat.le_refl _)⟩
end
section
open Go.RowKit

theorem mayAll_drop (l : List ByteArray) (k : Nat) (h : k < l.length) : mayAll (l.drop k) = if badName l[k] then 1 else mayAll (l.drop (k + 1)) := by
  rw [List.drop_eq_getElem_cons h]
  rfl

theorem may_off {w : World} {db mb : Nat} {d : DS} {kv v : Value} {l : List ByteArray} (h : DiskAt w db mb d kv) (ho : d.on = false) :
    Calls Tryz.prog 175 #[.pointer (some ⟨db, 0, none⟩), v] w fun e w' => e = .returned (.int .i64 (d.may l)) ∧ w = w' := by
  have hm : d.may l = 14 := by simp [DS.may, ho]
  rw [hm]
  clear hm
  go_enter Tryz.func175, Tryz.ntmps175
  go_wp2_with (go_at_call 178; refine (on_any h).mono ?_; rintro e w' ⟨rfl, rfl⟩; rw [ho])
  go_ret
  exact ⟨rfl, rfl⟩
theorem may_on {w : World} {db mb : Nat} {d : DS} {kv v : Value} {l : List ByteArray} (h : DiskAt w db mb d kv) (ho : d.on = true) (hs : Slc w 1 v l.length (strs l)) :
    Calls Tryz.prog 175 #[.pointer (some ⟨db, 0, none⟩), v] w fun e w' => e = .returned (.int .i64 (d.may l)) ∧ w = w' := by
  have hm : d.may l = mayAll l := by simp [DS.may, ho]
  rw [hm]
  clear hm
  obtain ⟨A, cap, rfl, hnc, hcm, hl, hc⟩ := hs.cell
  have hcm' : l.length ≤ 9223372036854775807 := by unfold maxLen at hcm; omega
  clear hcm hl hnc
  go_enter Tryz.func175, Tryz.ntmps175
  go_wp2_with (go_at_call 178; refine (on_any h).mono ?_; rintro e w' ⟨rfl, rfl⟩; rw [ho])
  go_loop [12] (fun i => ∃ k : Nat, k ≤ l.length ∧ i = .int .i64 k ∧ Hid (mayAll l = mayAll (l.drop k))) (fun i => l.length - (intOf i).toNat)
  case atStart => exact ⟨0, Nat.zero_le _, rfl, rfl⟩
  case round =>
    obtain ⟨k, hk, rfl, hm⟩ := hrel
    by_cases hlt : k < l.length
    · obtain ⟨b, off, rfl, _, hcell⟩ : ∃ b off, A = some ⟨b, off, none⟩ ∧ b < w.heap.size ∧ ∀ j, j < (strs l).length → w.cell? ⟨b, off + j, none⟩ = (strs l)[j]? := by
        rcases hc with h0 | h0
        · omega
        · exact h0
      obtain ⟨s, hse⟩ : ∃ s, s = l[k] := ⟨_, rfl⟩
      have hck : w.cell? ⟨b, off + k, none⟩ = some (.string s) := by
        rw [hcell k (by simpa [strs] using hlt), hse]
        simp [strs, hlt]
      have hd : Hid (mayAll (l.drop k) = if badName s then 1 else mayAll (l.drop (k + 1))) := by rw [hse]; exact mayAll_drop l k hlt
      clear hse hc hcell
      by_cases h1 : s.size < 1
      · go_wp2
        go_ret
        refine ⟨?_, rfl⟩
        rw [hm.out, hd.out, if_pos (by simp [badName, h1])]
        rfl
      · by_cases h2 : 40 < s.size
        · go_wp2
          go_ret
          refine ⟨?_, rfl⟩
          rw [hm.out, hd.out, if_pos (by simp [badName, h2])]
          rfl
        · go_wp2
          go_round
          case rel => exact ⟨k + 1, by omega, by go_num, by rw [Hid, hm.out, hd.out, if_neg (by simp only [badName, Bool.or_eq_true, decide_eq_true_eq]; omega)]⟩
          case measure => simp [intOf]; omega
    · have hkl : k = l.length := by omega
      have hz : Hid (mayAll (l.drop k) = 0) := by rw [hkl, List.drop_length]; rfl
      clear hkl
      go_wp2
      go_ret
      refine ⟨?_, rfl⟩
      rw [hm.out, hz.out]
      rfl
theorem may_any {w : World} {db mb : Nat} {d : DS} {kv v : Value} {l : List ByteArray} (h : DiskAt w db mb d kv) (hs : Slc w 1 v l.length (strs l)) :
    Calls Tryz.prog 175 #[.pointer (some ⟨db, 0, none⟩), v] w fun e w' => e = .returned (.int .i64 (d.may l)) ∧ w = w' := by
  cases ho : d.on
  · exact may_off h ho
  · exact may_on h ho hs

theorem slc_one {w : World} {g : Nat} {s : ByteArray} {e : TypeId} (h : w.heap[g]? = some (.cells #[.string s] e (0, 0))) : Slc w 1 (.slice (some ⟨g, 0, none⟩) 1 1) [s].length (strs [s]) :=
  ⟨_, _, rfl, rfl, Nat.le_refl _, by unfold maxLen; omega, fun _ => ⟨_, 0, rfl, lt_of_block h, fun j hj => by
    rw [Nat.zero_add, cell_of_row _ _ _ _ _ _ h]
    simp [strs]⟩⟩
theorem zeroFile (w : World) : (zeroValue 225).run Tryz.prog w = .ok File.zero.val w := by kernel_rfl

theorem getV {d : DS} (n : ByteArray) : (aget (d.fs.map fun p => (p.1, p.2.val)) n).getD File.zero.val = .agg #[.string (d.get n).b, .int .i64 (d.get n).lasts, .bool (d.get n).known] := by
  rw [aget_map]
  unfold DS.get
  cases aget d.fs n <;> rfl
theorem isV {d : DS} (n : ByteArray) : (aget (d.fs.map fun p => (p.1, p.2.val)) n).isSome = (aget d.fs n).isSome := by
  rw [aget_map]
  cases aget d.fs n <;> rfl

theorem find_may {w : World} {db mb : Nat} {d : DS} {kv : Value} (h : DiskAt w db mb d kv) (n : ByteArray) (hm : d.may [n] ≠ 0) :
    Calls Tryz.prog 151 #[.pointer (some ⟨db, 0, none⟩), .string n] w fun e w' => e = .returned (.tuple #[(d.find n).1.val, .int .i64 (d.find n).2]) ∧ Only [] w w' := by
  have hf : d.find n = (File.zero, d.may [n]) := by simp [DS.find, hm]
  have hA : ∀ o1 o2, DiskAt ((w.alloc o1).alloc o2) db mb d kv := fun o1 o2 => h.only (((Only.refl [] w).alloc o1).alloc o2) (by simp) (by simp) (by simp)
  have hm1 : (d.may [n] != 0) = true := by simp [hm]
  rw [hf]
  clear hf hm
  go_enter Tryz.func151, Tryz.ntmps151
  go_wp2_with (go_at_call 175; refine (may_any (l := [n]) (hA _ _) (slc_one (heap_alloc2_new _ _ _))).mono ?_; rintro e w' ⟨rfl, rfl⟩)
  refine bodyPost_ret (v := .tuple #[File.zero.val, .int .i64 (d.may [n])]) (by simp [results, Tryz.results151, go_sem, File.zero, File.val]) rfl ⟨rfl, ?_⟩
  exact ((((Only.refl [] w).alloc _).alloc _))

theorem find_any {w : World} {db mb : Nat} {d : DS} {kv : Value} (h : DiskAt w db mb d kv) (n : ByteArray) :
    Calls Tryz.prog 151 #[.pointer (some ⟨db, 0, none⟩), .string n] w fun e w' => e = .returned (.tuple #[(d.find n).1.val, .int .i64 (d.find n).2]) ∧ Only [] w w' := by
  by_cases hm : d.may [n] = 0
  case neg => exact find_may h n hm
  have hA : ∀ o1 o2, DiskAt ((w.alloc o1).alloc o2) db mb d kv := fun o1 o2 => h.only (((Only.refl [] w).alloc o1).alloc o2) (by simp) (by simp) (by simp)
  have c2 : ∀ o1 o2, ((w.alloc o1).alloc o2).cell? ⟨db, 2, none⟩ = some (.map (some mb)) := fun o1 o2 => (hA o1 o2).blk.cell 2
  have hm1 : (d.may [n] != 0) = false := by simp [hm]
  cases hi : (aget d.fs n).isSome
  · have hf : d.find n = (File.zero, 8) := by simp [DS.find, hm, hi]
    rw [hf]
    clear hf hm
    go_enter Tryz.func151, Tryz.ntmps151
    go_wp2_with (first | (go_at_call 175; refine (may_any (l := [n]) (hA _ _) (slc_one (heap_alloc2_new _ _ _))).mono ?_; rintro e w' ⟨rfl, rfl⟩) | (at_lookup; refine wpList_lookup_ok_is rfl 166 rfl keyEnc_string Tryz.underlying166 Tryz.underlying9 (zeroFile _) n rfl rfl (hA _ _).map _ _ (getV n) ((isV n).trans hi) ?_))
    refine bodyPost_ret (v := .tuple #[File.zero.val, .int .i64 8]) (by simp [results, Tryz.results151, go_sem, File.zero, File.val]) rfl ⟨rfl, ?_⟩
    exact (((Only.refl [] w).alloc _).alloc _).alloc _
  · have hf : d.find n = (d.get n, 0) := by simp [DS.find, hm, hi]
    rw [hf]
    clear hf hm
    go_enter Tryz.func151, Tryz.ntmps151
    go_wp2_with (first | (go_at_call 175; refine (may_any (l := [n]) (hA _ _) (slc_one (heap_alloc2_new _ _ _))).mono ?_; rintro e w' ⟨rfl, rfl⟩) | (at_lookup; refine wpList_lookup_ok_is rfl 166 rfl keyEnc_string Tryz.underlying166 Tryz.underlying9 (zeroFile _) n rfl rfl (hA _ _).map _ _ (getV n) ((isV n).trans hi) ?_))
    refine bodyPost_ret (v := .tuple #[(d.get n).val, .int .i64 0]) (by simp [results, Tryz.results151, go_sem, File.val]) rfl ⟨rfl, ?_⟩
    exact (((Only.refl [] w).alloc _).alloc _).alloc _
end
section
open Go.RowKit Go.Sort

theorem DiskAt.only0 {w w' : World} {db mb : Nat} {d : DS} {kv : Value} (h : DiskAt w db mb d kv) (k : Only [] w w') : DiskAt w' db mb d kv := h.only k (by simp) (by simp) (by simp)
end
section
open Go.RowKit Go.MapKept Go.Maps Go.WideMaps
open Go.WideElems (Fit rd rg pl rd_mk rg_of)

/-- How an element reads where nobody looks at it. -/
def blind (_ : Value) : Option (DataW Unit × List MemPlace) := some (.nil, [])
theorem MapIs.owns {P : Program} {k : TypeId} (hk : P.underlying k = some .string) {w : World} {b : Nat} {kv : List (ByteArray × Value)} (h : MapIs Value.string w b kv) (hn : kv.length ≤ maxLen) (hs : ∀ p ∈ kv, p.1.size ≤ maxLen) :
    ∃ D0 : DataW Unit, w.ownsMap P k blind b kv.length D0 ∧ (strKeys D0).Perm (kv.map fun p => p.1.data.toList) ∧ Maps.size D0 = kv.length := by
  obtain ⟨es, clock, hb, hst, hm⟩ := h
  have hl : es.size = kv.length := by have := congrArg List.length hm; simpa using this
  have hx : ∀ x ∈ es.toList, ∃ s : ByteArray, x.key = .string s ∧ s.size ≤ maxLen := by
    intro x hx
    have : (x.key, x.val) ∈ kv.map (fun p => (Value.string p.1, p.2)) := by rw [← hm]; exact List.mem_map.2 ⟨x, hx, rfl⟩
    obtain ⟨p, hp, e⟩ := List.mem_map.1 this
    simp only [Prod.mk.injEq] at e
    exact ⟨p.1, e.1.symm, hs p hp⟩
  have hr : ∀ x ∈ es.toList, ∀ s, x.key = .string s → s.size ≤ maxLen → rg P k blind x = (.string s.data.toList, .nil) := by
    intro x _ s e h1
    have h2 := rd_mk (R := blind) (val := x.val) (born := x.born) (keyOf_string_mk hk h1) (rfl : blind x.val = some (.nil, []))
    rw [← e] at h2
    exact rg_of h2
  refine ⟨_, ⟨es, clock, hb, ⟨by omega, hst, ?_⟩, by omega, rfl⟩, ?_, ?_⟩
  · intro x hx'
    obtain ⟨s, e, h1⟩ := hx x hx'
    refine ⟨(.string s.data.toList, .nil), ?_⟩
    have h2 := rd_mk (R := blind) (val := x.val) (born := x.born) (keyOf_string_mk hk h1) (rfl : blind x.val = some (.nil, []))
    rw [← e] at h2
    exact h2
  · refine ((WideShapes.sorted_perm _).map _).trans ?_
    have e1 : (es.toList.map (rg P k blind)).map (fun p => strOf p.1) = kv.map fun p => p.1.data.toList := by
      apply List.ext_getElem?
      intro i
      have hi := congrArg (fun l => l[i]?) hm
      simp only [List.getElem?_map] at hi ⊢
      cases h1 : es.toList[i]? with
      | none =>
        rw [h1] at hi
        cases h2 : kv[i]? with
        | none => rfl
        | some p => rw [h2] at hi; simp at hi
      | some x =>
        rw [h1] at hi
        cases h2 : kv[i]? with
        | none => rw [h2] at hi; simp at hi
        | some p =>
          rw [h2] at hi
          simp only [Option.map_some, Option.some.injEq, Prod.mk.injEq] at hi
          have hp : p.1.size ≤ maxLen := hs p (List.mem_of_getElem? h2)
          have := hr x (List.mem_of_getElem? h1) p.1 hi.1 hp
          simp [this, strOf]
    rw [e1]
  · show (List.foldr DataW.insert [] (es.toList.map (rg P k blind))).length = _
    rw [(WideShapes.sorted_perm _).length_eq]
    simp [hl]

theorem strs_sorted (l : List (List UInt8)) : (l.map encStr) = strs (l.map fun x => ⟨x.toArray⟩) := by
  simp [strs, encStr]

theorem names_own {w : World} {db mb : Nat} {d : DS} {kv : Value} {M : Nat} (h : DiskAt w db mb d kv) (hk : Fs d.fs M) :
    Calls Tryz.prog 180 #[.pointer (some ⟨db, 0, none⟩)] w fun e w' => ∃ v base, e = .returned v ∧ w'.ownsRow base 9 1 v d.names.length (strs d.names) ∧ w.heap.size ≤ base ∧ Only [] w w' := by
  have c2 : w.cell? ⟨db, 2, none⟩ = some (.map (some mb)) := h.blk.cell 2
  have hlen : (d.fs.map fun p => (p.1, p.2.val)).length = d.fs.length := by simp
  have hf := hk.few
  obtain ⟨D0, hown, hperm, hsz⟩ := MapIs.owns (P := Tryz.prog) (k := 9) Tryz.underlying9 h.map (by rw [hlen]; unfold maxLen; omega) (by
    intro p hp
    obtain ⟨q, hq, rfl⟩ := List.mem_map.1 hp
    have := hk.short q hq
    unfold maxLen
    show q.1.size ≤ _
    omega)
  have hc := fun W => callsIn_wide.1 (Tryz.maps_Keys_204 (some mb) W)
  have hs := callsIn_wide.1 (Tryz.slices_Sorted_keys_203_204 mb _ D0 blind w hown (by rw [hsz, hlen]; unfold maxLen; omega) (by rw [hsz, hlen]; omega))
  have HS := Lib.hid hs
  have HC := Lib.hid hc
  clear hs hc
  go_enter Tryz.func180, Tryz.ntmps180
  go_wp2_with (first | (go_at_call 204; refine (HC.out _).mono ?_; rintro e w' ⟨rfl, rfl⟩) | (go_at_call 203; refine (HS.out).mono ?_; rintro e w' ⟨v, ss, rfl, hS, hrow, hnil, hb⟩))
  go_ret
  have e1 : ss.mergeSort (fun x y => decide (x ≤ y)) = (d.fs.map fun p => p.1.data.toList).mergeSort (fun x y => decide (x ≤ y)) := by
    refine mergeSort_of_perm ((hS.trans hperm).trans ?_)
    rw [List.map_map]
    exact List.Perm.refl _
  have e2 : (ss.mergeSort (fun x y => decide (x ≤ y))).map encStr = strs d.names := by
    rw [strs_sorted, e1]
    rfl
  have e3 : ss.length = d.names.length := by
    have := congrArg List.length e2
    simpa [strs] using this
  rw [e2, e3] at hrow
  exact ⟨v, _, rfl, hrow, by simp, ((Only.refl [] w).alloc _).below hb (Nat.le_refl _)⟩
end
end Go.Proofs.YteinoiicnmemhaaGreatDoor.J
