/- Contracts: may, find. -/
import Derived.Test.YtgahjdfjlfoioaaDk2
namespace Go.Proofs.Ytgahjdfjlfoioaa
open Go.RowKit

def strs (l : List ByteArray) : List Value := l.map Value.string

theorem mayAll_drop (l : List ByteArray) (k : Nat) (h : k < l.length) : mayAll (l.drop k) = if badName l[k] then 1 else mayAll (l.drop (k + 1)) := by
  rw [List.drop_eq_getElem_cons h]
  rfl

theorem may_off {w : World} {db mb : Nat} {d : DS} {kv v : Value} {l : List ByteArray} (h : DiskAt w db mb d kv) (ho : d.on = false) :
    Calls Try.prog 32 #[.pointer (some ⟨db, 0, none⟩), v] w fun e w' => e = .returned (.int .i64 (d.may l)) ∧ w = w' := by
  have hm : d.may l = 14 := by simp [DS.may, ho]
  rw [hm]
  clear hm
  go_enter Try.func32, Try.ntmps32
  go_wp2_with (go_at_call 16; refine (on_any h).mono ?_; rintro e w' ⟨rfl, rfl⟩; rw [ho])
  go_ret
  exact ⟨rfl, rfl⟩
theorem may_nil {w : World} (v : Value) :
    Calls Try.prog 32 #[.pointer none, v] w fun e w' => e = .returned (.int .i64 14) ∧ w = w' := by
  go_enter Try.func32, Try.ntmps32
  go_wp2_with (go_at_call 16; refine (on_nil _).mono ?_; rintro e w' ⟨rfl, rfl⟩)
  go_ret
  exact ⟨rfl, rfl⟩

theorem may_on {w : World} {db mb : Nat} {d : DS} {kv v : Value} {l : List ByteArray} (h : DiskAt w db mb d kv) (ho : d.on = true) (hs : Slc w 1 v l.length (strs l)) :
    Calls Try.prog 32 #[.pointer (some ⟨db, 0, none⟩), v] w fun e w' => e = .returned (.int .i64 (d.may l)) ∧ w = w' := by
  have hm : d.may l = mayAll l := by simp [DS.may, ho]
  rw [hm]
  clear hm
  obtain ⟨A, cap, rfl, hnc, hcm, hl, hc⟩ := hs.cell
  have hcm' : l.length ≤ 9223372036854775807 := by unfold maxLen at hcm; omega
  clear hcm hl hnc
  go_enter Try.func32, Try.ntmps32
  go_wp2_with (go_at_call 16; refine (on_any h).mono ?_; rintro e w' ⟨rfl, rfl⟩; rw [ho])
  go_loop [12] (fun i => ∃ k : Nat, k ≤ l.length ∧ i = .int .i64 k ∧ Hid (mayAll l = mayAll (l.drop k))) (fun i => l.length - (intOf i).toNat)
  case atStart => exact ⟨0, Nat.zero_le _, rfl, rfl⟩
  case round =>
    obtain ⟨k, hk, rfl, hm⟩ := hrel
    by_cases hlt : k < l.length
    · obtain ⟨b, off, rfl, _, hcell⟩ : ∃ b off, A = some ⟨b, off, none⟩ ∧ b < w.heap.size ∧ ∀ j, j < (strs l).length → w.cell? ⟨b, off + j, none⟩ = (strs l)[j]? := by
        rcases hc with h0 | h0
        · omega
        · exact h0
      obtain ⟨s, hse⟩ : ∃ s, s = l[k] := ⟨_, rfl⟩
      have hck : w.cell? ⟨b, off + k, none⟩ = some (.string s) := by
        rw [hcell k (by simpa [strs] using hlt), hse]
        simp [strs, hlt]
      have hd : Hid (mayAll (l.drop k) = if badName s then 1 else mayAll (l.drop (k + 1))) := by rw [hse]; exact mayAll_drop l k hlt
      clear hse hc hcell
      by_cases h1 : s.size < 1
      · go_wp2
        go_ret
        refine ⟨?_, rfl⟩
        rw [hm.out, hd.out, if_pos (by simp [badName, h1])]
        rfl
      · by_cases h2 : 40 < s.size
        · go_wp2
          go_ret
          refine ⟨?_, rfl⟩
          rw [hm.out, hd.out, if_pos (by simp [badName, h2])]
          rfl
        · go_wp2
          go_round
          case rel => exact ⟨k + 1, by omega, by go_num, by rw [Hid, hm.out, hd.out, if_neg (by simp only [badName, Bool.or_eq_true, decide_eq_true_eq]; omega)]⟩
          case measure => simp [intOf]; omega
    · have hkl : k = l.length := by omega
      have hz : Hid (mayAll (l.drop k) = 0) := by rw [hkl, List.drop_length]; rfl
      clear hkl
      go_wp2
      go_ret
      refine ⟨?_, rfl⟩
      rw [hm.out, hz.out]
      rfl
theorem may_any {w : World} {db mb : Nat} {d : DS} {kv v : Value} {l : List ByteArray} (h : DiskAt w db mb d kv) (hs : Slc w 1 v l.length (strs l)) :
    Calls Try.prog 32 #[.pointer (some ⟨db, 0, none⟩), v] w fun e w' => e = .returned (.int .i64 (d.may l)) ∧ w = w' := by
  cases ho : d.on
  · exact may_off h ho
  · exact may_on h ho hs

/-- What a variadic call lays: a new row of one text. -/
theorem slc_lit {w : World} (cs : List Value) (e : TypeId) (h : cs.length ≤ 1000) : Slc (w.alloc (.cells cs.toArray e)) 1 (.slice (some ⟨w.heap.size, 0, none⟩) cs.length cs.length) cs.length cs :=
  ⟨_, _, rfl, by simp, Nat.le_refl _, by unfold maxLen; omega, fun _ => ⟨_, 0, rfl, by simp, fun j hj => by
    rw [Nat.zero_add, cell_of_row _ _ _ _ _ _ (heap_alloc_new w _)]
    simp⟩⟩
theorem slc_one {w : World} {g : Nat} {s : ByteArray} {e : TypeId} (h : w.heap[g]? = some (.cells #[.string s] e (0, 0))) : Slc w 1 (.slice (some ⟨g, 0, none⟩) 1 1) [s].length (strs [s]) :=
  ⟨_, _, rfl, rfl, Nat.le_refl _, by unfold maxLen; omega, fun _ => ⟨_, 0, rfl, lt_of_block h, fun j hj => by
    rw [Nat.zero_add, cell_of_row _ _ _ _ _ _ h]
    simp [strs]⟩⟩
theorem zeroFile (w : World) : (zeroValue 61).run Try.prog w = .ok File.zero.val w := by kernel_rfl

theorem getV {d : DS} (n : ByteArray) : (aget (d.fs.map fun p => (p.1, p.2.val)) n).getD File.zero.val = .agg #[.string (d.get n).b, .int .i64 (d.get n).lasts, .bool (d.get n).known] := by
  rw [aget_map]
  unfold DS.get
  cases aget d.fs n <;> rfl
theorem isV {d : DS} (n : ByteArray) : (aget (d.fs.map fun p => (p.1, p.2.val)) n).isSome = (aget d.fs n).isSome := by
  rw [aget_map]
  cases aget d.fs n <;> rfl

theorem find_may {w : World} {db mb : Nat} {d : DS} {kv : Value} (h : DiskAt w db mb d kv) (n : ByteArray) (hm : d.may [n] ≠ 0) :
    Calls Try.prog 36 #[.pointer (some ⟨db, 0, none⟩), .string n] w fun e w' => e = .returned (.tuple #[(d.find n).1.val, .int .i64 (d.find n).2]) ∧ Only [] w w' := by
  have hf : d.find n = (File.zero, d.may [n]) := by simp [DS.find, hm]
  have hA : ∀ o1 o2, DiskAt ((w.alloc o1).alloc o2) db mb d kv := fun o1 o2 => h.only (((Only.refl [] w).alloc o1).alloc o2) (by simp) (by simp) (by simp)
  have hm1 : (d.may [n] != 0) = true := by simp [hm]
  rw [hf]
  clear hf hm
  go_enter Try.func36, Try.ntmps36
  go_wp2_with (go_at_call 32; refine (may_any (l := [n]) (hA _ _) (slc_one (heap_alloc2_new _ _ _))).mono ?_; rintro e w' ⟨rfl, rfl⟩)
  refine bodyPost_ret (v := .tuple #[File.zero.val, .int .i64 (d.may [n])]) (by simp [results, Try.results36, go_sem, File.zero, File.val]) rfl ⟨rfl, ?_⟩
  exact ((((Only.refl [] w).alloc _).alloc _))

theorem find_any {w : World} {db mb : Nat} {d : DS} {kv : Value} (h : DiskAt w db mb d kv) (n : ByteArray) :
    Calls Try.prog 36 #[.pointer (some ⟨db, 0, none⟩), .string n] w fun e w' => e = .returned (.tuple #[(d.find n).1.val, .int .i64 (d.find n).2]) ∧ Only [] w w' := by
  by_cases hm : d.may [n] = 0
  case neg => exact find_may h n hm
  have hA : ∀ o1 o2, DiskAt ((w.alloc o1).alloc o2) db mb d kv := fun o1 o2 => h.only (((Only.refl [] w).alloc o1).alloc o2) (by simp) (by simp) (by simp)
  have c2 : ∀ o1 o2, ((w.alloc o1).alloc o2).cell? ⟨db, 2, none⟩ = some (.map (some mb)) := fun o1 o2 => (hA o1 o2).blk.cell 2
  have hm1 : (d.may [n] != 0) = false := by simp [hm]
  cases hi : (aget d.fs n).isSome
  · have hf : d.find n = (File.zero, 8) := by simp [DS.find, hm, hi]
    rw [hf]
    clear hf hm
    go_enter Try.func36, Try.ntmps36
    go_wp2_with (first | (go_at_call 32; refine (may_any (l := [n]) (hA _ _) (slc_one (heap_alloc2_new _ _ _))).mono ?_; rintro e w' ⟨rfl, rfl⟩) | (at_lookup; refine wpList_lookup_ok_is rfl 55 rfl keyEnc_string Try.underlying55 Try.underlying9 (zeroFile _) n rfl rfl (hA _ _).map _ _ (getV n) ((isV n).trans hi) ?_))
    refine bodyPost_ret (v := .tuple #[File.zero.val, .int .i64 8]) (by simp [results, Try.results36, go_sem, File.zero, File.val]) rfl ⟨rfl, ?_⟩
    exact (((Only.refl [] w).alloc _).alloc _).alloc _
  · have hf : d.find n = (d.get n, 0) := by simp [DS.find, hm, hi]
    rw [hf]
    clear hf hm
    go_enter Try.func36, Try.ntmps36
    go_wp2_with (first | (go_at_call 32; refine (may_any (l := [n]) (hA _ _) (slc_one (heap_alloc2_new _ _ _))).mono ?_; rintro e w' ⟨rfl, rfl⟩) | (at_lookup; refine wpList_lookup_ok_is rfl 55 rfl keyEnc_string Try.underlying55 Try.underlying9 (zeroFile _) n rfl rfl (hA _ _).map _ _ (getV n) ((isV n).trans hi) ?_))
    refine bodyPost_ret (v := .tuple #[(d.get n).val, .int .i64 0]) (by simp [results, Try.results36, go_sem, File.val]) rfl ⟨rfl, ?_⟩
    exact (((Only.refl [] w).alloc _).alloc _).alloc _
theorem find_nil (w : World) (n : ByteArray) :
    Calls Try.prog 36 #[.pointer none, .string n] w fun e w' => e = .returned (.tuple #[File.zero.val, .int .i64 14]) ∧ Only [] w w' := by
  go_enter Try.func36, Try.ntmps36
  go_wp2_with (go_at_call 32; refine (may_nil _).mono ?_; rintro e w' ⟨rfl, rfl⟩)
  refine bodyPost_ret (v := .tuple #[File.zero.val, .int .i64 14]) (by simp [results, Try.results36, go_sem, File.zero, File.val]) rfl ⟨rfl, ?_⟩
  exact ((Only.refl [] w).alloc _).alloc _
end Go.Proofs.Ytgahjdfjlfoioaa
