/- The laws' own view of a disk: it lies above a world that stays as it is, its numbers are small; the contracts in this view; alive. -/
import Derived.Test.YtgahjdfjlfoioaaDk13
import Derived.Test.YtgahjdfjlfoioaaDk11
namespace Go.Proofs.Ytgahjdfjlfoioaa
open Go.RowKit Go.Sort
namespace DS
theorem tick_on_armed {d : DS} (hg : d.goes = false) : d.done = d.tick := by unfold done; rw [if_neg (by simp [hg])]
theorem keep_crash (d : DS) (k : List Int) : (d.crash k).keep = d.keep ∨ (d.crash k).keep = [] := by
  unfold crash; split
  · exact .inr rfl
  · exact .inl rfl
theorem keep_done (d : DS) : d.done.keep = d.keep ∨ d.done.keep = [] := by
  unfold done; split
  · rcases keep_crash d.tick d.keep with q | q
    · exact .inl (q.trans (tick_keep d))
    · exact .inr q
  · exact .inl (tick_keep d)
theorem doneE_cases (d : DS) : (d.doneE = 0 ∧ d.done = d.tick) ∨ (d.doneE = 14 ∧ d.done = d.tick.crash d.keep) := by
  unfold doneE done
  cases d.goes
  · exact .inl ⟨rfl, rfl⟩
  · exact .inr ⟨rfl, rfl⟩
/-- Two disks keep alike much for a crash. -/
def KeepLe (d d' : DS) : Prop := d'.keep.length ≤ d.keep.length
theorem KeepLe.of {d d' : DS} (h : d'.keep = d.keep ∨ d'.keep = []) : KeepLe d d' := by
  unfold KeepLe
  rcases h with h | h <;> rw [h] <;> simp
theorem append_ok {d : DS} {M : Nat} (h : d.Ok M) (n data : ByteArray) : (d.append n data).2.Ok (M + data.size) ∧ KeepLe d (d.append n data).2 := by
  have hm : d.Ok (M + data.size) := ⟨h.left, h.files, Nat.le_trans h.bytes (Nat.le_add_right _ _), h.few, h.nodup, h.short⟩
  unfold append
  split
  · exact ⟨hm, KeepLe.of (.inl rfl)⟩
  · split
    · exact ⟨hm, KeepLe.of (.inl rfl)⟩
    · rename_i h1 h2
      have h1' : d.may [n] = 0 := by simpa using h1
      exact ⟨(h.appended h1' (by simpa using h2)).done (may_on (l := [n]) h1'), KeepLe.of (keep_done _)⟩
theorem sync_ok {d : DS} {M : Nat} (h : d.Ok M) (n : ByteArray) : (d.sync n).2.Ok M ∧ KeepLe d (d.sync n).2 := by
  unfold sync
  split
  · exact ⟨h, KeepLe.of (.inl rfl)⟩
  · rename_i h1
    have hf := find_is (by simpa using h1)
    have hd := h.done (may_on hf.1)
    split
    · exact ⟨hd, KeepLe.of (keep_done _)⟩
    · rename_i h2
      rcases doneE_cases d with ⟨q, q2⟩ | ⟨q, q2⟩
      · have e : d.get n = d.done.get n := by unfold get; rw [q2, tick_fs]
        rw [e]
        exact ⟨hd.synced (by rw [q2, tick_fs]; exact hf.2.1), KeepLe.of (keep_done _)⟩
      · rw [q] at h2; simp at h2
theorem truncate_ok {d : DS} {M : Nat} (h : d.Ok M) (n : ByteArray) (k : Int) : (d.truncate n k).2.Ok M ∧ KeepLe d (d.truncate n k).2 := by
  unfold truncate
  split
  · exact ⟨h, KeepLe.of (.inl rfl)⟩
  · rename_i h1
    have hf := find_is (by simpa using h1)
    have hd := h.done (may_on hf.1)
    split
    · exact ⟨h, KeepLe.of (.inl rfl)⟩
    · rename_i h3
      split
      · exact ⟨hd, KeepLe.of (keep_done _)⟩
      · rename_i h2
        rcases doneE_cases d with ⟨q, q2⟩ | ⟨q, q2⟩
        · have e : d.get n = d.done.get n := by unfold get; rw [q2, tick_fs]
          rw [e]
          rw [e] at h3
          exact ⟨hd.truncated (by rw [q2, tick_fs]; exact hf.2.1) (by omega) (by omega), KeepLe.of (keep_done _)⟩
        · rw [q] at h2; simp at h2
theorem remove_ok {d : DS} {M : Nat} (h : d.Ok M) (n : ByteArray) : (d.remove n).2.Ok M ∧ KeepLe d (d.remove n).2 := by
  unfold remove
  split
  · exact ⟨h, KeepLe.of (.inl rfl)⟩
  · rename_i h1
    have hf := find_is (by simpa using h1)
    have hd := h.done (may_on hf.1)
    split
    · exact ⟨hd, KeepLe.of (keep_done _)⟩
    · exact ⟨hd.removed n, KeepLe.of (keep_done _)⟩
theorem rename_ok {d : DS} {M : Nat} (h : d.Ok M) (m n : ByteArray) : (d.rename m n).2.Ok M ∧ KeepLe d (d.rename m n).2 := by
  unfold rename
  split
  · exact ⟨h, KeepLe.of (.inl rfl)⟩
  · rename_i h0
    split
    · exact ⟨h, KeepLe.of (.inl rfl)⟩
    · rename_i h1
      have hf := find_is (by simpa using h1)
      have hd := h.done (may_on hf.1)
      split
      · exact ⟨hd, KeepLe.of (keep_done _)⟩
      · rename_i h2
        rcases doneE_cases d with ⟨q, q2⟩ | ⟨q, q2⟩
        · have e : d.get m = d.done.get m := by unfold get; rw [q2, tick_fs]
          rw [e]
          have hm2 : d.done.may [m, n] = 0 := by
            have h0' : d.may [m, n] = 0 := by simpa using h0
            unfold may at h0' ⊢
            rw [q2, tick_on]; exact h0'
          exact ⟨hd.renamed hm2 (by rw [q2, tick_fs]; exact hf.2.1), KeepLe.of (keep_done _)⟩
        · rw [q] at h2; simp at h2
theorem new_ok (room : Int) : (DS.new room).Ok 0 := ⟨fun q => (by cases q), fun p hp => (by cases hp), Nat.le_refl _, by simp [new], List.nodup_nil, fun p hp => (by cases hp)⟩
theorem crash_ok {d : DS} {M : Nat} (h : d.Ok M) (k : List Int) : (d.crash k).Ok M ∧ KeepLe d (d.crash k) := ⟨h.crash k, KeepLe.of (keep_crash d k)⟩
theorem restore_ok {d : DS} {M : Nat} (h : d.Ok M) : d.restore.Ok M ∧ KeepLe d d.restore := ⟨⟨h.left, h.files, h.bytes, h.few, h.nodup, h.short⟩, Nat.le_refl _⟩
theorem arm_ok {d : DS} {M : Nat} (h : d.Ok M) (n : Int) (k : List Int) : (d.arm n k).Ok M := ⟨fun q => by simpa [arm] using q, h.files, h.bytes, h.few, h.nodup, h.short⟩
end DS

/-- The disk d lies above the world a, which is as it was; M bounds its bytes. -/
structure Has (a w : World) (db mb : Nat) (d : DS) (M : Nat) : Prop where
  only : Only [] a w
  dbn : a.heap.size ≤ db
  mbn : a.heap.size ≤ mb
  disk : ∃ kv, DiskAt w db mb d kv ∧ ∀ g, kv.ownBlock = some g → a.heap.size ≤ g
  ok : d.Ok M
  kl : d.keep.length ≤ 1000000000
section
variable {a w w' : World} {db mb M : Nat} {d d' : DS}
theorem Has.of (h : Has a w db mb d M) {M' : Nat} (ho : d'.Ok M' ∧ d.KeepLe d') (hO : Only [db, mb] w w') (hd : ∃ kv, DiskAt w' db mb d' kv ∧ ∀ g, kv.ownBlock = some g → a.heap.size ≤ g) : Has a w' db mb d' M' :=
  ⟨h.only.step hO (fun i hi => by simp at hi; rcases hi with rfl | rfl; exact .inr h.dbn; exact .inr h.mbn), h.dbn, h.mbn, hd, ho.1, Nat.le_trans ho.2 h.kl⟩
theorem Has.leads {kv : Value} (h : Has a w db mb d M) {M' : Nat} (ho : d'.Ok M' ∧ d.KeepLe d') (hkv : ∀ g, kv.ownBlock = some g → a.heap.size ≤ g) (hl : Leads db mb w kv w' d') : Has a w' db mb d' M' := by
  obtain ⟨kv', h1, h2, h3⟩ := hl
  refine h.of ho h3 ⟨kv', h1, fun g hg => ?_⟩
  rcases h2 g hg with q | q
  · exact hkv g q
  · exact Nat.le_trans h.only.size q
theorem Has.keep (h : Has a w db mb d M) (k : Only [] w w') : Has a w' db mb d M := by
  obtain ⟨kv, h1, h2⟩ := h.disk
  exact ⟨h.only.step k (by simp), h.dbn, h.mbn, ⟨kv, h1.only k (by simp) (by simp) (by simp), h2⟩, h.ok, h.kl⟩
theorem Has.mono (h : Has a w db mb d M) {M' : Nat} (hm : M ≤ M') : Has a w db mb d M' :=
  ⟨h.only, h.dbn, h.mbn, h.disk, ⟨h.ok.left, h.ok.files, Nat.le_trans h.ok.bytes hm, h.ok.few, h.ok.nodup, h.ok.short⟩, h.kl⟩
theorem Has.lt (h : Has a w db mb d M) : db < w.heap.size ∧ mb < w.heap.size := by
  obtain ⟨kv, h1, _⟩ := h.disk
  exact ⟨h1.blk.lt, h1.map.lt⟩
theorem has_new (a w : World) (ha : Only [] a w) (room : Int) (hr : -9223372036854775808 ≤ room ∧ room ≤ 9223372036854775807) :
    Calls Try.prog 10 #[.int .i64 room] w fun e w' => e = .returned (.pointer (some ⟨w.heap.size + 1, 0, none⟩)) ∧ Has a w' (w.heap.size + 1) w.heap.size (DS.new room) 0 :=
  (new_any w hr).mono fun e w' ⟨h1, h2, h3⟩ => ⟨h1, ⟨ha.step h3 (by simp), Nat.le_trans ha.size (Nat.le_succ _), ha.size, ⟨_, h2, fun g hg => by cases hg⟩, DS.new_ok room, by simp [DS.new]⟩⟩
theorem has_append (h : Has a w db mb d M) (n data : ByteArray) (hM : M + data.size ≤ 1125899906842624) :
    Calls Try.prog 11 #[.pointer (some ⟨db, 0, none⟩), .string n, .string data] w fun e w' => e = .returned (.int .i64 (d.append n data).1) ∧ Has a w' db mb (d.append n data).2 (M + data.size) := by
  obtain ⟨kv, h1, h2⟩ := h.disk
  exact (append_any h1 h.ok n data hM).mono fun e w' ⟨q1, q2⟩ => ⟨q1, h.leads (DS.append_ok h.ok n data) h2 q2⟩
theorem has_sync (h : Has a w db mb d M) (hM : M ≤ 1125899906842624) (n : ByteArray) :
    Calls Try.prog 14 #[.pointer (some ⟨db, 0, none⟩), .string n] w fun e w' => e = .returned (.int .i64 (d.sync n).1) ∧ Has a w' db mb (d.sync n).2 M := by
  obtain ⟨kv, h1, h2⟩ := h.disk
  exact (sync_any h1 h.ok hM n).mono fun e w' ⟨q1, q2⟩ => ⟨q1, h.leads (DS.sync_ok h.ok n) h2 q2⟩
theorem has_truncate (h : Has a w db mb d M) (hM : M ≤ 1125899906842624) (n : ByteArray) (k : Int) :
    Calls Try.prog 31 #[.pointer (some ⟨db, 0, none⟩), .string n, .int .i64 k] w fun e w' => e = .returned (.int .i64 (d.truncate n k).1) ∧ Has a w' db mb (d.truncate n k).2 M := by
  obtain ⟨kv, h1, h2⟩ := h.disk
  exact (truncate_any h1 h.ok hM n k).mono fun e w' ⟨q1, q2⟩ => ⟨q1, h.leads (DS.truncate_ok h.ok n k) h2 q2⟩
theorem has_remove (h : Has a w db mb d M) (hM : M ≤ 1125899906842624) (n : ByteArray) :
    Calls Try.prog 13 #[.pointer (some ⟨db, 0, none⟩), .string n] w fun e w' => e = .returned (.int .i64 (d.remove n).1) ∧ Has a w' db mb (d.remove n).2 M := by
  obtain ⟨kv, h1, h2⟩ := h.disk
  exact (remove_any h1 h.ok hM n).mono fun e w' ⟨q1, q2⟩ => ⟨q1, h.leads (DS.remove_ok h.ok n) h2 q2⟩
theorem has_rename (h : Has a w db mb d M) (hM : M ≤ 1125899906842624) (m n : ByteArray) :
    Calls Try.prog 24 #[.pointer (some ⟨db, 0, none⟩), .string m, .string n] w fun e w' => e = .returned (.int .i64 (d.rename m n).1) ∧ Has a w' db mb (d.rename m n).2 M := by
  obtain ⟨kv, h1, h2⟩ := h.disk
  exact (rename_any h1 h.ok hM m n).mono fun e w' ⟨q1, q2⟩ => ⟨q1, h.leads (DS.rename_ok h.ok m n) h2 q2⟩
theorem has_crash {v : Value} {keep : List Int} (h : Has a w db mb d M) (hM : M ≤ 1125899906842624) (hs : Slc w 1 v keep.length (ints keep)) (hap : ∀ g, v.ownBlock = some g → g ≠ db ∧ g ≠ mb) :
    Calls Try.prog 18 #[.pointer (some ⟨db, 0, none⟩), v] w fun e w' => e = .returned (.int .i64 (d.lost keep)) ∧ Has a w' db mb (d.crash keep) M := by
  obtain ⟨kv, h1, h2⟩ := h.disk
  exact (crash_any h1 h.ok.fs hM hs hap).mono fun e w' ⟨q1, ⟨kv', q2, q3⟩, q4⟩ => ⟨q1, h.leads (DS.crash_ok h.ok keep) h2 ⟨kv', q2, q3, q4⟩⟩
theorem has_restore (h : Has a w db mb d M) :
    Calls Try.prog 19 #[.pointer (some ⟨db, 0, none⟩)] w fun e w' => e = .returned (.tuple #[]) ∧ Has a w' db mb d.restore M := by
  obtain ⟨kv, h1, h2⟩ := h.disk
  exact (restore_any h1).mono fun e w' ⟨q1, q2, q3⟩ => ⟨q1, h.of (DS.restore_ok h.ok) (q3.mono (by simp)) ⟨kv, q2, h2⟩⟩
theorem has_arm {v : Value} {zs : List Int} (h : Has a w db mb d M) {n : Int} (hn : -9223372036854775808 ≤ n ∧ n ≤ 9223372036854775807) (hs : Slc w 1 v zs.length (ints zs)) (hb : zs.length ≤ 1000000) :
    Calls Try.prog 15 #[.pointer (some ⟨db, 0, none⟩), .int .i64 n, v] w fun e w' => e = .returned (.tuple #[]) ∧ Has a w' db mb (d.arm n zs) M := by
  obtain ⟨kv, h1, h2⟩ := h.disk
  refine (arm_any h1 hn hs (by omega)).mono fun e w' ⟨q1, kv', q2, q3, q4⟩ => ⟨q1, ?_⟩
  exact ⟨h.only.step q4 (fun i hi => by simp at hi; subst hi; exact .inr h.dbn), h.dbn, h.mbn, ⟨kv', q2, fun g hg => Nat.le_trans h.only.size (q3 g hg)⟩, DS.arm_ok h.ok n zs, by show zs.length ≤ _; omega⟩
theorem has_on (h : Has a w db mb d M) : Calls Try.prog 16 #[.pointer (some ⟨db, 0, none⟩)] w fun e w' => e = .returned (.bool d.on) ∧ w = w' := by
  obtain ⟨kv, h1, _⟩ := h.disk
  exact on_any h1
theorem has_used (h : Has a w db mb d M) (hM : M ≤ 1125899906842624) : Calls Try.prog 12 #[.pointer (some ⟨db, 0, none⟩)] w fun e w' => e = .returned (.int .i64 d.used) ∧ Has a w' db mb d M := by
  obtain ⟨kv, h1, _⟩ := h.disk
  exact (used_any h1 h.ok.fs.bytes (by omega)).mono fun e w' ⟨q1, q2⟩ => ⟨q1, h.keep q2⟩
theorem has_read (h : Has a w db mb d M) (hM : M ≤ 1125899906842624) (n : ByteArray) (x k : Int) :
    Calls Try.prog 20 #[.pointer (some ⟨db, 0, none⟩), .string n, .int .i64 x, .int .i64 k] w fun e w' => e = .returned (.tuple #[.string (d.read n x k).1, .int .i64 (d.read n x k).2]) ∧ Has a w' db mb d M := by
  obtain ⟨kv, h1, _⟩ := h.disk
  have hg : (d.get n).b.size ≤ M := (h.ok.fs.fok.get n).2.2
  exact (read_any h1 n x k (by omega)).mono fun e w' ⟨q1, q2⟩ => ⟨q1, h.keep q2⟩
theorem has_size (h : Has a w db mb d M) (n : ByteArray) :
    Calls Try.prog 21 #[.pointer (some ⟨db, 0, none⟩), .string n] w fun e w' => e = .returned (.tuple #[.int .i64 (d.size n).1, .int .i64 (d.size n).2]) ∧ Has a w' db mb d M := by
  obtain ⟨kv, h1, _⟩ := h.disk
  exact (size_any h1 n).mono fun e w' ⟨q1, q2⟩ => ⟨q1, h.keep q2⟩
theorem has_unsynced (h : Has a w db mb d M) (hM : M ≤ 1125899906842624) (n : ByteArray) :
    Calls Try.prog 17 #[.pointer (some ⟨db, 0, none⟩), .string n] w fun e w' => e = .returned (.int .i64 (d.unsynced n)) ∧ Has a w' db mb d M := by
  obtain ⟨kv, h1, _⟩ := h.disk
  exact (unsynced_any h1 h.ok.fs hM n).mono fun e w' ⟨q1, q2⟩ => ⟨q1, h.keep q2⟩
end
theorem slc_int {w : World} {g : Nat} {z : Int} {e : TypeId} (h : w.heap[g]? = some (.cells #[.int .i64 z] e (0, 0))) : Slc w 1 (.slice (some ⟨g, 0, none⟩) 1 1) [z].length (ints [z]) :=
  ⟨_, _, rfl, rfl, Nat.le_refl _, by unfold maxLen; omega, fun _ => ⟨_, 0, rfl, lt_of_block h, fun j hj => by
    rw [Nat.zero_add, cell_of_row _ _ _ _ _ _ h]
    simp [ints]⟩⟩

/-! ## alive -/
def al1 : DS := ⟨true, 0, [(⟨#[97]⟩, ⟨⟨#[120,121]⟩, 0, false⟩)], false, 0, []⟩
def al2 : DS := ⟨true, 0, [(⟨#[97]⟩, ⟨⟨#[120,121]⟩, 2, true⟩)], false, 0, []⟩
def al3 : DS := ⟨true, 0, [(⟨#[97]⟩, ⟨⟨#[120,121,122,122]⟩, 2, true⟩)], false, 0, []⟩
def al4 : DS := ⟨false, 0, [(⟨#[97]⟩, ⟨⟨#[120,121,122]⟩, 3, true⟩)], false, -1, []⟩
def al5 : DS := ⟨true, 0, [(⟨#[97]⟩, ⟨⟨#[120,121,122]⟩, 3, true⟩)], false, -1, []⟩
theorem al1_is : (DS.new 0).append ⟨#[97]⟩ ⟨#[120,121]⟩ = (0, al1) := by kernel_rfl
theorem al2_is : al1.sync ⟨#[97]⟩ = (0, al2) := by kernel_rfl
theorem al3_is : al2.append ⟨#[97]⟩ ⟨#[122,122]⟩ = (0, al3) := by kernel_rfl
theorem names_one (d : DS) (n : ByteArray) (f : File) (h : d.fs = [(n, f)]) : d.names = [n] := by
  unfold DS.names
  rw [h]
  simp
theorem al4_is : al3.crash [1] = al4 := by
  unfold DS.crash
  rw [names_one al3 _ _ rfl]
  kernel_rfl
theorem al4_lost : al3.lost [1] = 1 := by
  unfold DS.lost
  rw [names_one al3 _ _ rfl]
  kernel_rfl
theorem al5_read : al5.read ⟨#[97]⟩ 0 3 = (⟨#[120,121,122]⟩, 0) := by kernel_rfl
theorem al5_used : al5.used = 3 := by kernel_rfl
section
variable {a w : World} {db mb M : Nat}
theorem ca1 (w : World) (h : Has a w db mb (DS.new 0) 0) : Calls Try.prog 11 #[.pointer (some ⟨db, 0, none⟩), .string ⟨#[97]⟩, .string ⟨#[120,121]⟩] w fun e w' => e = .returned (.int .i64 0) ∧ Has a w' db mb al1 2 := by
  have := has_append h ⟨#[97]⟩ ⟨#[120,121]⟩ (by decide)
  rwa [al1_is] at this
theorem ca2 (w : World) (h : Has a w db mb al1 2) : Calls Try.prog 14 #[.pointer (some ⟨db, 0, none⟩), .string ⟨#[97]⟩] w fun e w' => e = .returned (.int .i64 0) ∧ Has a w' db mb al2 2 := by
  have := has_sync h (by decide) ⟨#[97]⟩
  rwa [al2_is] at this
theorem ca3 (w : World) (h : Has a w db mb al2 2) : Calls Try.prog 11 #[.pointer (some ⟨db, 0, none⟩), .string ⟨#[97]⟩, .string ⟨#[122,122]⟩] w fun e w' => e = .returned (.int .i64 0) ∧ Has a w' db mb al3 4 := by
  have := has_append h ⟨#[97]⟩ ⟨#[122,122]⟩ (by decide)
  rwa [al3_is] at this
theorem ca4 (w : World) (h : Has a w db mb al3 4) (g : Nat) (e : TypeId) (hb : w.heap[g]? = some (.cells #[.int .i64 1] e (0, 0))) (hg : g ≠ db ∧ g ≠ mb) :
    Calls Try.prog 18 #[.pointer (some ⟨db, 0, none⟩), .slice (some ⟨g, 0, none⟩) 1 1] w fun e w' => e = .returned (.int .i64 1) ∧ Has a w' db mb al4 4 := by
  have := has_crash h (by decide) (slc_int hb) (fun i hi => by cases hi; exact hg)
  rwa [al4_is, al4_lost] at this
theorem ca5 (w : World) (h : Has a w db mb al4 4) : Calls Try.prog 19 #[.pointer (some ⟨db, 0, none⟩)] w fun e w' => e = .returned (.tuple #[]) ∧ Has a w' db mb al5 4 := has_restore h
theorem ca6 (w : World) (h : Has a w db mb al5 4) : Calls Try.prog 20 #[.pointer (some ⟨db, 0, none⟩), .string ⟨#[97]⟩, .int .i64 0, .int .i64 3] w fun e w' => e = .returned (.tuple #[.string ⟨#[120,121,122]⟩, .int .i64 0]) ∧ Has a w' db mb al5 4 := by
  have := has_read h (by decide) ⟨#[97]⟩ 0 3
  rwa [al5_read] at this
theorem ca7 (w : World) (h : Has a w db mb al5 4) : Calls Try.prog 16 #[.pointer (some ⟨db, 0, none⟩)] w fun e w' => e = .returned (.bool true) ∧ w = w' := has_on h
theorem ca8 (w : World) (h : Has a w db mb al5 4) : Calls Try.prog 12 #[.pointer (some ⟨db, 0, none⟩)] w fun e w' => e = .returned (.int .i64 3) ∧ Has a w' db mb al5 4 := by
  have := has_used h (by decide)
  rwa [al5_used] at this
end
set_option maxHeartbeats 1000000 in
theorem alive_any (w : World) : Calls Try.prog 9 #[] w fun e w' => e = .returned (.bool true) ∧ Only [] w w' := by
  go_enter Try.func9, Try.ntmps9
  go_wp2_with (first
    | (go_at_call 10; refine (has_new w w (Only.refl [] w) 0 (by decide)).mono ?_; rintro e w1 ⟨rfl, h0⟩)
    | (go_at_call 11; first | (refine (ca3 _ h2).mono ?_; rintro e w1 ⟨rfl, h3⟩) | (refine (ca1 _ h0).mono ?_; rintro e w1 ⟨rfl, h1⟩))
    | (go_at_call 14; refine (ca2 _ h1).mono ?_; rintro e w1 ⟨rfl, h2⟩)
    | (go_at_call 18; refine (ca4 _ (h3.keep ((Only.refl [] _).alloc _)) _ _ (heap_alloc_new _ _) ?_).mono ?_; rotate_left; rintro e w1 ⟨rfl, h4⟩)
    | (go_at_call 19; refine (ca5 _ h4).mono ?_; rintro e w1 ⟨rfl, h5⟩)
    | (go_at_call 20; refine (ca6 _ h5).mono ?_; rintro e w1 ⟨rfl, h6⟩)
    | (go_at_call 16; refine (ca7 _ h6).mono ?_; rintro e w1 ⟨rfl, rfl⟩)
    | (go_at_call 12; refine (ca8 _ h6).mono ?_; rintro e w1 ⟨rfl, h7⟩))
  · go_ret
    exact ⟨rfl, h7.only⟩
  · have := h3.lt
    omega
end Go.Proofs.Ytgahjdfjlfoioaa
