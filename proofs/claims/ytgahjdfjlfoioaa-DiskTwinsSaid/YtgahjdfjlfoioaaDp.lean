/- The simulated disk as plain data: what keeps its numbers small is kept by each method. No program is named. -/
import Derived.Test.YtgahjdfjlfoioaaDs
namespace Go.Proofs.Ytgahjdfjlfoioaa
open Go.RowKit

theorem mem_aput {κ ν : Type} [DecidableEq κ] {l : List (κ × ν)} {k : κ} {v : ν} {p : κ × ν} (h : p ∈ aput l k v) : p ∈ l ∨ p = (k, v) := by
  induction l with
  | nil => simp [aput] at h; exact .inr h
  | cons q l ih =>
    obtain ⟨a, b⟩ := q
    simp only [aput] at h
    split at h
    · rcases List.mem_cons.1 h with h | h
      · exact .inr h
      · exact .inl (List.mem_cons_of_mem _ h)
    · rcases List.mem_cons.1 h with h | h
      · exact .inl (h ▸ List.mem_cons_self)
      · rcases ih h with h | h
        · exact .inl (List.mem_cons_of_mem _ h)
        · exact .inr h
theorem adel_aput_none {κ ν : Type} [DecidableEq κ] {l : List (κ × ν)} {k : κ} (v : ν) (h : aget l k = none) : adel (aput l k v) k = l := by
  induction l with
  | nil => simp [aput, adel]
  | cons p l ih =>
    obtain ⟨a, b⟩ := p
    simp only [aget] at h
    split at h
    · cases h
    · rename_i hne
      simp only [aput, if_neg hne, adel, ih h]

def sizes (l : List (ByteArray × File)) : Nat := (l.map fun p => p.2.b.size).sum
theorem sizes_split (l1 l2 : List (ByteArray × File)) (p : ByteArray × File) : sizes (l1 ++ p :: l2) = p.2.b.size + sizes (l1 ++ l2) := by
  simp [sizes]; omega
theorem sizes_mem {l : List (ByteArray × File)} {p : ByteArray × File} (h : p ∈ l) : p.2.b.size ≤ sizes l := by
  obtain ⟨s, t, rfl⟩ := List.append_of_mem h
  rw [sizes_split]; omega
theorem sizes_aput (l : Files) (n : ByteArray) (f : File) : sizes (aput l n f) + ((aget l n).getD File.zero).b.size = sizes l + f.b.size := by
  induction l with
  | nil => simp [aput, aget, sizes, File.zero]; rfl
  | cons p l ih =>
    obtain ⟨a, b⟩ := p
    simp only [aput, aget]
    split
    · simp [sizes]; omega
    · have e1 : ∀ q : ByteArray × File, ∀ m : Files, sizes (q :: m) = q.2.b.size + sizes m := fun q m => by simp [sizes]
      rw [e1, e1]
      omega
theorem sizes_adel (l : Files) (n : ByteArray) : sizes (adel l n) + ((aget l n).getD File.zero).b.size = sizes l := by
  induction l with
  | nil => simp [adel, aget, sizes, File.zero]; rfl
  | cons p l ih =>
    obtain ⟨a, b⟩ := p
    have e1 : ∀ q : ByteArray × File, ∀ m : Files, sizes (q :: m) = q.2.b.size + sizes m := fun q m => by simp [sizes]
    simp only [adel, aget]
    split
    · rw [e1]; simp; omega
    · rw [e1, e1]
      omega

def FOk (M : Nat) (fs : Files) : Prop := ∀ p ∈ fs, 0 ≤ p.2.lasts ∧ p.2.lasts ≤ p.2.b.size ∧ p.2.b.size ≤ M
theorem FOk.get {M : Nat} {fs : Files} (h : FOk M fs) (n : ByteArray) : 0 ≤ ((aget fs n).getD File.zero).lasts ∧ ((aget fs n).getD File.zero).lasts ≤ ((aget fs n).getD File.zero).b.size ∧ ((aget fs n).getD File.zero).b.size ≤ M := by
  cases hg : aget fs n with
  | none => exact ⟨by simp [File.zero], by simp [File.zero], by show 0 ≤ M; omega⟩
  | some f => exact h _ (aget_mem hg)
theorem FOk.put {M : Nat} {fs : Files} (h : FOk M fs) (n : ByteArray) (f : File) (h1 : 0 ≤ f.lasts ∧ f.lasts ≤ f.b.size ∧ f.b.size ≤ M) : FOk M (aput fs n f) := by
  intro p hp
  rcases mem_aput hp with h2 | rfl
  · exact h p h2
  · exact h1
theorem FOk.del {M : Nat} {fs : Files} (h : FOk M fs) (n : ByteArray) : FOk M (adel fs n) := fun p hp => h p ((adel_sublist fs n).subset hp)

/-- What keeps a list of files small. -/
structure Fs (fs : Files) (M : Nat) : Prop where
  files : ∀ p ∈ fs, 0 ≤ p.2.lasts ∧ p.2.lasts ≤ p.2.b.size
  bytes : sizes fs ≤ M
  few : fs.length ≤ 200
  nodup : ANodup fs
  short : ∀ p ∈ fs, p.1.size ≤ 40
namespace DS
theorem Ok.fs {d : DS} {M : Nat} (h : d.Ok M) : Fs d.fs M := ⟨h.files, h.bytes, h.few, h.nodup, h.short⟩
theorem Ok.of {d : DS} {M : Nat} (h : Fs d.fs M) (hl : d.armed = true → 0 ≤ d.left) : d.Ok M := ⟨hl, h.files, h.bytes, h.few, h.nodup, h.short⟩
end DS
theorem Fs.fok {fs : Files} {M : Nat} (h : Fs fs M) : FOk M fs := fun p hp => ⟨(h.files p hp).1, (h.files p hp).2, Nat.le_trans (sizes_mem hp) h.bytes⟩
theorem Fs.mono {fs : Files} {M M' : Nat} (h : Fs fs M) (hm : M ≤ M') : Fs fs M' := ⟨h.files, Nat.le_trans h.bytes hm, h.few, h.nodup, h.short⟩
theorem Fs.put {fs : Files} {M M' : Nat} (h : Fs fs M) (n : ByteArray) (f : File) (h1 : 0 ≤ f.lasts ∧ f.lasts ≤ f.b.size) (hb : sizes fs + f.b.size ≤ M' + ((aget fs n).getD File.zero).b.size) (hf : (aget fs n).isSome = true ∨ fs.length < 200) (hn : n.size ≤ 40) : Fs (aput fs n f) M' := by
  refine ⟨?_, ?_, ?_, aput_nodup h.nodup _ _, ?_⟩
  · intro p hp
    rcases mem_aput hp with h2 | rfl
    · exact h.files p h2
    · exact h1
  · have := sizes_aput fs n f
    omega
  · rw [length_aput]
    have := h.few
    split
    · exact this
    · rcases hf with q | q
      · simp_all
      · omega
  · intro p hp
    rcases mem_aput hp with h2 | rfl
    · exact h.short p h2
    · exact hn
theorem Fs.del {fs : Files} {M : Nat} (h : Fs fs M) (n : ByteArray) : Fs (adel fs n) M := by
  refine ⟨fun p hp => h.files p ((adel_sublist fs n).subset hp), ?_, ?_, adel_nodup h.nodup _, fun p hp => h.short p ((adel_sublist fs n).subset hp)⟩
  · have := sizes_adel fs n
    have := h.bytes
    omega
  · rw [length_adel]
    have := h.few
    split <;> omega
theorem Fs.short_of {fs : Files} {M : Nat} (h : Fs fs M) {n : ByteArray} (hi : (aget fs n).isSome = true) : n.size ≤ 40 := by
  cases hg : aget fs n with
  | none => rw [hg] at hi; cases hi
  | some f => exact h.short _ (aget_mem hg)

theorem size_extract0 (b : ByteArray) {n : Int} (h0 : 0 ≤ n) (h : n ≤ b.size) : ((b.extract 0 n.toNat).size : Int) = n := by
  simp; omega
theorem Fs.crashOne {fs : Files} {M : Nat} (h : Fs fs M) (s : ByteArray) {k : Int} (hk : 0 ≤ k) : Fs (DS.crashOne fs s k) M := by
  obtain ⟨q1, q2, q3⟩ := h.fok.get s
  cases hg : aget fs s with
  | none =>
    have : DS.crashOne fs s k = fs := by
      unfold DS.crashOne
      have e : (DS.crashFile ((aget fs s).getD File.zero) k).known = false := by
        rw [hg]
        show (false || decide (0 < (0 : Int) + min k (((⟨#[]⟩ : ByteArray).size : Int) - 0))) = false
        simp
        have : (ByteArray.mk #[]).size = 0 := rfl
        omega
      simp only [e, Bool.false_eq_true, if_false]
      exact adel_aput_none _ hg
    rw [this]; exact h
  | some f =>
    rw [hg] at q1 q2 q3
    simp only [Option.getD_some] at q1 q2 q3
    have hn1 : 0 ≤ f.lasts + min k (f.b.size - f.lasts) := by omega
    have hn2 : f.lasts + min k (f.b.size - f.lasts) ≤ f.b.size := by omega
    have he := size_extract0 f.b hn1 hn2
    have hp : Fs (aput fs s (DS.crashFile f k)) M := by
      refine h.put s _ ⟨hn1, ?_⟩ ?_ (.inl (by rw [hg]; rfl)) (h.short_of (by rw [hg]; rfl))
      · show f.lasts + min k (f.b.size - f.lasts) ≤ ((f.b.extract 0 (f.lasts + min k (f.b.size - f.lasts)).toNat).size : Int)
        omega
      · rw [hg]
        have : (DS.crashFile f k).b.size = (f.b.extract 0 (f.lasts + min k (f.b.size - f.lasts)).toNat).size := rfl
        have := h.bytes
        simp only [Option.getD_some]
        omega
    unfold DS.crashOne
    rw [hg]
    simp only [Option.getD_some]
    split
    · exact hp
    · exact hp.del s
theorem Fs.crashAll {M : Nat} : ∀ (l : List ByteArray) {fs : Files} (ks : List Int), Fs fs M → Fs (DS.crashAll fs l ks) M
  | [], _, _, h => h
  | s :: l, _, ks, h => Fs.crashAll l ks.tail (h.crashOne s (by omega))
namespace DS
theorem tick_fs (d : DS) : d.tick.fs = d.fs := by unfold tick; split <;> rfl
theorem tick_on (d : DS) : d.tick.on = d.on := by unfold tick; split <;> rfl
theorem tick_keep (d : DS) : d.tick.keep = d.keep := by unfold tick; split <;> rfl
theorem tick_room (d : DS) : d.tick.room = d.room := by unfold tick; split <;> rfl
theorem crash_Fs {d : DS} {M : Nat} (h : Fs d.fs M) (keep : List Int) : Fs (d.crash keep).fs M := by
  unfold crash
  split
  · exact Fs.crashAll _ _ h
  · exact h
theorem Ok.crash {d : DS} {M : Nat} (h : d.Ok M) (keep : List Int) : (d.crash keep).Ok M := by
  refine Ok.of (crash_Fs h.fs keep) ?_
  unfold DS.crash
  split
  · intro q; cases q
  · exact h.left
theorem Ok.done {d : DS} {M : Nat} (h : d.Ok M) (ho : d.on = true) : d.done.Ok M := by
  unfold DS.done
  split
  · refine Ok.of (crash_Fs (by rw [tick_fs]; exact h.fs) _) ?_
    unfold DS.crash
    rw [tick_on, ho, if_pos rfl]
    intro q; cases q
  · rename_i hg
    refine Ok.of (by rw [tick_fs]; exact h.fs) ?_
    unfold DS.tick
    split
    · rename_i ha
      have := h.left ha
      intro _
      unfold DS.goes at hg
      simp [ha] at hg
      show 0 ≤ d.left - 1
      omega
    · exact h.left
theorem may_on {d : DS} {l : List ByteArray} (h : d.may l = 0) : d.on = true := by
  unfold may at h
  split at h
  · assumption
  · cases h
theorem mayAll_short {l : List ByteArray} (h : mayAll l = 0) : ∀ s ∈ l, 1 ≤ s.size ∧ s.size ≤ 40 := by
  induction l with
  | nil => simp
  | cons a l ih =>
    unfold mayAll at h
    split at h
    · cases h
    · rename_i hb
      intro s hs
      rcases List.mem_cons.1 hs with rfl | hs
      · simp only [badName, Bool.or_eq_true, decide_eq_true_eq] at hb
        omega
      · exact ih h s hs
theorem may_short {d : DS} {l : List ByteArray} (h : d.may l = 0) : ∀ s ∈ l, 1 ≤ s.size ∧ s.size ≤ 40 := by
  have ho := may_on h
  unfold may at h
  rw [ho, if_pos rfl] at h
  exact mayAll_short h
theorem find_is {d : DS} {n : ByteArray} (h : (d.find n).2 = 0) : d.may [n] = 0 ∧ (aget d.fs n).isSome = true ∧ d.find n = (d.get n, 0) := by
  unfold find at *
  by_cases hm : d.may [n] = 0
  · simp only [hm, if_true] at h ⊢
    by_cases hi : (aget d.fs n).isSome = true
    · simp [hi]
    · simp [hi] at h
  · simp [hm] at h
theorem Ok.appended {d : DS} {M : Nat} (h : d.Ok M) {n data : ByteArray} (hm : d.may [n] = 0) (hf : d.full n data.size = false) :
    Ok { d with fs := aput d.fs n { d.get n with b := (d.get n).b ++ data } } (M + data.size) := by
  have hg := h.fs.fok.get n
  refine Ok.of (h.fs.put n _ ⟨hg.1, ?_⟩ ?_ ?_ (may_short hm n (by simp)).2) h.left
  · show (d.get n).lasts ≤ (((d.get n).b ++ data).size : Int)
    have : ((d.get n).b ++ data).size = (d.get n).b.size + data.size := by simp
    have := hg.2.1
    unfold DS.get at *
    omega
  · have := h.bytes
    have e : ((d.get n).b ++ data).size = (d.get n).b.size + data.size := by simp
    have := h.fs.bytes
    unfold DS.get at *
    show sizes d.fs + (((aget d.fs n).getD File.zero).b ++ data).size ≤ _
    omega
  · unfold full at hf
    simp only [Bool.or_eq_false_iff, Bool.and_eq_false_iff] at hf
    rcases hf.1 with q | q
    · left; simpa using q
    · right; simpa using q
theorem Ok.synced {d : DS} {M : Nat} (h : d.Ok M) {n : ByteArray} (hi : (aget d.fs n).isSome = true) : Ok { d with fs := aput d.fs n ⟨(d.get n).b, (d.get n).b.size, true⟩ } M := by
  refine Ok.of (h.fs.put n _ ⟨?_, Int.le_refl _⟩ ?_ (.inl hi) (h.fs.short_of hi)) h.left
  · show (0 : Int) ≤ ((d.get n).b.size : Int); omega
  · have := h.fs.bytes
    unfold DS.get
    show _ ≤ _
    simp only []
    omega
theorem Ok.truncated {d : DS} {M : Nat} (h : d.Ok M) {n : ByteArray} (hi : (aget d.fs n).isSome = true) {k : Int} (h0 : 0 ≤ k) (h1 : k ≤ (d.get n).b.size) : Ok { d with fs := aput d.fs n ⟨(d.get n).b.extract 0 k.toNat, min (d.get n).lasts k, (d.get n).known⟩ } M := by
  have hg := h.fs.fok.get n
  have he := size_extract0 (d.get n).b h0 h1
  refine Ok.of (h.fs.put n _ ⟨?_, ?_⟩ ?_ (.inl hi) (h.fs.short_of hi)) h.left
  · show 0 ≤ min (d.get n).lasts k
    unfold DS.get at *
    omega
  · show min (d.get n).lasts k ≤ (((d.get n).b.extract 0 k.toNat).size : Int)
    omega
  · have := h.fs.bytes
    show sizes d.fs + ((d.get n).b.extract 0 k.toNat).size ≤ M + (d.get n).b.size
    omega
theorem Ok.removed {d : DS} {M : Nat} (h : d.Ok M) (n : ByteArray) : Ok { d with fs := adel d.fs n } M := Ok.of (h.fs.del n) h.left
theorem length_adel_is {l : Files} {n : ByteArray} (hi : (aget l n).isSome = true) : (adel l n).length + 1 ≤ l.length := by
  rw [length_adel, if_pos hi]
  cases l with
  | nil => simp [aget] at hi
  | cons => simp
theorem Ok.renamed {d : DS} {M : Nat} (h : d.Ok M) {m n : ByteArray} (hm : d.may [m, n] = 0) (hi : (aget d.fs m).isSome = true) : Ok { d with fs := aput (adel d.fs m) n (d.get m) } M := by
  have hg := h.fs.fok.get m
  have h1 := h.fs.del m
  refine Ok.of (h1.put n _ ⟨hg.1, hg.2.1⟩ ?_ (.inr ?_) (may_short hm n (by simp)).2) h.left
  · have e1 := sizes_adel d.fs m
    have e2 := h.fs.bytes
    show sizes (adel d.fs m) + (d.get m).b.size ≤ _
    unfold DS.get
    omega
  · have := length_adel_is hi
    have := h.few
    omega
end DS
end Go.Proofs.Ytgahjdfjlfoioaa
