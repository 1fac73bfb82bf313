/- What every call keeps of a group: lists rise, and hold what was fed. -/
import Derived.Test.YthjgplgfcbhihaaGs
set_option linter.unusedVariables false
set_option linter.unusedSimpArgs false
namespace Go.Proofs.Ythjgplgfcbhihaa
open Go.RowKit
theorem aput_in {κ ν : Type} [DecidableEq κ] {l : List (κ × ν)} {k : κ} {v : ν} {p : κ × ν} (h : p ∈ aput l k v) : p = (k, v) ∨ p ∈ l := by
  induction l with
  | nil => simp [aput] at h; exact .inl h
  | cons q l ih =>
    obtain ⟨a, b⟩ := q
    simp only [aput] at h
    split at h
    · simp only [List.mem_cons] at h ⊢
      rcases h with h | h
      · exact .inl h
      · exact .inr (.inr h)
    · simp only [List.mem_cons] at h ⊢
      rcases h with h | h
      · exact .inr (.inl h)
      · exact (ih h).imp id .inr
/-- A list of what was fed. -/
structure Fed (f n : Int) (l : List Int) : Prop where
  ris : Ris l
  mem : ∀ x ∈ l, f ≤ x ∧ x < n
theorem Fed.nil (f n : Int) : Fed f n [] := ⟨List.Pairwise.nil, fun x h => by cases h⟩
theorem Fed.ins {f n x : Int} {l : List Int} (h : Fed f n l) (hx : f ≤ x ∧ x < n) : Fed f n (insL l x) :=
  ⟨ris_insL h.ris, fun y hy => by
    rcases mem_insL.1 hy with rfl | q
    · exact hx
    · exact h.mem y q⟩
theorem Fed.rem {f n x : Int} {l : List Int} (h : Fed f n l) : Fed f n (remL l x) := ⟨ris_remL h.ris, fun y hy => h.mem y ((mem_remL h.ris).1 hy).1⟩
theorem Fed.more {f n m : Int} {l : List Int} (h : Fed f n l) (hm : n ≤ m) : Fed f m l := ⟨h.ris, fun x hx => ⟨(h.mem x hx).1, by have := (h.mem x hx).2; omega⟩⟩
theorem Fed.sub {f n : Int} {l m : List Int} (h : Fed f n l) (hs : m.Sublist l) : Fed f n m := ⟨List.Pairwise.sublist hs h.ris, fun x hx => h.mem x (hs.subset hx)⟩
theorem Fed.fold {f n : Int} : ∀ (l m : List Int), Fed f n m → (∀ x ∈ l, f ≤ x ∧ x < n) → Fed f n (l.foldl insL m)
  | [], _, h, _ => h
  | x :: l, m, h, hx => Fed.fold l (insL m x) (h.ins (hx x (by simp))) (fun y hy => hx y (by simp [hy]))
theorem Fed.len : ∀ {l : List Int} {f n : Int}, Fed f n l → f ≤ n → (l.length : Int) ≤ n - f
  | [], f, n, _, hn => by simp; omega
  | x :: l, f, n, h, hn => by
    have h1 := List.pairwise_cons.1 h.ris
    have hx := h.mem x (by simp)
    have := Fed.len (l := l) (f := x + 1) (n := n) ⟨h1.2, fun y hy => ⟨by have := h1.1 y hy; omega, (h.mem y (by simp [hy])).2⟩⟩ (by omega)
    simp
    omega
theorem rangeUp_mem : ∀ (k : Nat) (a x : Int), x ∈ rangeUp k a ↔ a ≤ x ∧ x < a + k
  | 0, a, x => by
    simp [rangeUp]
    try omega
  | k + 1, a, x => by
    rw [rangeUp, List.mem_cons, rangeUp_mem k (a + 1) x]
    constructor
    · rintro (rfl | q) <;> omega
    · intro q
      by_cases e : x = a
      · exact .inl e
      · exact .inr (by omega)
theorem rangeUp_len : ∀ (k : Nat) (a : Int), (rangeUp k a).length = k
  | 0, _ => rfl
  | k + 1, a => by simp [rangeUp, rangeUp_len k (a + 1)]
theorem rangeUp_ris : ∀ (k : Nat) (a : Int), Ris (rangeUp k a)
  | 0, _ => List.Pairwise.nil
  | k + 1, a => List.pairwise_cons.2 ⟨fun x hx => by have := (rangeUp_mem k (a + 1) x).1 hx; omega, rangeUp_ris k (a + 1)⟩
theorem Fed.up {f n : Int} {l : List Int} (h : Fed f n l) (hf : f ≤ n) (k : Nat) : Fed f (n + k) (l ++ rangeUp k n) :=
  ⟨List.pairwise_append.2 ⟨h.ris, rangeUp_ris k n, fun x hx y hy => by have := (h.mem x hx).2; have := (rangeUp_mem k n y).1 hy; omega⟩, fun x hx => by
    rcases List.mem_append.1 hx with q | q
    · have := h.mem x q
      omega
    · have := (rangeUp_mem k n x).1 q
      omega⟩
theorem ris_sort {l : List Int} (h : Ris l) : l.mergeSort (fun x y => decide (x ≤ y)) = l :=
  List.mergeSort_of_pairwise (h.imp (fun q => by simp; omega))
structure GS.Ok (g : GS) (N : Nat) : Prop where
  fr : 0 ≤ g.from_ ∧ g.from_ ≤ 1099511627776
  bu : 1 ≤ g.buffer ∧ g.buffer ≤ 100
  re : 0 ≤ g.retries ∧ g.retries ≤ 100
  nx : g.from_ ≤ g.next ∧ g.next ≤ g.from_ + 1000 * N
  wa : Fed g.from_ g.next g.waiting
  pa : Fed g.from_ g.next g.parked
  ac : Fed g.from_ g.next g.acked
  sk : Fed g.from_ g.next g.skipped
  fl : ∀ p ∈ g.flight, Fed g.from_ g.next p.2
  few : g.flight.length ≤ 20
  nod : ANodup g.flight
  tr : ∀ p ∈ g.tries, 0 ≤ p.2 ∧ p.2 ≤ N
namespace GS
variable {g : GS} {N : Nat}
theorem new_ok {f b r : Int} (h : okNew f b r = true) : (new f b r).Ok 0 := by
  simp [okNew] at h
  exact ⟨by show 0 ≤ f ∧ f ≤ _; omega, by show 1 ≤ b ∧ b ≤ _; omega, by show 0 ≤ r ∧ r ≤ _; omega, by show f ≤ f ∧ f ≤ f + 1000 * (0 : Nat); omega, Fed.nil _ _, Fed.nil _ _, Fed.nil _ _, Fed.nil _ _, fun p hp => (by cases hp), Nat.zero_le _, List.nodup_nil, fun p hp => (by cases hp)⟩
theorem Ok.more (h : g.Ok N) {M : Nat} (hm : N ≤ M) : g.Ok M :=
  ⟨h.fr, h.bu, h.re, ⟨h.nx.1, by have := h.nx.2; omega⟩, h.wa, h.pa, h.ac, h.sk, h.fl, h.few, h.nod, fun p hp => ⟨(h.tr p hp).1, by have := (h.tr p hp).2; omega⟩⟩
theorem Ok.flOf (h : g.Ok N) (who : ByteArray) : Fed g.from_ g.next (g.fl who) := by
  unfold GS.fl
  cases hx : aget g.flight who with
  | none => exact Fed.nil _ _
  | some l => exact h.fl _ (aget_mem hx)
theorem Ok.trOf (h : g.Ok N) (n : Int) : 0 ≤ g.tr n ∧ g.tr n ≤ N := by
  unfold GS.tr
  cases hx : aget g.tries n with
  | none => simp
  | some k => exact h.tr _ (aget_mem hx)
theorem Ok.len (h : g.Ok N) {l : List Int} (hl : Fed g.from_ g.next l) : l.length ≤ 1000 * N := by
  have := hl.len h.nx.1
  have := h.nx.2
  omega
theorem few_aput {l : List (ByteArray × List Int)} {who : ByteArray} {v : List Int} (h : (aget l who).isSome = true ∨ l.length < 20) (hl : l.length ≤ 20) : (aput l who v).length ≤ 20 := by
  rw [length_aput]
  split
  · exact hl
  · rename_i q
    rcases h with h | h
    · exact absurd h q
    · omega
theorem join_ok (h : g.Ok N) (who : ByteArray) : (g.join who).2.Ok (N + 1) := by
  have h' := h.more (Nat.le_succ N)
  unfold join
  split
  · exact h'
  split
  · exact h'
  split
  · exact h'
  · rename_i q1 q2 q3
    exact ⟨h'.fr, h'.bu, h'.re, h'.nx, h'.wa, h'.pa, h'.ac, h'.sk, fun p hp => by
      rcases aput_in hp with rfl | hp
      · exact Fed.nil _ _
      · exact h'.fl p hp, few_aput (.inr (by omega)) h'.few, aput_nodup h'.nod _ _, h'.tr⟩
theorem adel_len {κ ν : Type} [DecidableEq κ] (l : List (κ × ν)) (k : κ) : (adel l k).length ≤ l.length := (adel_sublist l k).length_le
theorem leave_ok (h : g.Ok N) (who : ByteArray) : (g.leave who).2.Ok (N + 1) := by
  have h' := h.more (Nat.le_succ N)
  unfold leave
  split
  · exact ⟨h'.fr, h'.bu, h'.re, h'.nx, Fed.fold _ _ h'.wa (h'.flOf who).mem, h'.pa, h'.ac, h'.sk, fun p hp => h'.fl p ((adel_sublist _ _).subset hp), Nat.le_trans (adel_len _ _) h'.few, adel_nodup h'.nod _, h'.tr⟩
  · exact h'
theorem feed_wait (h : g.Ok N) (k : Nat) : (g.waiting ++ rangeUp k g.next).mergeSort (fun x y => decide (x ≤ y)) = g.waiting ++ rangeUp k g.next := ris_sort (h.wa.up h.nx.1 k).ris
theorem feed_ok (h : g.Ok N) (n : Int) : (g.feed n).2.Ok (N + 1) := by
  have h' := h.more (Nat.le_succ N)
  unfold feed
  split
  · exact h'
  · dsimp only
    rw [feed_wait h]
    generalize hk : (max (min n (1000 - (g.openN : Int))) 0).toNat = k
    have hk1 : k ≤ 1000 := by omega
    have hw := h.wa.up h.nx.1 k
    have hn : g.next ≤ g.next + (k : Int) := by omega
    exact ⟨h.fr, h.bu, h.re, ⟨by show g.from_ ≤ g.next + k; have := h.nx.1; omega, by show g.next + k ≤ g.from_ + 1000 * ((N + 1 : Nat) : Int); have := h.nx.2; omega⟩, hw, h.pa.more hn, h.ac.more hn, h.sk.more hn, fun p hp => (h.fl p hp).more hn, h.few, h.nod, h'.tr⟩
theorem take1_ok (h : g.Ok N) (who : ByteArray) {n : Int} {t : GS} (he : g.take1 who = some (n, t)) : t.Ok (N + 1) := by
  have h' := h.more (Nat.le_succ N)
  unfold take1 at he
  split at he
  · cases he
  · rename_i q
    split at he
    · cases he
    · rename_i m w hw
      injection he with he
      injection he with e1 e2
      subst e1 e2
      have hwa := h.wa
      rw [hw] at hwa
      have hm := hwa.mem m (by simp)
      have hi : (aget g.flight who).isSome = true := by
        cases hh : (aget g.flight who).isSome with
        | true => rfl
        | false => exact absurd (.inl hh) q
      have ht := h.trOf m
      exact ⟨h.fr, h.bu, h.re, h'.nx, hwa.sub (List.sublist_cons_self _ _), h.pa, h.ac, h.sk, fun p hp => by
        rcases aput_in hp with rfl | hp
        · exact (h.flOf who).ins hm
        · exact h.fl p hp, few_aput (.inl hi) h.few, aput_nodup h.nod _ _, fun p hp => by
        rcases aput_in hp with rfl | hp
        · show 0 ≤ g.tr m + 1 ∧ g.tr m + 1 ≤ ((N + 1 : Nat) : Int)
          omega
        · exact h'.tr p hp⟩
theorem takeGo_fed {f n : Int} : ∀ (l fl : List Int), Fed f n fl → Fed f n (takeGo fl l).1 ∧ (∀ x ∈ (takeGo fl l).2, f ≤ x ∧ x < n)
  | [], _, h => ⟨h, fun x hx => by cases hx⟩
  | y :: l, fl, h => by
    unfold takeGo
    split
    · rename_i hc
      have hm := h.mem y (by simpa using hc)
      obtain ⟨h1, h2⟩ := takeGo_fed l (remL fl y) h.rem
      exact ⟨h1, fun x hx => by
        rcases List.mem_cons.1 hx with rfl | hx
        · exact hm
        · exact h2 x hx⟩
    · exact takeGo_fed l fl h
/-- What take leaves: the flights, nothing else. -/
theorem take_ok (h : g.Ok N) (who : ByteArray) (l : List Int) : (g.take who l).2.Ok N ∧ (∀ x ∈ (g.take who l).1, g.from_ ≤ x ∧ x < g.next) ∧ (g.take who l).2.from_ = g.from_ ∧ (g.take who l).2.next = g.next := by
  unfold take
  split
  · rename_i hi
    obtain ⟨h1, h2⟩ := takeGo_fed l (g.fl who) (h.flOf who)
    dsimp only
    refine ⟨?_, h2, ?_⟩
    · split
      · exact h
      · exact ⟨h.fr, h.bu, h.re, h.nx, h.wa, h.pa, h.ac, h.sk, fun p hp => by
          rcases aput_in hp with rfl | hp
          · exact h1
          · exact h.fl p hp, few_aput (.inl hi) h.few, aput_nodup h.nod _ _, h.tr⟩
    · split <;> exact ⟨rfl, rfl⟩
  · exact ⟨h, fun x hx => (by cases hx), rfl, rfl⟩
theorem adel_tr {P : Int × Int → Prop} : ∀ (d : List Int) {l : List (Int × Int)} (h : ∀ p ∈ l, P p), ∀ p ∈ d.foldl adel l, P p
  | [], _, h => h
  | x :: d, l, h => adel_tr d (l := adel l x) (fun p hp => h p ((adel_sublist l x).subset hp))
theorem forget_ok (h : g.Ok N) : g.forget.Ok N :=
  ⟨h.fr, h.bu, h.re, h.nx, h.wa, h.pa, h.ac.sub (List.filter_sublist), h.sk.sub (List.filter_sublist), h.fl, h.few, h.nod, h.tr⟩
theorem ack_ok (h : g.Ok N) (who : ByteArray) (l : List Int) : (g.ack who l).2.Ok N := by
  obtain ⟨h1, h2, h3, h4⟩ := take_ok h who l
  unfold ack
  dsimp only
  have hk : ({ (g.take who l).2 with acked := (g.take who l).1.foldl insL (g.take who l).2.acked, tries := (g.take who l).1.foldl adel (g.take who l).2.tries } : GS).Ok N :=
    ⟨h1.fr, h1.bu, h1.re, h1.nx, h1.wa, h1.pa, Fed.fold _ _ h1.ac (fun x hx => by rw [h3, h4]; exact h2 x hx), h1.sk, h1.fl, h1.few, h1.nod, adel_tr _ h1.tr⟩
  split
  · exact hk
  · exact forget_ok hk
theorem nak1_ok (h : g.Ok N) (how n : Int) (hn : g.from_ ≤ n ∧ n < g.next) : (nak1 how g n).Ok N ∧ (nak1 how g n).from_ = g.from_ ∧ (nak1 how g n).next = g.next := by
  unfold nak1
  split
  · exact ⟨⟨h.fr, h.bu, h.re, h.nx, h.wa, h.pa, h.ac, h.sk.ins hn, h.fl, h.few, h.nod, fun p hp => h.tr p ((adel_sublist _ _).subset hp)⟩, rfl, rfl⟩
  split
  · exact ⟨⟨h.fr, h.bu, h.re, h.nx, h.wa.ins hn, h.pa, h.ac, h.sk, h.fl, h.few, h.nod, h.tr⟩, rfl, rfl⟩
  · exact ⟨⟨h.fr, h.bu, h.re, h.nx, h.wa, h.pa.ins hn, h.ac, h.sk, h.fl, h.few, h.nod, h.tr⟩, rfl, rfl⟩
theorem nakAll_ok (how : Int) : ∀ (d : List Int) {g : GS}, g.Ok N → (∀ x ∈ d, g.from_ ≤ x ∧ x < g.next) → (d.foldl (nak1 how) g).Ok N
  | [], _, h, _ => h
  | x :: d, g, h, hd => by
    obtain ⟨h1, h2, h3⟩ := nak1_ok h how x (hd x (by simp))
    exact nakAll_ok how d h1 (fun y hy => by rw [h2, h3]; exact hd y (by simp [hy]))
theorem nak_ok (h : g.Ok N) (who : ByteArray) (how : Int) (l : List Int) : (g.nak who how l).2.Ok N := by
  obtain ⟨h1, h2, h3, h4⟩ := take_ok h who l
  unfold nak
  split
  · exact h
  · dsimp only
    have hk := nakAll_ok how (g.take who l).1 h1 (fun x hx => by rw [h3, h4]; exact h2 x hx)
    split
    · exact hk
    · exact forget_ok hk
theorem lateGo_ok : ∀ (l : List ByteArray) (n : Int) {g : GS}, g.Ok N → (lateGo l n g).2.Ok N
  | [], _, _, h => h
  | w :: l, n, g, h => lateGo_ok l _ (nak_ok h w 2 (g.fl w))
theorem late_ok (h : g.Ok N) : g.late.2.Ok N := lateGo_ok g.who 0 h
theorem replay_ok (h : g.Ok N) : g.replay.2.Ok N :=
  ⟨h.fr, h.bu, h.re, h.nx, Fed.fold _ _ h.wa h.pa.mem, Fed.nil _ _, h.ac, h.sk, h.fl, h.few, h.nod, adel_tr _ h.tr⟩
end GS
end Go.Proofs.Ythjgplgfcbhihaa
