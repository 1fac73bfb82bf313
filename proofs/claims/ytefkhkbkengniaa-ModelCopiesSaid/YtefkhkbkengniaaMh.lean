/- A state as the laws see it: above a world that stays, beside blocks that are kept; the contracts in that form. -/
import Derived.Test.YtefkhkbkengniaaMi
import Derived.Test.YtefkhkbkengniaaPlan3
set_option linter.unusedVariables false
set_option linter.unusedSimpArgs false
namespace Go.Proofs.Ytefkhkbkengniaa
open Go.RowKit
/-- Above the world a, which stays; R: blocks of the caller's own that may turn by his hand; E: blocks that only are read. -/
structure HasS (a w : World) (R E : List Nat) (sb mb : Nat) (s : MS) (N : Nat) : Prop where
  only : Only [] a w
  st : ∃ M av pf, StAt w M sb mb av pf s ∧ (∀ g ∈ M, a.heap.size ≤ g ∧ g ∉ E) ∧ (∀ g ∈ R, g ∈ M) ∧ ∀ g ∈ hM sb mb av, g ∉ R
  el : ∀ g ∈ E, g < w.heap.size
  ok : s.Ok N
  inv : s.Inv
section
variable {a w w' : World} {R R' E E' : List Nat} {sb mb N : Nat} {s : MS}
theorem HasS.rl (h : HasS a w R E sb mb s N) : ∀ g ∈ R, a.heap.size ≤ g ∧ g < w.heap.size ∧ g ∉ E := by
  obtain ⟨M, av, pf, q1, q2, q3, q4⟩ := h.st
  exact fun g hg => ⟨(q2 g (q3 g hg)).1, q1.mlt g (q3 g hg), (q2 g (q3 g hg)).2⟩
theorem HasS.keep (h : HasS a w R E sb mb s N) (k : Only [] w w') : HasS a w' R E sb mb s N := by
  obtain ⟨M, av, pf, h1, h2⟩ := h.st
  exact ⟨h.only.trans k, ⟨M, av, pf, h1.only0 k, h2⟩, fun g hg => Nat.lt_of_lt_of_le (h.el g hg) k.size, h.ok, h.inv⟩
theorem StAt.fresh {M : List Nat} {av : Value} {pf : ByteArray → Value} (h : StAt w M sb mb av pf s) (k : Only [] w w') {g : Nat} (h1 : w.heap.size ≤ g) (h2 : g < w'.heap.size) : StAt w' (g :: M) sb mb av pf s := by
  have h' := h.only0 k
  exact ⟨h'.blk, h'.own, h'.map, fun n x hx => ((h.pl n x hx).ext (M' := g :: M) (fun i hi => by simp at hi; rcases hi with rfl | hi; exact .inr h1; exact .inl hi)).only0 k,
    ⟨List.mem_cons_of_mem _ h.inM.1, List.mem_cons_of_mem _ h.inM.2.1, fun i hi => List.mem_cons_of_mem _ (h.inM.2.2 i hi)⟩,
    fun i hi => by simp at hi; rcases hi with rfl | hi; exact h2; exact h'.mlt i hi⟩
/-- One more block of one's own. -/
theorem HasS.addR (h : HasS a w R E sb mb s N) (k : Only [] w w') {g : Nat} (h1 : w.heap.size ≤ g) (h2 : g < w'.heap.size) : HasS a w' (g :: R) E sb mb s N := by
  obtain ⟨M, av, pf, q1, q2, q3, q4⟩ := h.st
  refine ⟨h.only.trans k, ⟨g :: M, av, pf, q1.fresh k h1 h2, fun i hi => ?_, fun i hi => ?_, fun i hi q => ?_⟩, fun g hg => Nat.lt_of_lt_of_le (h.el g hg) k.size, h.ok, h.inv⟩
  · rcases List.mem_cons.1 hi with rfl | hi
    · refine ⟨Nat.le_trans h.only.size h1, fun q => ?_⟩
      have := h.el i q
      omega
    · exact q2 i hi
  · rcases List.mem_cons.1 hi with rfl | hi
    · simp
    · exact List.mem_cons_of_mem _ (q3 i hi)
  · rcases List.mem_cons.1 q with rfl | q
    · have := q1.lt i hi
      omega
    · exact q4 i hi q
/-- One more block that is only read. -/
theorem HasS.addE (h : HasS a w R E sb mb s N) (k : Only [] w w') {g : Nat} (h1 : w.heap.size ≤ g) (h2 : g < w'.heap.size) : HasS a w' R (g :: E) sb mb s N := by
  obtain ⟨M, av, pf, q1, q2, q3, q4⟩ := h.st
  refine ⟨h.only.trans k, ⟨M, av, pf, q1.only0 k, fun i hi => ⟨(q2 i hi).1, fun q => ?_⟩, q3, q4⟩, fun i hi => ?_, h.ok, h.inv⟩
  · rcases List.mem_cons.1 q with rfl | q
    · have := q1.mlt i hi
      omega
    · exact (q2 i hi).2 q
  · rcases List.mem_cons.1 hi with rfl | hi
    · exact h2
    · exact Nat.lt_of_lt_of_le (h.el i hi) k.size
theorem HasS.boxR (h : HasS a w R E sb mb s N) (o : Obj) : HasS a (w.alloc o) (w.heap.size :: R) E sb mb s N := h.addR ((Only.refl _ _).alloc o) (Nat.le_refl _) (by simp)
theorem HasS.boxE (h : HasS a w R E sb mb s N) (o : Obj) : HasS a (w.alloc o) R (w.heap.size :: E) sb mb s N := h.addE ((Only.refl _ _).alloc o) (Nat.le_refl _) (by simp)
theorem HasS.ownR (h : HasS a w R E sb mb s N) (k : Only [] w w') {e : TypeId} {size n : Nat} {v : Value} {xs : List Value} (ho : w'.ownsRow w.heap.size e size v n xs) : HasS a w' (v.ownBlock.toList ++ R) E sb mb s N := by
  cases hv : v.ownBlock with
  | none => simpa [hv] using h.keep k
  | some g =>
    have := ho.lt g hv
    simpa [hv] using h.addR k this.1 this.2
theorem HasS.less (h : HasS a w R E sb mb s N) (hr : ∀ g ∈ R', g ∈ R) (he : ∀ g ∈ E', g ∈ E) : HasS a w R' E' sb mb s N := by
  obtain ⟨M, av, pf, q1, q2, q3, q4⟩ := h.st
  exact ⟨h.only, ⟨M, av, pf, q1, fun g hg => ⟨(q2 g hg).1, fun q => (q2 g hg).2 (he g q)⟩, fun g hg => q3 g (hr g hg), fun g hg q => q4 g hg (hr g q)⟩, fun g hg => h.el g (he g hg), h.ok, h.inv⟩
/-- Blocks of one's own turn: the state stays. -/
theorem HasS.turn {S : List Nat} (h : HasS a w R E sb mb s N) (k : Only S w w') (hS : ∀ g ∈ S, g ∈ R) : HasS a w' R E sb mb s N := by
  obtain ⟨M, av, pf, q1, q2, q3, q4⟩ := h.st
  exact ⟨h.only.step k (fun g hg => .inr (q2 g (q3 g (hS g hg))).1), ⟨M, av, pf, q1.only k (fun g hg => q3 g (hS g hg)) (fun g hg q => q4 g hg (hS g q)), q2, q3, q4⟩, fun g hg => Nat.lt_of_lt_of_le (h.el g hg) k.size, h.ok, h.inv⟩
theorem HasS.setCell (h : HasS a w R E sb mb s N) {p : Addr} (hp : p.block ∈ R) (u : Value) : HasS a (w.setCell p u) R E sb mb s N := h.turn (S := [p.block]) ((Only.refl _ w).setCell (.inl (by simp)) u) (by simpa using hp)
theorem HasS.more (h : HasS a w R E sb mb s N) {N' : Nat} (hn : N ≤ N') : HasS a w R E sb mb s N' := ⟨h.only, h.st, h.el, h.ok.more hn, h.inv⟩
theorem has_newS (a w : World) (ha : Only [] a w) (E : List Nat) (hE : ∀ g ∈ E, g < w.heap.size) : Calls Try.prog 12 #[] w fun e w' => e = .returned (.pointer (some ⟨w.heap.size + 1, 0, none⟩)) ∧ HasS a w' [] E (w.heap.size + 1) w.heap.size MS.new 0 ∧ Only [] w w' :=
  (newS_any w (fun _ => .slice none 0 0)).mono fun e w' ⟨h1, h2, h3⟩ => ⟨h1, ⟨ha.trans h3, ⟨_, _, _, h2, fun g hg => by
    have := ha.size
    simp at hg
    refine ⟨by omega, fun q => ?_⟩
    have := hE g q
    omega, fun g hg => (by cases hg), fun g hg q => (by cases q)⟩, fun g hg => Nat.lt_of_lt_of_le (hE g hg) h3.size, MS.new_ok, inv_new⟩, h3⟩
/-- A command's events, where they lie. -/
def EvIn (a w : World) (E : List Nat) (ev : Value) (l : List EventR) : Prop := Slc w 4 ev l.length (l.flatMap EventR.cells) ∧ ∀ g, ev.ownBlock = some g → (g < a.heap.size ∨ g ∈ E) ∨ l.length = 0
theorem has_do {c : Cmd} {ev : Value} (h : HasS a w R E sb mb s N) (hN : N ≤ 100000) (hc : CmdOk c) (he : EvIn a w E ev c.events) :
    Calls Try.prog 13 #[.pointer (some ⟨sb, 0, none⟩), c.val ev] w fun e w' => e = .returned (s.do c).1.val ∧ HasS a w' R E sb mb (s.do c).2 (N + 1) ∧ Keeps a (R ++ E) w w' := by
  obtain ⟨M, av, pf, h1, h2, h3, h4⟩ := h.st
  have hrd : Rd M w 4 ev c.events.length (c.events.flatMap EventR.cells) := ⟨he.1, fun g hg => by
    rcases he.2 g hg with (q | q) | q
    · exact .inl ⟨fun q2 => by have := (h2 g q2).1; omega, Nat.lt_of_lt_of_le q h.only.size⟩
    · exact .inl ⟨fun q2 => (h2 g q2).2 q, h.el g q⟩
    · exact .inr q⟩
  refine (do_any h1 h.ok hN hc hrd).mono fun e w' ⟨q1, M', av', pf', q2, q3, q4, q5, q6⟩ => ⟨q1, ?_, ⟨_, q3, fun g hg => ⟨(h2 g (h1.hMM g hg)).1, fun q => ?_⟩⟩⟩
  · refine ⟨h.only.step q3 (fun g hg => .inr (h2 g (h1.hMM g hg)).1), ⟨M', av', pf', q2, fun g hg => ?_, fun g hg => q4 g (h3 g hg), fun g hg q => ?_⟩, fun g hg => Nat.lt_of_lt_of_le (h.el g hg) q3.size, MS.do_ok h.ok c, inv_do h.inv c⟩
    · rcases q5 g hg with q | q
      · exact h2 g q
      · refine ⟨Nat.le_trans h.only.size q, fun q7 => ?_⟩
        have := h.el g q7
        omega
    · simp only [hM, List.mem_cons, Option.mem_toList] at hg
      rcases hg with rfl | rfl | hg
      · exact h4 _ (by simp [hM]) q
      · exact h4 _ (by simp [hM]) q
      · rcases q6 g hg with q7 | q7
        · exact h4 g (by simp [hM, q7]) q
        · have := h1.mlt g (h3 g q)
          omega
  · rcases List.mem_append.1 q with q | q
    · exact h4 g hg q
    · exact (h2 g (h1.hMM g hg)).2 q
theorem has_len (h : HasS a w R E sb mb s N) : Calls Try.prog 14 #[.pointer (some ⟨sb, 0, none⟩)] w fun e w' => e = .returned (.int .i64 s.all.length) ∧ w = w' := by
  obtain ⟨M, av, pf, h1, h2⟩ := h.st
  exact lenS_any h1
theorem has_done (h : HasS a w R E sb mb s N) : Calls Try.prog 21 #[.pointer (some ⟨sb, 0, none⟩)] w fun e w' => e = .returned (.int .i64 s.done) ∧ w = w' := by
  obtain ⟨M, av, pf, h1, h2⟩ := h.st
  exact doneS_any h1
theorem has_now (h : HasS a w R E sb mb s N) : Calls Try.prog 22 #[.pointer (some ⟨sb, 0, none⟩)] w fun e w' => e = .returned (.int .i64 s.now) ∧ w = w' := by
  obtain ⟨M, av, pf, h1, h2⟩ := h.st
  exact nowS_any h1
theorem has_count (h : HasS a w R E sb mb s N) (n : ByteArray) : Calls Try.prog 20 #[.pointer (some ⟨sb, 0, none⟩), .string n] w fun e w' => e = .returned (.int .i64 (s.find n).places.length) ∧ Only [] w w' := by
  obtain ⟨M, av, pf, h1, h2⟩ := h.st
  exact countS_any h1 n
theorem has_deleted (h : HasS a w R E sb mb s N) (n : ByteArray) : Calls Try.prog 15 #[.pointer (some ⟨sb, 0, none⟩), .string n] w fun e w' => e = .returned (.bool (s.find n).deleted) ∧ Only [] w w' := by
  obtain ⟨M, av, pf, h1, h2⟩ := h.st
  exact deletedS_any h1 n
theorem has_floor (h : HasS a w R E sb mb s N) (hN : N ≤ 100000) (n : ByteArray) : Calls Try.prog 28 #[.pointer (some ⟨sb, 0, none⟩), .string n] w fun e w' => e = .returned (.int .i64 (s.floorS n)) ∧ Only [] w w' := by
  obtain ⟨M, av, pf, h1, h2⟩ := h.st
  exact floorS_any h1 h.ok hN n
theorem has_read (h : HasS a w R E sb mb s N) (hN : N ≤ 100000) (n : ByteArray) (hn : n.size ≤ maxLen) (f k : Int) : Calls Try.prog 27 #[.pointer (some ⟨sb, 0, none⟩), .string n, .int .i64 f, .int .i64 k, .bool false] w (PageRet w (s.readF n f k)) := by
  obtain ⟨M, av, pf, h1, h2⟩ := h.st
  exact readF_any h1 h.ok hN n hn f k (seenL_vers h.inv h.ok hN n)
end
end Go.Proofs.Ytefkhkbkengniaa
