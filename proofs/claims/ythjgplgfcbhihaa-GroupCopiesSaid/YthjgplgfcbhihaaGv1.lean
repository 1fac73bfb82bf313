/- A group as the laws see it: in blocks H, above a world that stays; the contracts in that form. -/
import Derived.Test.YthjgplgfcbhihaaGc15
set_option linter.unusedVariables false
set_option linter.unusedSimpArgs false
namespace Go.Proofs.Ythjgplgfcbhihaa
open Go.RowKit Go Go.Sort Go.Lib
/-- The group g lies in the blocks H, at gb. -/
def GIn (w : World) (H : List Nat) (gb : Nat) (g : GS) (N : Nat) : Prop :=
  ∃ fb tb vw vp va vs pf, GAt w gb fb tb vw vp va vs pf g ∧ H = hG gb fb tb (rowsOf vw vp va vs pf g) ∧ g.Ok N ∧ g.Nm
/-- .. above the world a. -/
structure HasG (a w : World) (H : List Nat) (gb : Nat) (g : GS) (N : Nat) : Prop where
  gin : GIn w H gb g N
  only : Only [] a w
  above : ∀ b ∈ H, a.heap.size ≤ b
/-- What a call leaves. -/
def GTo (a w : World) (H : List Nat) (gb : Nat) (g : GS) (N : Nat) (w' : World) : Prop := ∃ H', HasG a w' H' gb g N ∧ Stepped w w' H H'
section
variable {a w w' : World} {H : List Nat} {gb N : Nat} {g : GS}
theorem GIn.lt (h : GIn w H gb g N) : ∀ b ∈ H, b < w.heap.size := by
  obtain ⟨fb, tb, vw, vp, va, vs, pf, h1, rfl, _⟩ := h
  exact h1.lt
theorem GIn.keep {S : List Nat} (h : GIn w H gb g N) (k : Only S w w') (hS : ∀ b ∈ H, b ∉ S) : GIn w' H gb g N := by
  obtain ⟨fb, tb, vw, vp, va, vs, pf, h1, rfl, h2⟩ := h
  exact ⟨fb, tb, vw, vp, va, vs, pf, h1.only k hS, rfl, h2⟩
theorem GIn.keep0 (h : GIn w H gb g N) (k : Only [] w w') : GIn w' H gb g N := h.keep k (by simp)
theorem GIn.ok (h : GIn w H gb g N) : g.Ok N := by
  obtain ⟨fb, tb, vw, vp, va, vs, pf, h1, rfl, h2, _⟩ := h
  exact h2
theorem GIn.nm (h : GIn w H gb g N) : g.Nm := by
  obtain ⟨fb, tb, vw, vp, va, vs, pf, h1, rfl, h2, h3⟩ := h
  exact h3
theorem HasG.keep0 (h : HasG a w H gb g N) (k : Only [] w w') : HasG a w' H gb g N := ⟨h.gin.keep0 k, h.only.trans k, h.above⟩
theorem HasG.fresh (h : HasG a w H gb g N) {v : Value} (hf : ∀ b, v.ownBlock = some b → w.heap.size ≤ b) : ∀ b, v.ownBlock = some b → b ∉ H := fun b hb q => by
  have := h.gin.lt b q
  have := hf b hb
  omega
theorem hasG_of (h : HasG a w H gb g N) {g' : GS} {N' : Nat} (ho : g'.Ok N') (hn : g'.Nm) {fb tb : Nat} {vw vp va vs : Value} {pf : ByteArray → Value} (h1 : GAt w' gb fb tb vw vp va vs pf g') (k : Stepped w w' H (hG gb fb tb (rowsOf vw vp va vs pf g'))) : GTo a w H gb g' N' w' := by
  obtain ⟨q1, q2⟩ := k.above h.only h.above
  exact ⟨_, ⟨⟨fb, tb, vw, vp, va, vs, pf, h1, rfl, ho, hn⟩, q1, q2⟩, k⟩
theorem in_new (a w : World) (ha : Only [] a w) (f b r : Int) (hok : GS.okNew f b r = true) :
    Calls Try.prog 8 #[.agg #[.int .i64 f, .int .i64 b, .int .i64 r]] w fun e w' => ∃ gb H, e = .returned (.tuple #[.pointer (some ⟨gb, 0, none⟩), .int .i64 0]) ∧ HasG a w' H gb (GS.new f b r) 0 ∧ Only [] w w' ∧ ∀ x ∈ H, w.heap.size ≤ x :=
  (gnew_any f b r hok w).mono fun e w' ⟨gb, fb, tb, h1, h2, h3, h4⟩ => ⟨gb, _, h1, ⟨⟨fb, tb, _, _, _, _, _, h2, rfl, GS.new_ok hok, GS.new_nm f b r⟩, ha.trans h4, fun x hx => Nat.le_trans ha.size (h3 x hx)⟩, h4, h3⟩
theorem in_join (h : HasG a w H gb g N) (who : ByteArray) (hs : who.size ≤ maxLen) :
    Calls Try.prog 9 #[.pointer (some ⟨gb, 0, none⟩), .string who] w fun e w' => e = .returned (.int .i64 (g.join who).1) ∧ GTo a w H gb (g.join who).2 (N + 1) w' := by
  have hh := h
  obtain ⟨⟨fb, tb, vw, vp, va, vs, pf, h1, rfl, hok, hnm⟩, ho, hab⟩ := h
  exact (join_any h1 who hs).mono fun e w' ⟨e1, v1, v2, v3, v4, v5, k1, k2⟩ => ⟨e1, hasG_of hh (GS.join_ok hok who) (GS.join_nm hnm who) k1 k2⟩
theorem in_leave (h : HasG a w H gb g N) (hN : N ≤ 1000) (who : ByteArray) :
    Calls Try.prog 26 #[.pointer (some ⟨gb, 0, none⟩), .string who] w fun e w' => e = .returned (.int .i64 (g.leave who).1) ∧ GTo a w H gb (g.leave who).2 (N + 1) w' := by
  have hh := h
  obtain ⟨⟨fb, tb, vw, vp, va, vs, pf, h1, rfl, hok, hnm⟩, ho, hab⟩ := h
  exact (leave_any h1 hok (by omega) who).mono fun e w' ⟨e1, v1, v2, v3, v4, v5, k1, k2⟩ => ⟨e1, hasG_of hh (GS.leave_ok hok who) (GS.leave_nm hnm who) k1 k2⟩
theorem in_feed (h : HasG a w H gb g N) (hN : N ≤ 1000) (n : Int) :
    Calls Try.prog 10 #[.pointer (some ⟨gb, 0, none⟩), .int .i64 n] w fun e w' => e = .returned (.int .i64 (g.feed n).1) ∧ GTo a w H gb (g.feed n).2 (N + 1) w' := by
  have hh := h
  obtain ⟨⟨fb, tb, vw, vp, va, vs, pf, h1, rfl, hok, hnm⟩, ho, hab⟩ := h
  exact (feed_any h1 hok (by omega) n).mono fun e w' ⟨e1, v1, v2, v3, v4, v5, k1, k2⟩ => ⟨e1, hasG_of hh (GS.feed_ok hok n) (GS.feed_nm hnm n) k1 k2⟩
theorem next1_ok (h : g.Ok N) (hn : g.Nm) (who : ByteArray) : (g.next1 who).2.Ok (N + 1) ∧ (g.next1 who).2.Nm := by
  unfold GS.next1
  cases hx : g.take1 who with
  | none => exact ⟨h.more (Nat.le_succ N), hn⟩
  | some r => exact ⟨GS.take1_ok h who (n := r.1) (t := r.2) hx, GS.take1_nm hn who (n := r.1) (t := r.2) hx⟩
theorem in_next (h : HasG a w H gb g N) (hN : N ≤ 1000) (who : ByteArray) :
    Calls Try.prog 11 #[.pointer (some ⟨gb, 0, none⟩), .string who] w fun e w' => e = .returned (.tuple #[.int .i64 (g.next1 who).1.1, .bool (g.next1 who).1.2]) ∧ GTo a w H gb (g.next1 who).2 (N + 1) w' := by
  have hh := h
  obtain ⟨⟨fb, tb, vw, vp, va, vs, pf, h1, rfl, hok, hnm⟩, ho, hab⟩ := h
  exact (next_any h1 hok (by omega) who).mono fun e w' ⟨e1, v1, v2, v3, v4, v5, k1, k2⟩ => ⟨e1, hasG_of hh (next1_ok hok hnm who).1 (next1_ok hok hnm who).2 k1 k2⟩
theorem in_ack (h : HasG a w H gb g N) (hN : N ≤ 1000) (who : ByteArray) {lv : Value} {l : List Int} (hl : Slc w 1 lv l.length (ints l)) (hlb : ∀ b, lv.ownBlock = some b → b ∉ H ∨ l = []) (hll : l.length ≤ 1000000) :
    Calls Try.prog 13 #[.pointer (some ⟨gb, 0, none⟩), .string who, lv] w fun e w' => e = .returned (.int .i64 (g.ack who l).1) ∧ GTo a w H gb (g.ack who l).2 N w' := by
  have hh := h
  obtain ⟨⟨fb, tb, vw, vp, va, vs, pf, h1, rfl, hok, hnm⟩, ho, hab⟩ := h
  exact (ack_any h1 hok (by omega) who hl hlb hll).mono fun e w' ⟨e1, v1, v2, v3, v4, v5, k1, k2⟩ => ⟨e1, hasG_of hh (GS.ack_ok hok who l) (GS.ack_nm hnm who l) k1 k2⟩
theorem in_nak (h : HasG a w H gb g N) (hN : N ≤ 1000) (who : ByteArray) (how : Int) {lv : Value} {l : List Int} (hl : Slc w 1 lv l.length (ints l)) (hlb : ∀ b, lv.ownBlock = some b → b ∉ H ∨ l = []) (hll : l.length ≤ 1000000) :
    Calls Try.prog 20 #[.pointer (some ⟨gb, 0, none⟩), .string who, .int .i64 how, lv] w fun e w' => e = .returned (.int .i64 (g.nak who how l).1) ∧ GTo a w H gb (g.nak who how l).2 N w' := by
  have hh := h
  obtain ⟨⟨fb, tb, vw, vp, va, vs, pf, h1, rfl, hok, hnm⟩, ho, hab⟩ := h
  exact (nak_any h1 hok (by omega) who how hl hlb hll).mono fun e w' ⟨e1, v1, v2, v3, v4, v5, k1, k2⟩ => ⟨e1, hasG_of hh (GS.nak_ok hok who how l) (GS.nak_nm hnm who how l) k1 k2⟩
theorem in_late (h : HasG a w H gb g N) (hN : N ≤ 1000) :
    Calls Try.prog 19 #[.pointer (some ⟨gb, 0, none⟩)] w fun e w' => e = .returned (.int .i64 g.late.1) ∧ GTo a w H gb g.late.2 N w' := by
  have hh := h
  obtain ⟨⟨fb, tb, vw, vp, va, vs, pf, h1, rfl, hok, hnm⟩, ho, hab⟩ := h
  exact (late_any h1 hok hnm hN).mono fun e w' ⟨e1, v1, v2, v3, v4, v5, k1, k2⟩ => ⟨e1, hasG_of hh (GS.late_ok hok) (GS.late_nm hnm) k1 k2⟩
theorem in_replay (h : HasG a w H gb g N) (hN : N ≤ 1000) :
    Calls Try.prog 21 #[.pointer (some ⟨gb, 0, none⟩)] w fun e w' => e = .returned (.int .i64 g.replay.1) ∧ GTo a w H gb g.replay.2 N w' := by
  have hh := h
  obtain ⟨⟨fb, tb, vw, vp, va, vs, pf, h1, rfl, hok, hnm⟩, ho, hab⟩ := h
  exact (replay_any h1 hok (by omega)).mono fun e w' ⟨e1, v1, v2, v3, v4, v5, k1, k2⟩ => ⟨e1, hasG_of hh (GS.replay_ok hok) (GS.replay_nm hnm) k1 k2⟩
theorem in_ckpt (h : HasG a w H gb g N) (hN : N ≤ 1000) : Calls Try.prog 14 #[.pointer (some ⟨gb, 0, none⟩)] w fun e w' => e = .returned (.int .i64 g.checkpoint) ∧ Only [] w w' := by
  obtain ⟨⟨fb, tb, vw, vp, va, vs, pf, h1, rfl, hok, hnm⟩, ho, hab⟩ := h
  exact ckpt_any h1 hok (by omega)
theorem in_tries (h : HasG a w H gb g N) (n : Int) : Calls Try.prog 18 #[.pointer (some ⟨gb, 0, none⟩), .int .i64 n] w fun e w' => e = .returned (.int .i64 (g.tr n)) ∧ w = w' := by
  obtain ⟨⟨fb, tb, vw, vp, va, vs, pf, h1, rfl, hok, hnm⟩, ho, hab⟩ := h
  exact tries_any h1 n
theorem in_who (h : HasG a w H gb g N) : Calls Try.prog 28 #[.pointer (some ⟨gb, 0, none⟩)] w fun e w' => ∃ v, e = .returned v ∧ w'.ownsRow w.heap.size 9 1 v g.who.length (strs g.who) ∧ Only [] w w' := by
  obtain ⟨⟨fb, tb, vw, vp, va, vs, pf, h1, rfl, hok, hnm⟩, ho, hab⟩ := h
  exact who_any h1 hok hnm
theorem in_parked (h : HasG a w H gb g N) (hN : N ≤ 1000) : Calls Try.prog 17 #[.pointer (some ⟨gb, 0, none⟩)] w (RowRet w g.parked) := by
  obtain ⟨⟨fb, tb, vw, vp, va, vs, pf, h1, rfl, hok, hnm⟩, ho, hab⟩ := h
  have := hok.len hok.pa
  exact parked_any h1 (by omega)
theorem in_waiting (h : HasG a w H gb g N) (hN : N ≤ 1000) : Calls Try.prog 15 #[.pointer (some ⟨gb, 0, none⟩)] w (RowRet w g.waiting) := by
  obtain ⟨⟨fb, tb, vw, vp, va, vs, pf, h1, rfl, hok, hnm⟩, ho, hab⟩ := h
  have := hok.len hok.wa
  exact waiting_any h1 (by omega)
theorem in_acked (h : HasG a w H gb g N) (hN : N ≤ 1000) : Calls Try.prog 16 #[.pointer (some ⟨gb, 0, none⟩)] w (RowRet w g.acked) := by
  obtain ⟨⟨fb, tb, vw, vp, va, vs, pf, h1, rfl, hok, hnm⟩, ho, hab⟩ := h
  have := hok.len hok.ac
  exact acked_any h1 (by omega)
theorem in_skipped (h : HasG a w H gb g N) (hN : N ≤ 1000) : Calls Try.prog 27 #[.pointer (some ⟨gb, 0, none⟩)] w (RowRet w g.skipped) := by
  obtain ⟨⟨fb, tb, vw, vp, va, vs, pf, h1, rfl, hok, hnm⟩, ho, hab⟩ := h
  have := hok.len hok.sk
  exact skipped_any h1 (by omega)
theorem in_flight (h : HasG a w H gb g N) (hN : N ≤ 1000) (who : ByteArray) : Calls Try.prog 12 #[.pointer (some ⟨gb, 0, none⟩), .string who] w (RowRet w (g.fl who)) := by
  obtain ⟨⟨fb, tb, vw, vp, va, vs, pf, h1, rfl, hok, hnm⟩, ho, hab⟩ := h
  have := hok.len (hok.flOf who)
  exact flight_any h1 who (by omega)
end
end Go.Proofs.Ythjgplgfcbhihaa
