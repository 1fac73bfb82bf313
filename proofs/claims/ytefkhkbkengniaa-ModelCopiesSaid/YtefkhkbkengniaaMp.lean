/- What Do keeps of a state's numbers. -/
import Derived.Test.YtefkhkbkengniaaMc17
set_option linter.unusedVariables false
set_option linter.unusedSimpArgs false
namespace Go.Proofs.Ytefkhkbkengniaa
open Go.RowKit
theorem aput_mem {κ ν : Type} [DecidableEq κ] {l : List (κ × ν)} {k : κ} {v : ν} {p : κ × ν} (h : p ∈ aput l k v) : p = (k, v) ∨ p ∈ l := by
  induction l with
  | nil => simp [aput] at h; exact .inl h
  | cons q l ih =>
    obtain ⟨a, b⟩ := q
    simp only [aput] at h
    split at h
    · simp only [List.mem_cons] at h ⊢
      rcases h with h | h
      · exact .inl h
      · exact .inr (.inr h)
    · simp only [List.mem_cons] at h ⊢
      rcases h with h | h
      · exact .inr (.inl h)
      · exact (ih h).imp id .inr
namespace MS
variable {s : MS} {N : Nat} {c : Cmd}
theorem Ok.more (h : s.Ok N) {N' : Nat} (hn : N ≤ N') : s.Ok N' :=
  ⟨h.now, ⟨h.done.1, by have := h.done.2; omega⟩, by have := h.all; omega, h.st⟩
theorem Ok.tick (h : s.Ok N) {t : Int} (ht : 0 ≤ t ∧ t ≤ 1099511627776) : (s.tick t).Ok (N + 1) :=
  ⟨by show 0 ≤ max s.now t ∧ max s.now t ≤ _; have := h.now; omega, by show 0 ≤ s.done + 1 ∧ s.done + 1 ≤ _; have := h.done; omega, by show s.all.length ≤ _; have := h.all; omega, h.st⟩
theorem new_ok : MS.new.Ok 0 := ⟨by decide, by decide, by decide, fun n x hx => by cases hx⟩
theorem do_ok (h : s.Ok N) (c : Cmd) : (s.do c).2.Ok (N + 1) := by
  unfold MS.do
  split
  · exact h.more (Nat.le_succ _)
  · rename_i hk
    have hk : c.check = 0 := by simpa using hk
    have hz := check_zero hk
    have hf := check_few hk
    have ht := h.tick (t := c.time) hz.2.2.1
    have hal : (s.tick c.time).all.length = s.all.length := rfl
    dsimp only
    split
    · exact ht
    · split
      · exact ht
      · have hx := ht.xok c.stream
        have hb := floorOf_bd (s.tick c.time) ((s.tick c.time).find c.stream)
        have hx2 : XOk (s.tick c.time) { (s.tick c.time).find c.stream with floor := (s.tick c.time).floorOf ((s.tick c.time).find c.stream) } := ⟨hx.mt, hb, hx.pl, hx.few⟩
        have ha := act_xok (c := c) hx2 hz.2.2.2.1
        generalize (s.tick c.time).act c { (s.tick c.time).find c.stream with floor := (s.tick c.time).floorOf ((s.tick c.time).find c.stream) } = r at ha
        obtain ⟨a, y, s2⟩ := r
        obtain ⟨h1, h2, h3, h4, h5, h6⟩ := ha
        dsimp only at h1 h2 h3 h4 h5 h6 ⊢
        refine ⟨?_, ?_, ?_, fun n x hx => ?_⟩
        · show 0 ≤ s2.now ∧ s2.now ≤ _
          rw [h2]
          exact ht.now
        · show 0 ≤ s2.done ∧ s2.done ≤ _
          rw [h4]
          exact ht.done
        · show s2.all.length ≤ _
          have := h.all
          omega
        · have hx' : (n, x) ∈ aput s2.m c.stream { y with floor := s2.floorOf y } := hx
          show _ ∧ _ ∧ _ ∧ x.places.length ≤ s2.all.length ∧ ∀ p ∈ x.places, 0 ≤ p ∧ p < s2.all.length
          rcases aput_mem hx' with q | q
          · cases q
            have hb2 := floorOf_bd s2 y
            exact ⟨h1.mt, hb2.1, hb2.2, h1.few, h1.pl⟩
          · rw [h3] at q
            obtain ⟨e1, e2, e3, e4, e5⟩ := ht.st n x q
            refine ⟨e1, e2, e3, by omega, fun p hp => ?_⟩
            have := e5 p hp
            omega
end MS
end Go.Proofs.Ytefkhkbkengniaa
