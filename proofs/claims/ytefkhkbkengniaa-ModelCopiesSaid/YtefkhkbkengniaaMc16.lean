/- What act leaves may be kept. -/
import Derived.Test.YtefkhkbkengniaaMc15
set_option linter.unusedVariables false
set_option linter.unusedSimpArgs false
namespace Go.Proofs.Ytefkhkbkengniaa
open Go.RowKit
theorem rangeFrom_mem : ∀ (k : Nat) (a p : Int), p ∈ rangeFrom k a → a ≤ p ∧ p < a + k
  | 0, a, p, h => by simp [rangeFrom] at h
  | k + 1, a, p, h => by
    simp only [rangeFrom, List.mem_cons] at h
    rcases h with rfl | h
    · omega
    · have := rangeFrom_mem k (a + 1) p h
      omega
theorem act_xok {s : MS} {x : StreamR} {c : Cmd} (hx : XOk s x) (hm : c.kind = 2 → c.mt.ok = true) :
    XOk (s.act c x).2.2 (s.act c x).2.1 ∧ (s.act c x).2.2.now = s.now ∧ (s.act c x).2.2.m = s.m ∧ (s.act c x).2.2.done = s.done ∧ s.all.length ≤ (s.act c x).2.2.all.length ∧ (s.act c x).2.2.all.length ≤ s.all.length + c.events.length := by
  have hx' := hx
  obtain ⟨h1, h2, h3, h4⟩ := hx
  unfold MS.act
  dsimp only
  split
  · rename_i hk
    exact ⟨⟨hm hk, h2, h3, h4⟩, rfl, rfl, rfl, Nat.le_refl _, Nat.le_add_right _ _⟩
  · split
    · split
      · exact ⟨⟨h1, h2, h3, h4⟩, rfl, rfl, rfl, Nat.le_refl _, Nat.le_add_right _ _⟩
      · exact ⟨hx', rfl, rfl, rfl, Nat.le_refl _, Nat.le_add_right _ _⟩
    · split
      · exact ⟨hx', rfl, rfl, rfl, Nat.le_refl _, Nat.le_add_right _ _⟩
      · split
        · unfold MS.append
          dsimp only
          refine ⟨⟨h1, ⟨h2.1, ?_⟩, fun p hp => ?_, ?_⟩, rfl, rfl, rfl, ?_, ?_⟩
          · simp only [List.length_append]
            omega
          · simp only [List.mem_append, List.length_append, storedOf_len] at hp ⊢
            rcases hp with hp | hp
            · have := h3 p hp
              omega
            · have := rangeFrom_mem _ _ p hp
              omega
          · simp only [List.length_append, storedOf_len, rangeFrom_len]
            omega
          · simp only [List.length_append]
            omega
          · simp only [List.length_append, storedOf_len]
            omega
        · exact ⟨hx', rfl, rfl, rfl, Nat.le_refl _, Nat.le_add_right _ _⟩
/-- What a command that is in order says. -/
theorem check_zero {c : Cmd} (h : c.check = 0) : 1 ≤ c.kind ∧ c.kind ≤ 5 ∧ (0 ≤ c.time ∧ c.time ≤ 1099511627776) ∧ (c.kind = 2 → c.mt.ok = true) ∧ (c.kind = 1 → 1 ≤ c.events.length ∧ c.events.length ≤ 8) := by
  unfold Cmd.check at h
  split at h
  · omega
  · rename_i q1
    have ht : within c.time = true := by
      cases hw : within c.time
      · exact absurd (.inr (.inr hw)) q1
      · rfl
    simp only [within, Bool.and_eq_true, decide_eq_true_eq] at ht
    refine ⟨by omega, by omega, ht, fun hk => ?_, fun hk => ?_⟩
    · split at h
      · omega
      · split at h
        · omega
        · split at h
          · omega
          · split at h
            · omega
            · rename_i q2
              cases hw : c.mt.ok
              · exact absurd ⟨hk, hw⟩ q2
              · rfl
    · split at h
      · omega
      · split at h
        · rename_i q2
          exact absurd h q2.2
        · rename_i q2
          have he : eventsE c.events = 0 := by
            by_cases hz : eventsE c.events = 0
            · exact hz
            · exact absurd ⟨hk, hz⟩ q2
          unfold eventsE at he
          split at he
          · omega
          · split at he
            · omega
            · omega
end Go.Proofs.Ytefkhkbkengniaa
