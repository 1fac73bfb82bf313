/- Proved here: contracts of functions and plain laws, part 26 of one proof. Conditions: each theorem names its own. -/
import Derived.Test.YteinoiicnmemhaaGreatDoorZ25
set_option linter.unusedSimpArgs false
set_option linter.unusedVariables false
namespace Go.Proofs.YteinoiicnmemhaaGreatDoor
section
open Go Go.RowKit Go.Sort
section
variable {a w : World} {H : List Nat} {rb : Nat} {r : RS}
theorem ddo_any (h : HasD a w H rb r) (hf : r.Fine) (hs : r.s.length + 3 ≤ 1000000) (hdb : 0 ≤ r.done ∧ r.done ≤ 1000000000) (c : Cmd) (v : Value) (he : Slc w 4 v c.events.length (c.events.flatMap EventR.cells)) (hn : ∀ g, v.ownBlock = some g → g ∉ H ∨ c.events = []) (ho : CmdOk c)
    (hlm : r.l.length + c.events.length ≤ 1000000) :
    Calls Tryz.prog 10 #[.pointer (some ⟨rb, 0, none⟩), c.val v] w fun e w' => e = .returned (r.do c).1.val ∧ DTo a w H rb (r.do c).2 w' := by
  by_cases hk : c.check = 0
  · obtain ⟨hk1, hk2, -⟩ := check_kind hk
    by_cases h4 : 4 ≤ c.kind
    · have e : r.do c = (⟨0, 0, r.l.length, false⟩, r.tick c.time) := by
        unfold RS.do
        rw [if_neg (by simp [hk])]
        dsimp only
        rw [if_pos h4]
        try rfl
      rw [e]
      exact ddo_mark h hf hdb c v he ho hk h4
    · cases hd : (r.get c.stream).deleted with
      | true =>
        have e : r.do c = (⟨23, 0, 0, false⟩, (r.tick c.time).keep c.stream) := by
          unfold RS.do
          rw [if_neg (by simp [hk])]
          dsimp only
          rw [if_neg h4, if_pos (show ((r.tick c.time).get c.stream).deleted = true from hd)]
        rw [e]
        exact ddo_gone h hf (by omega) hdb c v he ho hk (by omega) hd
      | false =>
        have e : r.do c = (r.tick c.time).act c := by
          unfold RS.do
          rw [if_neg (by simp [hk])]
          dsimp only
          rw [if_neg h4, if_neg (by rw [show ((r.tick c.time).get c.stream).deleted = false from hd]; simp)]
        rw [e]
        by_cases h2 : c.kind = 2
        · exact ddo_meta h hf hs hdb c v he ho hk h2 hd
        · by_cases h3 : c.kind = 3
          · exact ddo_del h hf hs hdb c v he ho hk h3 hd
          · have h1 : c.kind = 1 := by omega
            have hn : ∀ g, v.ownBlock = some g → g ∉ H := fun g hg => (hn g hg).resolve_right (fun q => by have := check_evs hk h1; rw [q] at this; simp [eventsE] at this)
            by_cases hv : 0 ≤ firstAt (((c.events.head?).map (·.id)).getD 0) (r.of c.stream) 0
            · exact ddo_app1 h hf hs hdb c v he hn ho hk h1 hd hv
            · exact ddo_app2 h hf hs hdb c v he hn ho hk h1 hd hlm hv
  · have e : r.do c = (⟨c.check, 0, 0, false⟩, r) := by
      unfold RS.do
      rw [if_pos hk]
    rw [e]
    exact ddo_bad h c v he ho hk
theorem do_slen (r : RS) (c : Cmd) : (r.do c).2.s.length ≤ r.s.length + 3 := by
  have k1 := fun (R : RS) n => keep_len R n
  have p1 := fun (R : RS) x => put_len R x
  unfold RS.do
  split
  · show r.s.length ≤ _; omega
  · dsimp only
    split
    · show r.s.length ≤ _; omega
    · split
      · have := k1 (r.tick c.time) c.stream
        have e : (r.tick c.time).s.length = r.s.length := rfl
        dsimp only at *
        omega
      · unfold RS.act
        dsimp only
        have e : (r.tick c.time).s.length = r.s.length := rfl
        split
        · have q1 := k1 (r.tick c.time) c.stream
          have q2 := p1 ((r.tick c.time).keep c.stream) { ((r.tick c.time).keep c.stream).get c.stream with mt := c.mt }
          have q3 := k1 (((r.tick c.time).keep c.stream).put { ((r.tick c.time).keep c.stream).get c.stream with mt := c.mt }) c.stream
          dsimp only at *
          omega
        · split
          · split
            · have q1 := k1 (r.tick c.time) c.stream
              dsimp only at *
              omega
            · have q2 := p1 (r.tick c.time) { (r.tick c.time).get c.stream with deleted := true }
              have q3 := k1 ((r.tick c.time).put { (r.tick c.time).get c.stream with deleted := true }) c.stream
              dsimp only at *
              omega
          · split
            · have q1 := k1 (r.tick c.time) c.stream
              dsimp only at *
              omega
            · split
              · have q1 := k1 (r.tick c.time) c.stream
                dsimp only at *
                omega
              · have q1 := k1 ({ r.tick c.time with l := (r.tick c.time).l ++ storedOf c.stream (r.tick c.time).now c.events ((r.tick c.time).of c.stream).length (r.tick c.time).l.length } : RS) c.stream
                have e2 : ({ r.tick c.time with l := (r.tick c.time).l ++ storedOf c.stream (r.tick c.time).now c.events ((r.tick c.time).of c.stream).length (r.tick c.time).l.length } : RS).s.length = r.s.length := rfl
                dsimp only at *
                omega
end
end
end Go.Proofs.YteinoiicnmemhaaGreatDoor
