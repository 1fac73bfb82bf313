/- Contracts: Type, Valid, events, spare, Check. -/
import Derived.Test.YtefkhkbkengniaaMc1
import Derived.Test.YtefkhkbkengniaaMr
set_option linter.unusedVariables false
set_option linter.unusedSimpArgs false
namespace Go.Proofs.Ytefkhkbkengniaa
open Go.RowKit
theorem stF (W : World) (a : Addr) (b : Nat) (m : Mode) : Sem.run Try.prog (store a (.float .f64 b) m) W = stored Try.prog W a (.float .f64 b) m := run_store Try.prog W a _ m rfl
theorem type_any (s : ByteArray) (w : World) (hs : s.size ≤ maxLen) : Calls Try.prog 101 #[.string s] w fun e w' => e = .returned (.bool (nameOk s)) ∧ w = w' := by
  go_enter Try.func101, Try.ntmps101
  go_wp2_with (go_at_call 46; refine (stream_any s _ hs).mono ?_; rintro e w' ⟨rfl, rfl⟩)
  go_ret
  exact ⟨rfl, rfl⟩
theorem valid_any (e : EventR) (w : World) (hs : e.type.size ≤ maxLen ∧ e.data.size ≤ maxLen) : Calls Try.prog 90 #[e.val] w fun e1 w' => e1 = .returned (.bool e.ok) ∧ Only [] w w' := by
  have hd := hs.2
  unfold maxLen at hd
  unfold EventR.val
  by_cases h1 : 1 ≤ e.id
  · cases h2 : nameOk e.type
    · go_enter Try.func90, Try.ntmps90
      go_wp2_with (go_at_call 101; refine (type_any e.type _ hs.1).mono ?_; rintro e w' ⟨rfl, rfl⟩)
      go_ret
      exact ⟨ret_b (by simp [EventR.ok, h2] <;> omega), (Only.refl [] w).alloc _⟩
    · by_cases h3 : e.data.size ≤ 200
      · go_enter Try.func90, Try.ntmps90
        go_wp2_with (go_at_call 101; refine (type_any e.type _ hs.1).mono ?_; rintro e w' ⟨rfl, rfl⟩)
        go_ret
        exact ⟨ret_b (by simp [EventR.ok, h1, h2, h3] <;> omega), (Only.refl [] w).alloc _⟩
      · go_enter Try.func90, Try.ntmps90
        go_wp2_with (go_at_call 101; refine (type_any e.type _ hs.1).mono ?_; rintro e w' ⟨rfl, rfl⟩)
        go_ret
        exact ⟨ret_b (by simp [EventR.ok, h3] <;> omega), (Only.refl [] w).alloc _⟩
  · go_enter Try.func90, Try.ntmps90
    go_wp2_with (go_at_call 101; refine (type_any e.type _ hs.1).mono ?_; rintro e w' ⟨rfl, rfl⟩)
    go_ret
    exact ⟨ret_b (by simp [EventR.ok, h1] <;> omega), (Only.refl [] w).alloc _⟩
def EvsOk (l : List EventR) : Prop := ∀ e ∈ l, e.type.size ≤ maxLen ∧ e.data.size ≤ maxLen
theorem all_takeE {l : List EventR} {f : EventR → Bool} (k : Nat) (h : k < l.length) : (l.take (k + 1)).all f = ((l.take k).all f && f l[k]) := by
  rw [List.take_succ_eq_append_getElem h, List.all_append]
  simp
theorem all_falseE {l : List EventR} {f : EventR → Bool} {k : Nat} (h : k < l.length) (hf : f l[k] = false) : l.all f = false := by
  rw [Bool.eq_false_iff]
  intro q
  rw [List.all_eq_true] at q
  have := q l[k] (List.getElem_mem h)
  rw [hf] at this
  cases this
set_option maxHeartbeats 1000000 in
theorem events_any {w : World} {v : Value} {l : List EventR} (h : Slc w 4 v l.length (l.flatMap EventR.cells)) (hl : EvsOk l) :
    Calls Try.prog 65 #[v] w fun e w' => e = .returned (.int .i64 (eventsE l)) ∧ Only [] w w' := by
  obtain ⟨A, cap, rfl, hnc, hcm, hel⟩ := h.openE EventR.cells (fun _ => rfl)
  unfold maxLen at hcm
  by_cases h0 : l.length = 0
  · have hb : ((l.length : Int) == 0) = true := by simp [h0]
    have hb' : (l.length == 0) = true := by simp [h0]
    have hr : Hid (eventsE l = 1) := by unfold Hid eventsE; rw [if_pos h0]
    clear h0
    go_enter Try.func65, Try.ntmps65
    go_wp2
    go_ret
    exact ⟨ret_i (by rw [hr.out]), Only.refl _ _⟩
  · have hb : ((l.length : Int) == 0) = false := by rw [beq_eq_false_iff_ne]; omega
    have hb' : (l.length == 0) = false := by rw [beq_eq_false_iff_ne]; omega
    by_cases h8 : 8 < l.length
    · have hr : Hid (eventsE l = 2) := by unfold Hid eventsE; rw [if_neg h0, if_pos h8]
      go_enter Try.func65, Try.ntmps65
      go_wp2
      go_ret
      exact ⟨ret_i (by rw [hr.out]), Only.refl _ _⟩
    · have hr : Hid (eventsE l = if l.all EventR.ok then 0 else 1) := by unfold Hid eventsE; rw [if_neg h0, if_neg h8]
      go_enter Try.func65, Try.ntmps65
      go_wp2
      go_loopw [15] (fun i wr => ∃ k : Nat, k ≤ l.length ∧ i = .int .i64 k ∧ Hid ((l.take k).all EventR.ok = true) ∧ Only [] w wr) (fun i _ => l.length - (intOf i).toNat)
      case atStart => exact ⟨0, Nat.zero_le _, rfl, by simp [Hid], Only.refl _ _⟩
      case round =>
        obtain ⟨k, hk, rfl, hT, hO⟩ := hrel
        by_cases hlt : k < l.length
        · obtain ⟨b, off, rfl, hbl, hc⟩ := hel k hlt
          have hz := hl _ (List.getElem_mem hlt)
          have hnext : Hid (l[k].ok = true → (l.take (k + 1)).all EventR.ok = true) := by
            intro q
            rw [all_takeE k hlt, hT.out, q]
            rfl
          have hend : Hid (l[k].ok = false → eventsE l = 1) := by
            intro q
            rw [hr.out, all_falseE hlt q]
            rfl
          obtain ⟨x, hx⟩ : ∃ x, x = l[k] := ⟨_, rfl⟩
          rw [← hx] at hc hz hnext hend
          have c0 : wr.cell? ⟨b, off + k * 4, none⟩ = some (.int .i64 x.id) := (hO.cell hbl (by simp)).trans (hc 0 (by omega))
          have c1 : wr.cell? ⟨b, off + k * 4 + 1, none⟩ = some (.string x.type) := (hO.cell hbl (by simp)).trans (hc 1 (by omega))
          have c2 : wr.cell? ⟨b, off + k * 4 + 2, none⟩ = some (.string x.data) := (hO.cell hbl (by simp)).trans (hc 2 (by omega))
          have c3 : wr.cell? ⟨b, off + k * 4 + 3, none⟩ = some (.float .f64 x.value) := (hO.cell hbl (by simp)).trans (hc 3 (by omega))
          clear hc hel hx
          have hsf := stF
          cases hok : x.ok
          · have HE := Lib.hid (hend.out hok)
            clear hnext hend
            go_wp2_with (go_at_call 90; refine (valid_any x _ hz).mono ?_; rintro e w1 ⟨rfl, ho1⟩; rw [hok])
            go_ret
            exact ⟨ret_i (by rw [HE.out]), (hO.alloc _).trans ho1⟩
          · have HN := Lib.hid (hnext.out hok)
            clear hnext hend
            go_wp2_with (go_at_call 90; refine (valid_any x _ hz).mono ?_; rintro e w1 ⟨rfl, ho1⟩; rw [hok])
            exact ⟨⟨k + 1, hlt, by simp, HN, (hO.alloc _).trans ho1⟩, by simp [intOf]; omega⟩
        · have hfin : Hid (eventsE l = 0) := by
            have := hT.out
            rw [List.take_of_length_le (by omega)] at this
            unfold Hid
            rw [hr.out, this]
            rfl
          go_wp2
          go_ret
          exact ⟨ret_i (by rw [hfin.out]), hO⟩
end Go.Proofs.Ytefkhkbkengniaa
