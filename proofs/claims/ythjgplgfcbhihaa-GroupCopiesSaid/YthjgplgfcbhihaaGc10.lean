/- Contracts: DeleteFunc of what is below the checkpoint; forget. -/
import Derived.Test.YthjgplgfcbhihaaGc9
set_option linter.unusedVariables false
set_option linter.unusedSimpArgs false
namespace Go.Proofs.Ythjgplgfcbhihaa
open Go.RowKit Go Go.Sort Go.Lib Go.Shelf
/-- What the closure of forget asks. -/
def belowC (c : Int) (n : Int) : Bool := decide (n < c)
theorem belowC_at (c : Int) (B : Nat) (W : World) (hc : W.cell? ⟨B, 0, none⟩ = some (.int .i64 c)) (x : Int) :
    FnGives Try.prog 51 #[.pointer (some ⟨B, 0, none⟩)] #[.int .i64 x] (.bool (belowC c x)) W := by
  show Calls Try.prog 51 #[.int .i64 x, .pointer (some ⟨B, 0, none⟩)] W _
  unfold belowC
  by_cases hx : x < c
  · go_enter Try.func51, Try.ntmps51
    go_wp2
    go_ret
    exact ⟨by simp [hx], 0, rfl⟩
  · go_enter Try.func51, Try.ntmps51
    go_wp2
    go_ret
    exact ⟨by simp [hx], 0, rfl⟩
theorem oneIntC : OneCell (Value.int .i64) := fun _ => rfl
theorem enterForget1 : ∀ args w, (callFunc 51 args).run Try.prog w = .ok (.enter 51 args) w := enters_of Try.func51 (by kernel_rfl) rfl
theorem del_nilI (w : World) (lb : Array Value) : Calls Try.prog 52 #[.slice none 0 0, .func (.func 51) #[] lb] w fun e w' => e = .returned (.slice none 0 0) ∧ Only [] w w' := by
  go_enter Try.func52, Try.ntmps52
  go_wp2_with (go_at_call 71; refine (Try.slices_IndexFunc_empty (α := Int) _ _ _ _).mono ?_; rintro e w1 ⟨rfl, rfl⟩)
  go_ret
  exact ⟨rfl, Only.refl _ _⟩
/-- DeleteFunc with forget's closure, whatever the row. -/
theorem delC_any {w : World} {B : Nat} {v : Value} {xs : List Int} (c : Int) (hown : Own w v xs) (hc : w.cell? ⟨B, 0, none⟩ = some (.int .i64 c)) (hB : ∀ b, v.ownBlock = some b → b ≠ B) (hl : xs.length ≤ 1000000000) :
    Calls Try.prog 52 #[v, .func (.func 51) #[] #[.pointer (some ⟨B, 0, none⟩)]] w fun e w' => ∃ v', e = .returned v' ∧ RowTo w v w' v' (xs.filter fun x => !belowC c x) := by
  by_cases hv : v = .slice none 0 0
  · subst hv
    have hn : xs = [] := by
      rcases own_parts hown with ⟨_, q⟩ | ⟨g, cap, cs, q, _⟩
      · exact q
      · cases q
    subst hn
    exact (del_nilI w _).mono fun e w' ⟨h1, h2⟩ => ⟨_, h1, RowTo.same (Own.nil _) h2⟩
  · obtain ⟨g, cap, rfl, hb, hg, hn, hm, hz, hH⟩ := holds_of_ownsRow (enc := Value.int .i64) (zs := xs) hown hv
    have hBl : B < w.heap.size := block_lt_of_cell hc
    have hne : B ≠ g := fun e => hB g rfl e.symm
    have := Try.slices_DeleteFunc (Value.int .i64) oneIntC (belowC c) 51 #[.pointer (some ⟨B, 0, none⟩)] enterForget1 0 zeroInt g 0 cap xs.toArray w
      (fun W x hb' => belowC_at c B W ((hb'.cell (p := ⟨B, 0, none⟩) hBl).trans hc) x)
      (fun n os dk x _ => belowC_at c B _ (by
        unfold sortWorld
        rw [cell?_grow _ _ _ (by show B < (putRow _ _ _ _ _).heap.size; rw [size_putRow]; exact hBl), cell?_putRow_other _ _ g 0 _ _ (Or.inl (by show B ≠ g; exact hne))]
        exact hc) x) hH (by simp; omega) (by simpa using hn)
    rw [show xs.toArray.size = xs.length by simp] at this
    refine Calls.mono this ?_
    rintro e w' ⟨rfl, q, rfl⟩
    simp only []
    have hle : (xs.filter fun x => !belowC c x).length ≤ xs.length := List.length_filter_le _ _
    have hr := ownsRow_putRow (enc := Value.int .i64) (q := q) (ys := (xs.filter fun x => !belowC c x) ++ List.replicate (xs.length - (xs.filter fun x => !belowC c x).length) 0) (k := (xs.filter fun x => !belowC c x).length) hown (by simp; omega) hle
    rw [List.take_left] at hr
    have hO : ∀ d : Array Int, Only [g] w (putRow (Value.int .i64) (Sort.ahead w q) g 0 d) := fun d => ⟨rfl, rfl, rfl, by simp [putRow, mapBlock, Sort.ahead], fun k _ hk => by
      have : g ≠ k := by simp at hk; omega
      simp [putRow, mapBlock, Sort.ahead, Array.getElem?_modify, this]⟩
    exact ⟨_, rfl, hr, hO _, fun b hb => .inl hb⟩
end Go.Proofs.Ythjgplgfcbhihaa
