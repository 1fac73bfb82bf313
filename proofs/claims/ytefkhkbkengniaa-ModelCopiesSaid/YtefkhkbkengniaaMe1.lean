/- Contracts: Every, SameStored. -/
import Derived.Test.YtefkhkbkengniaaMh
set_option linter.unusedVariables false
set_option linter.unusedSimpArgs false
namespace Go.Proofs.Ytefkhkbkengniaa
open Go.RowKit
set_option maxRecDepth 100000 in
theorem cloneS_any {w : World} {pv : Value} {l : List StoredR} (h : Slc w 8 pv l.length (l.flatMap StoredR.cells)) (hb : l.length ≤ 1000000000) :
    Calls Try.prog 44 #[pv] w fun e w' => ∃ v', e = .returned v' ∧ w'.ownsRow w.heap.size 48 8 v' l.length (l.flatMap StoredR.cells) ∧ Only [] w w' := by
  obtain ⟨j0, hj, hy0, hy1, hy2⟩ := info_parts infoSt
  obtain ⟨A, cap, rfl, hnc, hcm, hl, hc⟩ := h.cell
  have hq := fun W a n c n' c' => Lib.run_eql_slice_nil (P := Try.prog) W 45 _ a n c n' c' Try.underlying45
  cases A with
  | none =>
    have h0 : l = [] := by
      rcases hc with q | ⟨b, off, q, _⟩
      · exact List.length_eq_zero_iff.1 q
      · cases q
    subst h0
    go_enter Try.func44, Try.ntmps44
    go_wp2
    go_ret
    exact ⟨_, rfl, World.ownsRow_nil _ _ _ _, Only.refl _ _⟩
  | some ad =>
    obtain ⟨b, off, sp⟩ := ad
    have hcell : ∀ j u, (l.flatMap StoredR.cells)[j]? = some u → (w.alloc (.cells #[] 48)).cell? ((⟨b, off, sp⟩ : Addr).add j) = some u := by
      intro j u hu
      have hj : j < (l.flatMap StoredR.cells).length := (List.getElem?_eq_some_iff.1 hu).1
      rcases hc with q | ⟨b', off', q, hb', hcc⟩
      · rw [hl] at hj; omega
      · cases q
        have := hcc j hj
        rw [hu] at this
        rw [show ((⟨b, off, none⟩ : Addr).add j) = ⟨b, off + j, none⟩ by simp [Addr.add]]
        exact (World.cell?_alloc_lt w _ ⟨b, off + j, none⟩ hb').trans this
    have hone : ∀ u ∈ l.flatMap StoredR.cells, u.oneCell' = true := by
      intro u hu
      obtain ⟨x, _, hx⟩ := List.mem_flatMap.1 hu
      simp [StoredR.cells, EventR.cells] at hx
      rcases hx with rfl | rfl | rfl | rfl | rfl | rfl | rfl | rfl <;> rfl
    unfold maxLen at hcm
    obtain ⟨cs, hcs⟩ : ∃ cs, cs = l.flatMap StoredR.cells := ⟨_, rfl⟩
    rw [← hcs] at hcell hone hl ⊢
    clear hc hcs
    go_enter Try.func44, Try.ntmps44
    go_wp2_with (at_builtin; refine wpList_append_own _ rfl (.tmp 5) (.tmp 6) 45 rfl w.heap.size 48 j0 (.agg #[.int .i64 0, .string ⟨#[]⟩, .string ⟨#[]⟩, .float .f64 0, .string ⟨#[]⟩, .int .i64 0, .int .i64 0, .int .i64 0]) 8 88 Try.underlying45 hj hy0 hy1 hy2 rfl (by decide) _ 0 [] rfl (World.ownsRow_made w #[] 0 (Nat.le_refl _) (Nat.zero_le _) rfl) ⟨b, off, sp⟩ l.length cap cs rfl hl hcell ?c2 ?c3 ?c4 ?c5 ?_)
    case c2 => exact hone
    case c3 => unfold maxLen; omega
    case c4 => omega
    case c5 => simp
    intro v' w4 hown' hgrow _
    have hown2 : w4.ownsRow w.heap.size 48 8 v' l.length cs := by simpa using hown'
    have ho4 : Only [] w w4 := ((Only.refl [] w).alloc _).grown hgrow (fun k hk => .inr (by cases hk; exact Nat.le_refl _))
    clear hgrow
    go_wp2
    go_ret
    exact ⟨_, rfl, hown2, ho4⟩
section
variable {a w : World} {R E : List Nat} {sb mb N : Nat} {s : MS}
set_option maxRecDepth 100000 in
theorem everyS_any {M : List Nat} {av : Value} {pf : ByteArray → Value} (h : StAt w M sb mb av pf s) (hs : s.all.length ≤ 1000000) :
    Calls Try.prog 19 #[.pointer (some ⟨sb, 0, none⟩)] w fun e w' => ∃ v', e = .returned v' ∧ w'.ownsRow w.heap.size 48 8 v' s.all.length (s.all.flatMap StoredR.cells) ∧ Only [] w w' := by
  have hsl := (Slc.of_own h.own).1
  obtain ⟨A2, cap2, rfl, hnc2, hcm2, hel2⟩ := h.cell
  have c0 : w.cell? ⟨sb, 0, none⟩ = some (.slice A2 s.all.length cap2) := h.blk.cell 0
  have HC := Lib.hid (cloneS_any hsl (by omega))
  clear hel2 hsl
  go_enter Try.func19, Try.ntmps19
  go_wp2_with (go_at_call 44; refine HC.out.mono ?_; rintro e w1 ⟨v1, rfl, hown1, ho1⟩)
  go_ret
  exact ⟨_, rfl, hown1, ho1⟩
theorem has_every (h : HasS a w R E sb mb s N) (hN : N ≤ 100000) :
    Calls Try.prog 19 #[.pointer (some ⟨sb, 0, none⟩)] w fun e w' => ∃ v', e = .returned v' ∧ w'.ownsRow w.heap.size 48 8 v' s.all.length (s.all.flatMap StoredR.cells) ∧ Only [] w w' := by
  obtain ⟨M, av, pf, h1, _⟩ := h.st
  exact everyS_any h1 (by have := h.ok.all; omega)
end
/-! ## SameStored -/
def bitsOf (b : Nat) : Nat := if isNaN b then 9221120237041090560 else b
def sameF (a b : Nat) : Bool := decide (bitsOf a = bitsOf b)
def sameE (x y : EventR) : Bool := decide (x.id = y.id) && decide (x.type.toList = y.type.toList) && decide (x.data.toList = y.data.toList) && sameF x.value y.value
def sameS (x y : StoredR) : Bool := sameE x.ev y.ev && decide (x.stream.toList = y.stream.toList) && decide (x.version = y.version) && decide (x.position = y.position) && decide (x.time = y.time)
def sameL : List StoredR → List StoredR → Bool
  | [], [] => true
  | x :: l, y :: m => sameS x y && sameL l m
  | _, _ => false
theorem sameS_refl (x : StoredR) : sameS x x = true := by simp [sameS, sameE, sameF]
theorem sameL_refl : ∀ l : List StoredR, sameL l l = true
  | [] => rfl
  | x :: l => by simp [sameL, sameS_refl, sameL_refl l]
end Go.Proofs.Ytefkhkbkengniaa
