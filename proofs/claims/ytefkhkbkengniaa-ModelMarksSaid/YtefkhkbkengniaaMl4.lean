/- ModelMarks: the walk. -/
import Derived.Test.YtefkhkbkengniaaMl2
import Derived.Test.YtefkhkbkengniaaMe3
set_option linter.unusedVariables false
set_option linter.unusedSimpArgs false
namespace Go.Proofs.Ytefkhkbkengniaa
open Go.RowKit Go.Sort
theorem and1023 (n : Int) : bits .and .i64 n 1023 = n % 1024 := by
  have h : (BitVec.ofInt 64 1023).toNat = 2 ^ 10 - 1 := by decide
  have key : (BitVec.ofInt 64 n &&& BitVec.ofInt 64 1023).toNat = (n % ((2 ^ 64 : Nat) : Int)).toNat % 2 ^ 10 := by
    rw [BitVec.toNat_and, BitVec.toNat_ofInt, h, Nat.and_two_pow_sub_one_eq_mod]
  show IntKind.i64.wrap ((BitVec.ofInt 64 n &&& BitVec.ofInt 64 1023).toNat : Nat) = n % 1024
  rw [key, IntKind.wrap_i64]
  omega
def markC (t : Int) : Cmd := ⟨4, t, ⟨#[]⟩, 0, [], MetaR.zero⟩
theorem mark_ok (t : Int) : CmdOk (markC t) := ⟨Nat.zero_le _, fun e he => by cases he⟩
theorem mark_do (s : MS) {t : Int} (h : 0 ≤ t ∧ t ≤ 1099511627776) : s.do (markC t) = (⟨0, 0, s.all.length, false⟩, s.tick t) := by
  have hk : (markC t).check = 0 := by
    have hw : within t = true := by simp [within, h.1, h.2]
    have he : (⟨#[]⟩ : ByteArray).toList = [] := by kernel_rfl
    simp [Cmd.check, Cmd.spare, markC, hw, he]
  unfold MS.do
  rw [if_neg (by rw [hk]; decide)]
  dsimp only
  rw [if_pos (.inl rfl)]
  rfl
section
variable {a w : World} {R E : List Nat} {sb mb N : Nat} {s : MS}
theorem has_mark (h : HasS a w R E sb mb s N) (hN : N ≤ 100000) {t : Int} (ht : 0 ≤ t ∧ t ≤ 1023) :
    Calls Try.prog 13 #[.pointer (some ⟨sb, 0, none⟩), .agg #[.int .i64 4, .int .i64 t, .string ⟨#[]⟩, .int .i64 0, .slice none 0 0, .int .i64 0, .int .i64 0, .int .i64 0]] w fun e w' => e = .returned (.agg #[.int .i64 0, .int .i64 0, .int .i64 s.all.length, .bool false]) ∧ HasS a w' R E sb mb (s.tick t) (N + 1) ∧ Keeps a (R ++ E) w w' := by
  have := has_do (c := markC t) h hN (mark_ok t) (ev := .slice none 0 0) ⟨Slc.nil w 4, fun g hg => by cases hg⟩
  rw [mark_do s ⟨ht.1, by omega⟩] at this
  exact this
end
set_option maxRecDepth 100000 in
set_option maxHeartbeats 1000000 in
theorem marks_go (w : World) (v1 v2 : Value) (l : List CmdV) (ts : List Int) (h1 : CmdsAt w w v1 l) (h2 : Slc w 1 v2 ts.length (ints ts)) :
    Calls Try.prog 5 #[v1, v2] w fun e w' => e = .returned (.bool true) ∧ Only [] w w' := by
  obtain ⟨A, cap, rfl, hnc, hcm, hel⟩ := h1.cells
  obtain ⟨A2, cap2, rfl, hnc2, hcm2, hel2⟩ := h2.openI
  unfold maxLen at hcm hcm2
  have HL1 := Lib.hid (fun (W : World) (hw : Only [] w W) => show Calls Try.prog 10 #[.int .i64 25, .slice A l.length cap] W fun e w' => RetB e (fun b => b = true → l.length ≤ 25) ∧ Only [] W w' from light_any (h1.keep0 hw) 25 (by omega))
  clear hel
  by_cases ht : ts.length ≤ 20
  · go_enter Try.func5, Try.ntmps5
    go_wp2_with fail
    refine (HL1.out _ (Only.refl _ _)).mono ?_
    rintro e w1 ⟨⟨b1, rfl, hl1⟩, ho1⟩
    cases b1
    · go_wp2_with (go_at_call 11; refine (alive_any _).mono ?_; rintro e w3 ⟨rfl, ho3⟩)
      go_ret
      exact ⟨rfl, ho1.trans ho3⟩
    have hl25 : l.length ≤ 25 := hl1 rfl
    clear hl1
    go_wp2_with (first
      | (go_at_call 12; refine (has_newS w _ ho1 [] (by simp)).mono ?_; rintro e w4 ⟨rfl, hh4, ho4⟩)
      | (go_at_call 16; refine (run_any hh4 ((h1.keep0 ho1).keep0 ho4) (by omega)).mono ?_; rintro e w5 ⟨rfl, hh5, hk5⟩)
      | (go_at_call 14; refine (has_len hh5).mono ?_; rintro e w6 ⟨rfl, rfl⟩)
      | (go_at_call 21; refine (has_done hh5).mono ?_; rintro e w6 ⟨rfl, rfl⟩)
      | (go_at_call 22; refine (has_now hh5).mono ?_; rintro e w6 ⟨rfl, rfl⟩)
      | (go_at_call 19; refine (has_every hh5 (by omega)).mono ?_; rintro e w7 ⟨v7, rfl, hown7, ho7⟩))
    have hh7 := hh5.ownR ho7 hown7
    have hsl := (Slc.of_own hown7).1
    have hlw : ∀ g, v7.ownBlock = some g → g ∈ v7.ownBlock.toList ++ [] := fun g hg => by simp [hg]
    obtain ⟨A7, cap7, rfl, _⟩ := own_form hown7
    obtain ⟨R7, hR7⟩ : ∃ R7, R7 = (Value.slice A7 (runS MS.new l).all.length cap7).ownBlock.toList ++ [] := ⟨_, rfl⟩
    rw [← hR7] at hh7 hlw
    clear hR7 hown7 hh4 hh5
    obtain ⟨S0, hS0⟩ : ∃ S0, S0 = runS MS.new l := ⟨_, rfl⟩
    rw [← hS0] at hh7 hsl hlw ⊢
    clear hS0
    have hok0 := hh7.ok
    go_loopw [8, 10] (fun u i wr => ∃ (k : Nat) (s : MS), k ≤ ts.length ∧ i = .int .i64 k ∧ u = .int .i64 s.now ∧ HasS w wr R7 [] (w1.heap.size + 1) w1.heap.size s (0 + l.length + k) ∧ s.all = S0.all ∧ s.done = S0.done + k ∧ Slc wr 8 (.slice A7 S0.all.length cap7) S0.all.length (S0.all.flatMap StoredR.cells)) (fun _ i _ => ts.length - (intOf i).toNat)
    case atStart => exact ⟨0, S0, Nat.zero_le _, rfl, rfl, hh7, rfl, by simp, hsl⟩
    case round =>
      obtain ⟨k, s, hk, rfl, rfl, hS, ha, hd, hsl⟩ := hrel
      have hnow := hS.ok.now
      have hdn := hS.ok.done
      by_cases hlt : k < ts.length
      · obtain ⟨b, off, rfl, hb, hc⟩ := hel2 k hlt
        have c0 := (hS.only.cell hb (by simp)).trans hc
        obtain ⟨z, hz⟩ : ∃ z, z = ts[k] := ⟨_, rfl⟩
        rw [← hz] at c0
        clear hz hc hel2
        obtain ⟨n, hn⟩ : ∃ n : Int, bits .and .i64 z 1023 = n := ⟨_, rfl⟩
        have hn0 : 0 ≤ n ∧ n ≤ 1023 := by rw [← hn, and1023]; omega
        have hm := has_mark hS (by omega) hn0
        rw [ha] at hm
        obtain ⟨s', hs'⟩ : ∃ s', s' = s.tick n := ⟨_, rfl⟩
        have ht : s'.now = max s.now n ∧ s'.done = s.done + 1 ∧ s'.all = s.all := by rw [hs']; exact ⟨rfl, rfl, rfl⟩
        rw [← hs'] at hm
        have hn9 := fun (W : World) (h : HasS w W R7 [] (w1.heap.size + 1) w1.heap.size s' (0 + l.length + k + 1)) => has_now h
        have hd9 := fun (W : World) (h : HasS w W R7 [] (w1.heap.size + 1) w1.heap.size s' (0 + l.length + k + 1)) => has_done h
        have hds : s'.done = S0.done + k + 1 := by rw [ht.2.1, hd]
        rw [hds] at hd9
        have HM := Lib.hid hm
        have HD9 := Lib.hid hd9
        have HT := Lib.hid ht
        have HDS := Lib.hid hds
        have HA := Lib.hid ha
        have HSl := Lib.hid hsl
        have HLw := Lib.hid hlw
        have hwr := IntWalk.i64_in (S0.done + k) ⟨by have := hok0.done; omega, by have := hok0.done; omega⟩
        have hwr2 := IntWalk.i64_in (S0.done + k + 1) ⟨by have := hok0.done; omega, by have := hok0.done; omega⟩
        by_cases hlt2 : s.now < n
        · have hnn : s'.now = n := by rw [ht.1]; omega
          rw [hnn] at hn9
          have HN9 := Lib.hid hn9
          have HNN := Lib.hid hnn
          clear hm hn9 hd9 ht hds ha hsl hs' hd hnn hlw
          go_wp2_with (first
            | (go_at_call 13; refine HM.out.mono ?_; rintro e w8 ⟨rfl, hS8, hk8⟩; have h8 := hS8.keep ((Only.refl [] w8).alloc (.cells #[.int .i64 0, .int .i64 0, .int .i64 S0.all.length, .bool false] 29)))
            | (go_at_call 22; refine (HN9.out _ h8).mono ?_; rintro e w9 ⟨rfl, rfl⟩)
            | (go_at_call 21; refine (HD9.out _ h8).mono ?_; rintro e w9 ⟨rfl, rfl⟩))
          exact ⟨⟨k + 1, s', hlt, by simp, by rw [HNN.out], h8, by rw [HT.out.2.2, HA.out], by rw [HDS.out]; simp; omega, (hk8.alloc _).slc HSl.out (fun g hg => .inr (by simp; exact HLw.out g hg))⟩, by simp [intOf]; omega⟩
        · have hnn : s'.now = s.now := by rw [ht.1]; omega
          rw [hnn] at hn9
          have HN9 := Lib.hid hn9
          have HNN := Lib.hid hnn
          clear hm hn9 hd9 ht hds ha hsl hs' hd hnn hlw
          go_wp2_with (first
            | (go_at_call 13; refine HM.out.mono ?_; rintro e w8 ⟨rfl, hS8, hk8⟩; have h8 := hS8.keep ((Only.refl [] w8).alloc (.cells #[.int .i64 0, .int .i64 0, .int .i64 S0.all.length, .bool false] 29)))
            | (go_at_call 22; refine (HN9.out _ h8).mono ?_; rintro e w9 ⟨rfl, rfl⟩)
            | (go_at_call 21; refine (HD9.out _ h8).mono ?_; rintro e w9 ⟨rfl, rfl⟩))
          exact ⟨⟨k + 1, s', hlt, by simp, by rw [HNN.out], h8, by rw [HT.out.2.2, HA.out], by rw [HDS.out]; simp; omega, (hk8.alloc _).slc HSl.out (fun g hg => .inr (by simp; exact HLw.out g hg))⟩, by simp [intOf]; omega⟩
      · have hlen := fun (W : World) (hW : Only [] wr W) => has_len (hS.keep hW)
        have hevr := fun (W : World) (hW : Only [] wr W) => has_every (hS.keep hW) (by omega)
        rw [ha] at hlen hevr
        have hal : S0.all.length ≤ 1000000 := by have := hok0.all; omega
        have hsm := fun (W : World) (v : Value) (hv : Slc W 8 v S0.all.length (S0.all.flatMap StoredR.cells)) (hW : Only [] wr W) => sameL_any hv (hsl.only0 hW) hal hal
        rw [sameL_refl] at hsm
        have HLen := Lib.hid hlen
        have HEv := Lib.hid hevr
        have HSm := Lib.hid hsm
        have hOw := hS.only
        clear hlen hevr hsm hS ha hsl hel2 hd
        go_wp2_with (first
          | (go_at_call 11; refine (alive_any _).mono ?_; rintro e w8 ⟨rfl, ho8⟩)
          | (go_at_call 14; refine (HLen.out _ ho8).mono ?_; rintro e w9 ⟨rfl, rfl⟩)
          | (go_at_call 19; refine (HEv.out _ ho8).mono ?_; rintro e w9 ⟨v9, rfl, hown9, ho9⟩)
          | (go_at_call 23; refine (HSm.out _ _ (Slc.of_own hown9).1 (ho8.trans ho9)).mono ?_; rintro e w10 ⟨rfl, ho10⟩))
        go_ret
        exact ⟨rfl, ((hOw.trans ho8).trans ho9).trans ho10⟩
  · have ht2 : ts.length > 20 := by omega
    clear ht hel2
    go_enter Try.func5, Try.ntmps5
    go_wp2_with fail
    refine (HL1.out _ (Only.refl _ _)).mono ?_
    rintro e w1 ⟨⟨b1, rfl, hl1⟩, ho1⟩
    clear hl1
    cases b1
    · go_wp2_with (go_at_call 11; refine (alive_any _).mono ?_; rintro e w3 ⟨rfl, ho3⟩)
      go_ret
      exact ⟨rfl, ho1.trans ho3⟩
    · go_wp2_with (go_at_call 11; refine (alive_any _).mono ?_; rintro e w3 ⟨rfl, ho3⟩)
      go_ret
      exact ⟨rfl, ho1.trans ho3⟩
/-- What the row asks for. -/
theorem marksW (v1 : Value) (l : List CmdV) (v2 : Value) (ts : List Int) (W : World)
    (x0 : Slc W 8 v1 l.length (l.flatMap CmdV.cells)) (y0 : ∀ o ∈ l, o.Ok W ∧ o.cells.length = 8) (z0 : ∀ g, v1.ownBlock = some g → g < W.heap.size ∨ l = [])
    (x1 : Slc W 1 v2 ts.length (ints ts)) (y1 : ∀ z ∈ ts, (Lit.int .i64 z).wf = true) (z1 : ∀ g, v2.ownBlock = some g → g < W.heap.size ∨ ts = []) :
    Calls Try.prog 5 #[v1, v2] W fun e W' => e = .returned (.bool true) ∧ Only [] W W' :=
  marks_go W v1 v2 l ts (CmdsAt.of x0 y0 z0) x1
end Go.Proofs.Ytefkhkbkengniaa
