/- Contracts: New, Join. -/
import Derived.Test.YthjgplgfcbhihaaGk
import Derived.StillTailTactics
set_option linter.unusedVariables false
set_option linter.unusedSimpArgs false
namespace Go.Proofs.Ythjgplgfcbhihaa
open Go.RowKit Go Go.Sort
section
variable {P : Program} {C : World → Prop} {Q : Exit → Act → World → Prop} {l : List Oper} {H A T2 : List Nat} {r : List (List Nat × List Nat)} {K : Act → World → Prop} {a : Act} {w : World}
theorem stagesNil (h : wpT1 P l.toArray C Q (opsAt l A) (wpStages P l C Q K r) a w) : wpStages P l C Q K (([], A) :: r) a w := wpQuiet_nil (P := P) (ops := l.toArray) (C := C) h
theorem stagesFirst (h : wpQuiet P l.toArray C (fun a' => wpT1 P l.toArray C Q (opsAt l A) (wpStages P l C Q K r) a' w) (opsAt l H) a) : wpStages P l C Q K ((H, A) :: r) a w := h
theorem stagesNext (h : wpQuiet P l.toArray C (fun a' => wpT1 P l.toArray C Q (opsAt l A) (wpStages P l C Q K r) a' w) (opsAt l H) a) : wpT1 P l.toArray C Q (opsAt l []) (wpStages P l C Q K ((H, A) :: r)) a w := h
theorem stagesEnd (h : wpList P l.toArray Q (opsAt l T2) a w) : wpT1 P l.toArray C Q (opsAt l []) (wpStages P l C Q (fun a w => wpList P l.toArray Q (opsAt l T2) a w) []) a w := h
end
theorem stagesDone {P : Program} {C : World → Prop} {Q : Exit → Act → World → Prop} {l : List Oper} {a : Act} {w : World} (h : Q .normal a w) : wpT1 P l.toArray C Q (opsAt l []) (wpStages P l C Q (fun a w => wpList P l.toArray Q (opsAt l []) a w) []) a w := h
/-- What a call on a group leaves. -/
def GOut (w : World) (H : List Nat) (gb fb tb : Nat) (g' : GS) (w' : World) : Prop :=
  ∃ vw vp va vs pf, GAt w' gb fb tb vw vp va vs pf g' ∧ Stepped w w' H (hG gb fb tb (rowsOf vw vp va vs pf g'))
theorem strClone_any (s : ByteArray) (w : World) (hlim : s.size ≤ 281474976710656) :
    Calls Try.prog 31 #[.string s] w fun e w' => e = .returned (.string s) ∧ Only [] w w' := by
  go_enter Try.func31, Try.ntmps31
  go_wp2_with (go_at_call 45; refine (Try.stringslite_Clone s _ hlim).mono ?_; rintro e w' ⟨rfl, hb⟩)
  go_ret
  exact ⟨rfl, Only.of_below hb (Nat.le_refl _)⟩
set_option maxRecDepth 100000 in
theorem gnew_any (f b r : Int) (hok : GS.okNew f b r = true) (w : World) :
    Calls Try.prog 8 #[.agg #[.int .i64 f, .int .i64 b, .int .i64 r]] w fun e w' => ∃ gb fb tb, e = .returned (.tuple #[.pointer (some ⟨gb, 0, none⟩), .int .i64 0]) ∧
      GAt w' gb fb tb (.slice none 0 0) (.slice none 0 0) (.slice none 0 0) (.slice none 0 0) (fun _ => .slice none 0 0) (GS.new f b r) ∧ (∀ x ∈ hG gb fb tb (rowsOf (.slice none 0 0) (.slice none 0 0) (.slice none 0 0) (.slice none 0 0) (fun _ => .slice none 0 0) (GS.new f b r)), w.heap.size ≤ x) ∧ Only [] w w' := by
  simp [GS.okNew] at hok
  obtain ⟨h1, h2, h3, h4, h5, h6⟩ := hok
  have hmm := @run_makeMap Try.prog
  go_enter Try.func8, Try.ntmps8
  go_wp2
  go_ret2
  have hB := Blk.new (((w.alloc (.cells #[.int .i64 f, .int .i64 b, .int .i64 r] 29)).alloc (.map #[] 0)).alloc (.map #[] 0)) 53 #[.int .i64 f, .int .i64 b, .int .i64 r, .int .i64 f, .slice none 0 0, .map (some (w.heap.size + 1)), .slice none 0 0, .slice none 0 0, .slice none 0 0, .map (some (w.heap.size + 2))]
  have hm1 := (MapIs.new (κ := ByteArray) Value.string (w.alloc (.cells #[.int .i64 f, .int .i64 b, .int .i64 r] 29))).alloc (.map #[] 0)
  have hm2 := MapIs.new (κ := Int) (Value.int .i64) ((w.alloc (.cells #[.int .i64 f, .int .i64 b, .int .i64 r] 29)).alloc (.map #[] 0))
  simp only [World.size_alloc] at hB hm1 hm2
  refine ⟨w.heap.size + 3, w.heap.size + 1, w.heap.size + 2, rfl, ⟨hB, hm1.alloc _, hm2.alloc _, ⟨fun p hp => ?_, ?_⟩, by omega⟩, fun x hx => ?_, ((((Only.refl [] w).alloc _).alloc _).alloc _).alloc _⟩
  · simp [rowsOf, GS.new] at hp
    rcases hp with rfl | rfl | rfl | rfl <;> exact Own.nil _
  · simp [blocksOf, rowsOf, GS.new, Value.ownBlock]
  · simp [hG, blocksOf, rowsOf, GS.new, Value.ownBlock] at hx
    omega
section
variable {w : World} {gb fb tb N : Nat} {vw vp va vs : Value} {pf : ByteArray → Value} {g : GS}
theorem GOut.refl (h : GAt w gb fb tb vw vp va vs pf g) {w' : World} (k : Only [] w w') : GOut w (hG gb fb tb (rowsOf vw vp va vs pf g)) gb fb tb g w' :=
  ⟨vw, vp, va, vs, pf, h.only0 k, Stepped.first0 k (Stepped.refl _ _)⟩
set_option maxRecDepth 100000 in
set_option maxHeartbeats 1000000 in
theorem join_any (h : GAt w gb fb tb vw vp va vs pf g) (who : ByteArray) (hs : who.size ≤ maxLen) :
    Calls Try.prog 9 #[.pointer (some ⟨gb, 0, none⟩), .string who] w fun e w' => e = .returned (.int .i64 (g.join who).1) ∧ GOut w (hG gb fb tb (rowsOf vw vp va vs pf g)) gb fb tb (g.join who).2 w' := by
  unfold maxLen at hs
  have HN := Lib.hid (none_any h)
  by_cases h1 : who.size < 1
  · have hR : g.join who = (1, g) := by unfold GS.join; rw [if_pos (.inl h1)]
    rw [hR]
    clear hR
    go_enter Try.func9, Try.ntmps9
    go_wp2_with (go_at_call 29; refine HN.out.mono ?_; rintro e w1 ⟨rfl, rfl⟩)
    go_ret
    exact ⟨rfl, GOut.refl h (Only.refl _ _)⟩
  by_cases h2 : who.size > 60
  · have hR : g.join who = (1, g) := by unfold GS.join; rw [if_pos (.inr h2)]
    rw [hR]
    clear hR
    go_enter Try.func9, Try.ntmps9
    go_wp2_with (go_at_call 29; refine HN.out.mono ?_; rintro e w1 ⟨rfl, rfl⟩)
    go_ret
    exact ⟨rfl, GOut.refl h (Only.refl _ _)⟩
  have HI := Lib.hid (is_any h who)
  cases hi : g.is who with
  | true =>
    have hR : g.join who = (9, g) := by unfold GS.join; rw [if_neg (by omega), if_pos hi]
    rw [hR]
    rw [hi] at HI
    clear hR hi
    go_enter Try.func9, Try.ntmps9
    go_wp2_with (first
      | (go_at_call 29; refine HN.out.mono ?_; rintro e w1 ⟨rfl, rfl⟩)
      | (go_at_call 30; refine HI.out.mono ?_; rintro e w1 ⟨rfl, rfl⟩))
    go_ret
    exact ⟨rfl, GOut.refl h (Only.refl _ _)⟩
  | false =>
    rw [hi] at HI
    have c5 : w.cell? ⟨gb, 5, none⟩ = some (.map (some fb)) := h.blk.cell 5
    have hgl := h.blk.lt
    have hmap := h.flight
    have hlq : ∀ ty, (Builtin.len_ #[50] ty #[.map (some fb)]).run Try.prog w = .ok (.int .i64 g.flight.length) w := fun ty => by
      have := h.flight.len (P := Try.prog) Try.underlying50 ty
      simpa using this
    by_cases h3 : 20 ≤ g.flight.length
    · have hR : g.join who = (20, g) := by unfold GS.join; rw [if_neg (by omega), if_neg (by rw [hi]; decide), if_pos h3]
      rw [hR]
      clear hR hi
      have HM := Lib.hid hmap
      go_enter Try.func9, Try.ntmps9
      go_wp2_with (first
        | (go_at_call 29; refine HN.out.mono ?_; rintro e w1 ⟨rfl, rfl⟩)
        | (go_at_call 30; refine HI.out.mono ?_; rintro e w1 ⟨rfl, rfl⟩))
      go_ret
      exact ⟨rfl, GOut.refl h (Only.refl _ _)⟩
    · have hR : g.join who = (0, { g with flight := aput g.flight who [] }) := by unfold GS.join; rw [if_neg (by omega), if_neg (by rw [hi]; decide), if_neg h3]
      rw [hR]
      clear hR
      have HM := Lib.hid hmap
      have HC := Lib.hid (fun W => strClone_any who W (by omega))
      have k5 := Kept.cell (a := w) (R := []) c5 (.inl hgl)
      have hfv : fv pf g who = .slice none 0 0 := by unfold fv; rw [hi]; rfl
      have HP := Lib.hid (fun (w1 w2 : World) (k : RowTo w (fv pf g who) w1 (.slice none 0 0) []) (k2 : Only [fb] w1 w2) (hm : MapIs Value.string w2 fb (aput (g.flight.map fun p => (p.1, pf p.1)) who (.slice none 0 0))) => h.putF k k2 hm)
      clear hi
      go_enter Try.func9, Try.ntmps9
      go_wp2_with (first
        | (go_at_call 29; refine HN.out.mono ?_; rintro e w1 ⟨rfl, rfl⟩)
        | (go_at_call 30; refine HI.out.mono ?_; rintro e w1 ⟨rfl, rfl⟩))
      refine wp_region_stages (C := fun W => ∃ p : Kept w [] w, W = p.W) [([0, 1, 2, 3, 4], [5])] [6] (by kernel_rfl) (by kernel_rfl) (by intro c d u a w h; cases d <;> exact h) ⟨⟨_, (Keeps.refl _ _ _).drew⟩, rfl⟩ ?_
      refine stagesFirst ?_
      show wpQuiet _ _ _ _ [_, _, _, _, _] _
      repeat (go_big_quiet_step (fail))
      refine wpQuiet_nil ?_
      show wpList _ _ _ [_] _ _
      go_wp2_with (go_at_call 31; refine (HC.out _).mono ?_; rintro e w1 ⟨rfl, ho1⟩)
      have hO1 : Only [] w w1 := (Only.refl _ _).drew.trans ho1
      refine check_kept ((Keeps.refl _ _ _).drew.then0 ho1) ?_
      refine stagesEnd ?_
      show wpList _ _ _ [_] _ _
      refine wpList_update_is rfl 50 rfl keyEnc_string Try.underlying50 Try.underlying9 who (.slice none 0 0) rfl rfl rfl (HM.out.only hO1 (by simp)) ?_
      intro w2 hm2 hk2
      have hres := HP.out w1 w2 (by rw [hfv]; exact ⟨Own.nil _, hO1.of_nil, fun b hb => by cases hb⟩) hk2 hm2
      clear hm2 hk2 HP
      go_wp2
      go_ret
      exact ⟨rfl, _, _, _, _, _, hres.1, hres.2⟩
end
end Go.Proofs.Ythjgplgfcbhihaa
