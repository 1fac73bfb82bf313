/- run: steps of a group, as a function; its contract. -/
import Derived.Test.YthjgplgfcbhihaaGo2
import Derived.Test.YthjgplgfcbhihaaGl3
set_option linter.unusedVariables false
set_option linter.unusedSimpArgs false
namespace Go.Proofs.Ythjgplgfcbhihaa
open Go.RowKit Go Go.Sort Go.Lib
def stepG (g : GS) (o : OpG) : GS :=
  if o.kind = 1 then (g.join o.who).2 else if o.kind = 2 then (g.leave o.who).2 else if o.kind = 3 then (g.feed (min o.n 20)).2 else if o.kind = 4 then (g.next1 o.who).2
  else if o.kind = 5 then (g.ack o.who o.l).2 else if o.kind = 6 then (g.nak o.who o.n o.l).2 else if o.kind = 7 then g.late.2 else if o.kind = 8 then g.replay.2 else g
def runG (g : GS) (l : List OpG) : GS := l.foldl stepG g
theorem runG_take (g : GS) (l : List OpG) (k : Nat) (h : k < l.length) : runG g (l.take (k + 1)) = stepG (runG g (l.take k)) l[k] := by
  unfold runG
  rw [List.take_succ_eq_append_getElem h, List.foldl_append]
  rfl
section
variable {a w w' w'' : World} {H H' : List Nat} {gb N M : Nat} {g g' : GS}
theorem GTo.refl (h : HasG a w H gb g N) : GTo a w H gb g N w := ⟨H, h, Stepped.refl _ _⟩
theorem GTo.trans (h : Stepped w w' H H') (k : GTo a w' H' gb g N w'') : GTo a w H gb g N w'' := by
  obtain ⟨H2, k1, k2⟩ := k
  exact ⟨H2, k1, h.trans k2⟩
theorem GTo.more (h : GTo a w H gb g N w') (hm : N ≤ M) : GTo a w H gb g M w' := by
  obtain ⟨H', h1, h2⟩ := h
  exact ⟨H', h1.more hm, h2⟩
end
set_option maxRecDepth 100000 in
set_option maxHeartbeats 4000000 in
theorem runG_any {a w : World} {H : List Nat} {gb N : Nat} {g : GS} {v : Value} {l : List OpG} (h : HasG a w H gb g N) (ho : OpsG a w v l) (hN : N + l.length ≤ 1000) (hs : SmallG l) :
    Calls Try.prog 23 #[.pointer (some ⟨gb, 0, none⟩), v] w fun e w' => e = .returned (.tuple #[]) ∧ GTo a w H gb (runG g l) (N + l.length) w' := by
  have hop := ho.op
  have hos := hs.2
  have HO := Lib.hid ho
  obtain ⟨A, cap, rfl, _, hcap, hel⟩ := ho.cells
  unfold maxLen at hcap
  have Hel := Lib.hid hel
  clear hel hs ho
  go_enter Try.func23, Try.ntmps23
  go_wp2
  go_loopw [4] (fun iv wr => ∃ j : Nat, j ≤ l.length ∧ iv = .int .i64 j ∧ GTo a w H gb (runG g (l.take j)) (N + j) wr) (fun iv _ => l.length - (intOf iv).toNat)
  case atStart => exact ⟨0, Nat.zero_le _, rfl, GTo.refl h⟩
  case round =>
    obtain ⟨j, hj, rfl, hG⟩ := hrel
    by_cases hlt : j < l.length
    case neg =>
      have hf : l.take j = l := List.take_of_length_le (by omega)
      have hjl : j = l.length := by omega
      rw [hf, hjl] at hG
      have HF := Lib.hid hG
      clear hf hG hjl
      go_wp2
      go_end0
      exact ⟨rfl, HF.out⟩
    case pos =>
      obtain ⟨b, off, rfl, hb, hba, hcell⟩ := Hel.out j hlt
      obtain ⟨o, hoe⟩ : ∃ o, o = l[j] := ⟨_, rfl⟩
      have hmem : o ∈ l := by rw [hoe]; exact List.getElem_mem hlt
      obtain ⟨hw1, hw2, hw3⟩ := hop o hmem
      obtain ⟨hw4, hw5⟩ := hos o hmem
      rw [← hoe] at hcell
      obtain ⟨Hr, hG, hK⟩ := hG
      obtain ⟨S, hS, hSH⟩ := hK.only
      have hbS : b ∉ S := fun q => by
        have := h.above b (hSH b q)
        omega
      have c0 : wr.cell? ⟨b, off + j * 4, none⟩ = some (.int .i64 o.kind) := (hS.cell hb hbS).trans (hcell 0 (by omega))
      have c1 : wr.cell? ⟨b, off + j * 4 + 1, none⟩ = some (.int .i64 o.n) := (hS.cell hb hbS).trans (hcell 1 (by omega))
      have c2 : wr.cell? ⟨b, off + j * 4 + 2, none⟩ = some (.string o.who) := (hS.cell hb hbS).trans (hcell 2 (by omega))
      have c3 : wr.cell? ⟨b, off + j * 4 + 3, none⟩ = some o.lv := (hS.cell hb hbS).trans (hcell 3 (by omega))
      obtain ⟨gr, hgr⟩ : ∃ gr, gr = runG g (l.take j) := ⟨_, rfl⟩
      have hfold := runG_take g l j hlt
      rw [← hgr] at hG hfold
      rw [← hoe] at hfold
      have HE : ∀ W, Only [] wr W → ∀ w2, GTo a W Hr gb (stepG gr o) (N + (j + 1)) w2 → GTo a w H gb (runG g (l.take (j + 1))) (N + (j + 1)) w2 := fun W hW w2 q => by
        rw [hfold]
        exact GTo.trans (hK.then0 hW) q
      have HE := Lib.hid HE
      have hlb : ∀ b, o.lv.ownBlock = some b → b ∉ Hr ∨ o.l = [] := fun b q => (hw3 b q).elim (fun q1 => .inl (fun q2 => by have := hG.above b q2; omega)) .inr
      have hsl : Slc wr 1 o.lv o.l.length (ints o.l) := ((HO.out.keep hS (fun b q => h.above b (hSH b q))).op o hmem).2.1
      have hll : o.l.length ≤ 1000000 := by omega
      obtain ⟨Al, cl, hlv, _, _, _⟩ := hsl.openI
      rw [hlv] at c3 hsl hlb hw3
      clear hlv hw2
      clear hS hSH hbS hK hfold hgr hop hos hcell hoe hmem
      by_cases k1 : o.kind = 1
      · have hr : stepG gr o = (gr.join o.who).2 := by rw [stepG, k1]; simp 
        rw [k1] at c0
        have HK : ∀ W, Only [] wr W → Calls Try.prog 9 #[.pointer (some ⟨gb, 0, none⟩), .string o.who] W fun e w' => e = .returned (.int .i64 (gr.join o.who).1) ∧ GTo a w H gb (runG g (l.take (j + 1))) (N + (j + 1)) w' := fun W hW =>
          (in_join (hG.keep0 hW) o.who hw1).mono fun e w' ⟨q1, q2⟩ => ⟨q1, HE.out W hW w' (by rw [hr]; exact q2.more (by omega))⟩
        have HK' := Lib.hid HK
        clear HK hr k1 HE hG
        go_wp2_with (go_at_call 9; refine (HK'.out _ ((Only.refl [] wr).alloc _)).mono ?_; rintro e w2 ⟨rfl, h2⟩)
        exact ⟨⟨j + 1, hlt, by simp, h2⟩, by simp [intOf]; omega⟩
      by_cases k2 : o.kind = 2
      · have hr : stepG gr o = (gr.leave o.who).2 := by rw [stepG, k2]; simp 
        rw [k2] at c0
        have HK : ∀ W, Only [] wr W → Calls Try.prog 26 #[.pointer (some ⟨gb, 0, none⟩), .string o.who] W fun e w' => e = .returned (.int .i64 (gr.leave o.who).1) ∧ GTo a w H gb (runG g (l.take (j + 1))) (N + (j + 1)) w' := fun W hW =>
          (in_leave (hG.keep0 hW) (by omega) o.who).mono fun e w' ⟨q1, q2⟩ => ⟨q1, HE.out W hW w' (by rw [hr]; exact q2.more (by omega))⟩
        have HK' := Lib.hid HK
        clear HK hr k2 HE hG
        go_wp2_with (go_at_call 26; refine (HK'.out _ ((Only.refl [] wr).alloc _)).mono ?_; rintro e w2 ⟨rfl, h2⟩)
        exact ⟨⟨j + 1, hlt, by simp, h2⟩, by simp [intOf]; omega⟩
      by_cases k3 : o.kind = 3
      · have hr : stepG gr o = (gr.feed (min o.n 20)).2 := by rw [stepG, k3]; simp 
        rw [k3] at c0
        have HK : ∀ W, Only [] wr W → Calls Try.prog 10 #[.pointer (some ⟨gb, 0, none⟩), .int .i64 (min o.n 20)] W fun e w' => e = .returned (.int .i64 (gr.feed (min o.n 20)).1) ∧ GTo a w H gb (runG g (l.take (j + 1))) (N + (j + 1)) w' := fun W hW =>
          (in_feed (hG.keep0 hW) (by omega) _).mono fun e w' ⟨q1, q2⟩ => ⟨q1, HE.out W hW w' (by rw [hr]; exact q2.more (by omega))⟩
        have HK' := Lib.hid HK
        clear HK hr k3 HE hG
        go_wp2_with (go_at_call 10; refine (HK'.out _ ((Only.refl [] wr).alloc _)).mono ?_; rintro e w2 ⟨rfl, h2⟩)
        exact ⟨⟨j + 1, hlt, by simp, h2⟩, by simp [intOf]; omega⟩
      by_cases k4 : o.kind = 4
      · have hr : stepG gr o = (gr.next1 o.who).2 := by rw [stepG, k4]; simp 
        rw [k4] at c0
        have HK : ∀ W, Only [] wr W → Calls Try.prog 11 #[.pointer (some ⟨gb, 0, none⟩), .string o.who] W fun e w' => e = .returned (.tuple #[.int .i64 (gr.next1 o.who).1.1, .bool (gr.next1 o.who).1.2]) ∧ GTo a w H gb (runG g (l.take (j + 1))) (N + (j + 1)) w' := fun W hW =>
          (in_next (hG.keep0 hW) (by omega) o.who).mono fun e w' ⟨q1, q2⟩ => ⟨q1, HE.out W hW w' (by rw [hr]; exact q2.more (by omega))⟩
        have HK' := Lib.hid HK
        clear HK hr k4 HE hG
        go_wp2_with (go_at_call 11; refine (HK'.out _ ((Only.refl [] wr).alloc _)).mono ?_; rintro e w2 ⟨rfl, h2⟩)
        exact ⟨⟨j + 1, hlt, by simp, h2⟩, by simp [intOf]; omega⟩
      by_cases k5 : o.kind = 5
      · have hr : stepG gr o = (gr.ack o.who o.l).2 := by rw [stepG, k5]; simp 
        rw [k5] at c0
        have HK : ∀ W, Only [] wr W → Calls Try.prog 13 #[.pointer (some ⟨gb, 0, none⟩), .string o.who, .slice Al o.l.length cl] W fun e w' => e = .returned (.int .i64 (gr.ack o.who o.l).1) ∧ GTo a w H gb (runG g (l.take (j + 1))) (N + (j + 1)) w' := fun W hW =>
          (in_ack (hG.keep0 hW) (by omega) o.who (slc_keep hW (by simp) rfl hsl (a := a) hw3) hlb hll).mono fun e w' ⟨q1, q2⟩ => ⟨q1, HE.out W hW w' (by rw [hr]; exact q2.more (by omega))⟩
        have HK' := Lib.hid HK
        clear HK hr k5 HE hG
        go_wp2_with (go_at_call 13; refine (HK'.out _ ((Only.refl [] wr).alloc _)).mono ?_; rintro e w2 ⟨rfl, h2⟩)
        exact ⟨⟨j + 1, hlt, by simp, h2⟩, by simp [intOf]; omega⟩
      by_cases k6 : o.kind = 6
      · have hr : stepG gr o = (gr.nak o.who o.n o.l).2 := by rw [stepG, k6]; simp 
        rw [k6] at c0
        have HK : ∀ W, Only [] wr W → Calls Try.prog 20 #[.pointer (some ⟨gb, 0, none⟩), .string o.who, .int .i64 o.n, .slice Al o.l.length cl] W fun e w' => e = .returned (.int .i64 (gr.nak o.who o.n o.l).1) ∧ GTo a w H gb (runG g (l.take (j + 1))) (N + (j + 1)) w' := fun W hW =>
          (in_nak (hG.keep0 hW) (by omega) o.who o.n (slc_keep hW (by simp) rfl hsl (a := a) hw3) hlb hll).mono fun e w' ⟨q1, q2⟩ => ⟨q1, HE.out W hW w' (by rw [hr]; exact q2.more (by omega))⟩
        have HK' := Lib.hid HK
        clear HK hr k6 HE hG
        go_wp2_with (go_at_call 20; refine (HK'.out _ ((Only.refl [] wr).alloc _)).mono ?_; rintro e w2 ⟨rfl, h2⟩)
        exact ⟨⟨j + 1, hlt, by simp, h2⟩, by simp [intOf]; omega⟩
      by_cases k7 : o.kind = 7
      · have hr : stepG gr o = gr.late.2 := by rw [stepG, k7]; simp 
        rw [k7] at c0
        have HK : ∀ W, Only [] wr W → Calls Try.prog 19 #[.pointer (some ⟨gb, 0, none⟩)] W fun e w' => e = .returned (.int .i64 gr.late.1) ∧ GTo a w H gb (runG g (l.take (j + 1))) (N + (j + 1)) w' := fun W hW =>
          (in_late (hG.keep0 hW) (by omega)).mono fun e w' ⟨q1, q2⟩ => ⟨q1, HE.out W hW w' (by rw [hr]; exact q2.more (by omega))⟩
        have HK' := Lib.hid HK
        clear HK hr k7 HE hG
        go_wp2_with (go_at_call 19; refine (HK'.out _ ((Only.refl [] wr).alloc _)).mono ?_; rintro e w2 ⟨rfl, h2⟩)
        exact ⟨⟨j + 1, hlt, by simp, h2⟩, by simp [intOf]; omega⟩
      by_cases k8 : o.kind = 8
      · have hr : stepG gr o = gr.replay.2 := by rw [stepG, k8]; simp 
        rw [k8] at c0
        have HK : ∀ W, Only [] wr W → Calls Try.prog 21 #[.pointer (some ⟨gb, 0, none⟩)] W fun e w' => e = .returned (.int .i64 gr.replay.1) ∧ GTo a w H gb (runG g (l.take (j + 1))) (N + (j + 1)) w' := fun W hW =>
          (in_replay (hG.keep0 hW) (by omega)).mono fun e w' ⟨q1, q2⟩ => ⟨q1, HE.out W hW w' (by rw [hr]; exact q2.more (by omega))⟩
        have HK' := Lib.hid HK
        clear HK hr k8 HE hG
        go_wp2_with (go_at_call 21; refine (HK'.out _ ((Only.refl [] wr).alloc _)).mono ?_; rintro e w2 ⟨rfl, h2⟩)
        exact ⟨⟨j + 1, hlt, by simp, h2⟩, by simp [intOf]; omega⟩
      have hr : stepG gr o = gr := by simp [stepG, k1, k2, k3, k4, k5, k6, k7, k8]
      have hfin : ∀ W, Only [] wr W → GTo a w H gb (runG g (l.take (j + 1))) (N + (j + 1)) W := fun W hW => HE.out W hW W (by rw [hr]; exact GTo.refl ((hG.keep0 hW).more (by omega)))
      have HF := Lib.hid hfin
      have hb1 : ((o.kind : Int) == 1) = false := by simpa using k1
      have hb2 : ((o.kind : Int) == 2) = false := by simpa using k2
      have hb3 : ((o.kind : Int) == 3) = false := by simpa using k3
      have hb4 : ((o.kind : Int) == 4) = false := by simpa using k4
      have hb5 : ((o.kind : Int) == 5) = false := by simpa using k5
      have hb6 : ((o.kind : Int) == 6) = false := by simpa using k6
      have hb7 : ((o.kind : Int) == 7) = false := by simpa using k7
      have hb8 : ((o.kind : Int) == 8) = false := by simpa using k8
      clear HE hr hfin k1 k2 k3 k4 k5 k6 k7 k8
      go_wp2
      exact ⟨⟨j + 1, hlt, by simp, HF.out _ ((Only.refl [] wr).alloc _)⟩, by simp [intOf]; omega⟩
end Go.Proofs.Ythjgplgfcbhihaa
