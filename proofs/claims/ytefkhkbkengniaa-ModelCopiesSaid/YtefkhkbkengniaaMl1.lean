/- alive: a first call whose answer is fixed. -/
import Derived.Test.YtefkhkbkengniaaMh
set_option linter.unusedVariables false
set_option linter.unusedSimpArgs false
namespace Go.Proofs.Ytefkhkbkengniaa
open Go.RowKit Go Go.Sort
theorem lput_any (n : ByteArray) (ex : Int) (A : Option Addr) (k cap : Nat) (w : World) : Calls Try.prog 17 #[.string n, .int .i64 ex, .slice A k cap] w fun e w' =>
    e = .returned (.agg #[.int .i64 1, .int .i64 0, .string n, .int .i64 ex, .slice A k cap, .int .i64 0, .int .i64 0, .int .i64 0]) ∧ Only [] w w' := by
  go_enter Try.func17, Try.ntmps17
  go_wp2
  exact bodyPost_ret (v := .agg #[.int .i64 1, .int .i64 0, .string n, .int .i64 ex, .slice A k cap, .int .i64 0, .int .i64 0, .int .i64 0]) (by simp [results, Try.results17, go_sem]) rfl ⟨rfl, (Only.refl [] w).alloc _⟩
def alEv1 : EventR := ⟨1, ⟨#[116]⟩, ⟨#[]⟩, 0⟩
def alEv2 : EventR := ⟨2, ⟨#[116]⟩, ⟨#[]⟩, 0⟩
def alC1 : Cmd := ⟨1, 0, ⟨#[97]⟩, -1, [alEv1], MetaR.zero⟩
def alC2 : Cmd := ⟨1, 0, ⟨#[97]⟩, 5, [alEv2], MetaR.zero⟩
def alS1 : MS := (MS.new.do alC1).2
def alS2 : MS := (alS1.do alC1).2
def alS3 : MS := (alS2.do alC2).2
theorem al_x : (MS.new.do alC1).1 = ⟨0, 0, 0, false⟩ := by kernel_rfl
theorem al_y : (alS1.do alC1).1 = ⟨0, 0, 0, true⟩ := by kernel_rfl
theorem al_z : (alS2.do alC2).1 = ⟨22, 0, 0, false⟩ := by kernel_rfl
theorem al_len : alS3.all.length = 1 := by kernel_rfl
theorem al_done : alS3.done = 3 := by kernel_rfl
theorem al_read : (alS3.readF ⟨#[97]⟩ 0 5).2 = 0 ∧ (alS3.readF ⟨#[97]⟩ 0 5).1.events.length = 1 := by constructor <;> kernel_rfl
theorem alC1_ok : CmdOk alC1 := ⟨by decide, fun e he => by simp [alC1] at he; subst he; decide⟩
theorem alC2_ok : CmdOk alC2 := ⟨by decide, fun e he => by simp [alC2] at he; subst he; decide⟩
theorem ev_slc {w : World} {g : Nat} {e : EventR} (h : Blk w g 43 #[.int .i64 e.id, .string e.type, .string e.data, .float .f64 e.value]) : Slc w 4 (.slice (some ⟨g, 0, none⟩) 1 1) [e].length ([e].flatMap EventR.cells) :=
  ⟨_, _, rfl, rfl, Nat.le_refl _, by unfold maxLen; omega, fun _ => ⟨g, 0, rfl, h.lt, fun j hj => by rw [Nat.zero_add, h.cell]; simp [EventR.cells]⟩⟩
section
variable {a w : World} {R E : List Nat} {sb mb N : Nat} {s : MS}
theorem ev_in {g : Nat} {e : EventR} (h : Blk w g 43 #[.int .i64 e.id, .string e.type, .string e.data, .float .f64 e.value]) (hg : g ∈ E) : EvIn a w E (.slice (some ⟨g, 0, none⟩) 1 1) [e] :=
  ⟨ev_slc h, fun i hi => by cases hi; exact .inl (.inr hg)⟩
end
def alX : Array Value := #[.int .i64 0, .int .i64 0, .int .i64 0, .bool false]
def alY : Array Value := #[.int .i64 0, .int .i64 0, .int .i64 0, .bool true]
theorem al_rd {a w : World} {R E : List Nat} {sb mb : Nat} (h : HasS a w R E sb mb alS3 3) :
    Calls Try.prog 27 #[.pointer (some ⟨sb, 0, none⟩), .string ⟨#[97]⟩, .int .i64 0, .int .i64 5, .bool false] w fun e w' => ∃ A cap nx en, e = .returned (.tuple #[.agg #[.slice A 1 cap, .int .i64 nx, .bool en], .int .i64 0]) ∧ Only [] w w' :=
  (has_read h (by omega) ⟨#[97]⟩ (by decide) 0 5).mono fun e w' ⟨pv, h1, h2, h3⟩ => by
    obtain ⟨A, cap, rfl, _⟩ := own_form h2
    rw [al_read.1, al_read.2] at h1
    exact ⟨A, cap, _, _, h1, h3⟩
theorem al_ln {a w : World} {R E : List Nat} {sb mb : Nat} (h : HasS a w R E sb mb alS3 3) : Calls Try.prog 14 #[.pointer (some ⟨sb, 0, none⟩)] w fun e w' => e = .returned (.int .i64 1) ∧ w = w' := by
  have := has_len h
  rw [al_len] at this
  exact this
theorem al_dn {a w : World} {R E : List Nat} {sb mb : Nat} (h : HasS a w R E sb mb alS3 3) : Calls Try.prog 21 #[.pointer (some ⟨sb, 0, none⟩)] w fun e w' => e = .returned (.int .i64 3) ∧ w = w' := by
  have := has_done h
  rw [al_done] at this
  exact this
/-- In whatever order the two calls, their boxes and their stores come. -/
structure AlInv (a0 : World) (b e1 sb mb : Nat) (W0 : World) (A0 : Act) (f2 f5 f6 f7 f8 f9 : Bool) (ac : Act) (W : World) (v3 v4 v16 v19 : Value) (R : List Nat) : Prop where
  act : ac = (((A0.put (some 3) v3).put (some 4) v4).put (some 16) v16).put (some 19) v19
  has : HasS a0 W R [e1] sb mb (if f5 then alS2 else if f2 then alS1 else MS.new) (if f5 then 2 else if f2 then 1 else 0)
  kept : Keeps a0 [b, e1] W0 W
  inR : b ∈ R
  h52 : f5 = true → f2 = true
  h2 : f2 = true → v16 = .agg alX
  h5 : f5 = true → v19 = .agg alY
  h6 : f6 = true → ∃ b3, v3 = .pointer (some ⟨b3, 0, none⟩) ∧ b3 ∈ R ∧ b3 ≠ b ∧ Blk W b3 29 alX
  h7 : f7 = true → ∃ b4, v4 = .pointer (some ⟨b4, 0, none⟩) ∧ b4 ∈ R ∧ b4 ≠ b ∧ Blk W b4 29 (if f9 then alY else alX)
  h67 : f6 = true → f7 = true → v3 ≠ v4
  h8 : f8 = true → f6 = true ∧ f5 = true
  h9 : f9 = true → f7 = true ∧ f8 = true
def AlI (a0 : World) (b e1 sb mb : Nat) (W0 : World) (A0 : Act) (listed : Array Bool) (ac : Act) (W : World) : Prop :=
  ∃ v3 v4 v16 v19 R, AlInv a0 b e1 sb mb W0 A0 (listed.getD 2 false) (listed.getD 5 false) (listed.getD 6 false) (listed.getD 7 false) (listed.getD 8 false) (listed.getD 9 false) ac W v3 v4 v16 v19 R
theorem al_ev {a w : World} {e1 : Nat} (h : Blk w e1 43 #[.int .i64 1, .string ⟨#[116]⟩, .string ⟨#[]⟩, .float .f64 0]) : EvIn a w [e1] (.slice (some ⟨e1, 0, none⟩) 1 1) alC1.events := ev_in (e := alEv1) h (by simp)
theorem al_do1 {a w : World} {R : List Nat} {e1 sb mb : Nat} (h : HasS a w R [e1] sb mb MS.new 0) (he : Blk w e1 43 #[.int .i64 1, .string ⟨#[116]⟩, .string ⟨#[]⟩, .float .f64 0]) :
    Calls Try.prog 13 #[.pointer (some ⟨sb, 0, none⟩), .agg #[.int .i64 1, .int .i64 0, .string ⟨#[97]⟩, .int .i64 (-1), .slice (some ⟨e1, 0, none⟩) 1 1, .int .i64 0, .int .i64 0, .int .i64 0]] w fun e w' => e = .returned (.agg #[.int .i64 0, .int .i64 0, .int .i64 0, .bool false]) ∧ HasS a w' R [e1] sb mb alS1 1 ∧ Keeps a (R ++ [e1]) w w' := by
  have := has_do (c := alC1) h (by omega) alC1_ok (al_ev he)
  rw [al_x] at this
  exact this
theorem al_do2 {a w : World} {R : List Nat} {e1 sb mb : Nat} (h : HasS a w R [e1] sb mb alS1 1) (he : Blk w e1 43 #[.int .i64 1, .string ⟨#[116]⟩, .string ⟨#[]⟩, .float .f64 0]) :
    Calls Try.prog 13 #[.pointer (some ⟨sb, 0, none⟩), .agg #[.int .i64 1, .int .i64 0, .string ⟨#[97]⟩, .int .i64 (-1), .slice (some ⟨e1, 0, none⟩) 1 1, .int .i64 0, .int .i64 0, .int .i64 0]] w fun e w' => e = .returned (.agg #[.int .i64 0, .int .i64 0, .int .i64 0, .bool true]) ∧ HasS a w' R [e1] sb mb alS2 2 ∧ Keeps a (R ++ [e1]) w w' := by
  have := has_do (c := alC1) h (by omega) alC1_ok (al_ev he)
  rw [al_y] at this
  exact this
theorem al_do3 {a w : World} {R : List Nat} {e1 e2 sb mb : Nat} (h : HasS a w R [e2, e1] sb mb alS2 2) (he : Blk w e2 43 #[.int .i64 2, .string ⟨#[116]⟩, .string ⟨#[]⟩, .float .f64 0]) :
    Calls Try.prog 13 #[.pointer (some ⟨sb, 0, none⟩), .agg #[.int .i64 1, .int .i64 0, .string ⟨#[97]⟩, .int .i64 5, .slice (some ⟨e2, 0, none⟩) 1 1, .int .i64 0, .int .i64 0, .int .i64 0]] w fun e w' => e = .returned (.agg #[.int .i64 22, .int .i64 0, .int .i64 0, .bool false]) ∧ HasS a w' R [e2, e1] sb mb alS3 3 ∧ Keeps a (R ++ [e2, e1]) w w' := by
  have := has_do (c := alC2) h (by omega) alC2_ok (ev_in (e := alEv2) he (by simp))
  rw [al_z] at this
  exact this
set_option maxRecDepth 100000 in
set_option maxHeartbeats 4000000 in
theorem alive_any (w : World) : Calls Try.prog 11 #[] w fun e w' => e = .returned (.bool true) ∧ Only [] w w' := by
  go_enter Try.func11, Try.ntmps11
  have hsf := stF
  go_wp2_with (first
    | (go_at_call 12; refine (has_newS w w (Only.refl [] w) [] (by simp)).mono ?_; rintro e w1 ⟨rfl, h0, ho1⟩)
    | (go_at_call 17; refine (lput_any _ _ _ _ _ _).mono ?_; rintro e w2 ⟨rfl, ho2⟩))
  have h1 := ((h0.boxE (.cells #[.int .i64 1, .string ⟨#[116]⟩, .string ⟨#[]⟩, .float .f64 0] 43)).keep ho2).boxR (.cells #[.int .i64 1, .int .i64 0, .string ⟨#[97]⟩, .int .i64 (-1), .slice (some ⟨w1.heap.size, 0, none⟩) 1 1, .int .i64 0, .int .i64 0, .int .i64 0] 35)
  have hE0 := ((Only.refl [] w2).alloc (.cells #[.int .i64 1, .int .i64 0, .string ⟨#[97]⟩, .int .i64 (-1), .slice (some ⟨w1.heap.size, 0, none⟩) 1 1, .int .i64 0, .int .i64 0, .int .i64 0] 35)).blk (ho2.blk (Blk.new w1 43 #[.int .i64 1, .string ⟨#[116]⟩, .string ⟨#[]⟩, .float .f64 0]) (by simp)) (by simp)
  have hB0 := Blk.new w2 35 #[.int .i64 1, .int .i64 0, .string ⟨#[97]⟩, .int .i64 (-1), .slice (some ⟨w1.heap.size, 0, none⟩) 1 1, .int .i64 0, .int .i64 0, .int .i64 0]
  obtain ⟨W0, hW0⟩ : ∃ W0, W0 = w2.alloc (.cells #[.int .i64 1, .int .i64 0, .string ⟨#[97]⟩, .int .i64 (-1), .slice (some ⟨w1.heap.size, 0, none⟩) 1 1, .int .i64 0, .int .i64 0, .int .i64 0] 35) := ⟨_, rfl⟩
  rw [← hW0] at h1 hE0 hB0 ⊢
  clear hW0
  have c0 := Kept.cell (a := w) (R := [w2.heap.size, w1.heap.size]) (hB0.cell 0) (.inr (by simp))
  have c1 := Kept.cell (a := w) (R := [w2.heap.size, w1.heap.size]) (hB0.cell 1) (.inr (by simp))
  have c2 := Kept.cell (a := w) (R := [w2.heap.size, w1.heap.size]) (hB0.cell 2) (.inr (by simp))
  have c3 := Kept.cell (a := w) (R := [w2.heap.size, w1.heap.size]) (hB0.cell 3) (.inr (by simp))
  have c4 := Kept.cell (a := w) (R := [w2.heap.size, w1.heap.size]) (hB0.cell 4) (.inr (by simp))
  have c5 := Kept.cell (a := w) (R := [w2.heap.size, w1.heap.size]) (hB0.cell 5) (.inr (by simp))
  have c6 := Kept.cell (a := w) (R := [w2.heap.size, w1.heap.size]) (hB0.cell 6) (.inr (by simp))
  have c7 := Kept.cell (a := w) (R := [w2.heap.size, w1.heap.size]) (hB0.cell 7) (.inr (by simp))
  refine wp_region_inv2 (C := fun W => ∃ p : Kept w [w2.heap.size, w1.heap.size] W0, W = p.W) [0, 1, 3, 4] [2, 5, 6, 7, 8, 9] (by kernel_rfl) (by kernel_rfl) (by intro c d u a w h; cases d <;> exact h) ⟨⟨_, (Keeps.refl _ _ _).drew⟩, rfl⟩ ?_
  show wpQuiet _ _ _ _ [_, _, _, _] _
  repeat (go_big_quiet_step (fail))
  refine wpQuiet_nil ?_
  clear c0 c1 c2 c3 c4 c5 c6 c7
  refine inv_intro (AlI w w2.heap.size w1.heap.size (w.heap.size + 1) w.heap.size W0) ?_ ?_ ?_
  · refine ⟨undef, undef, undef, undef, [w2.heap.size], rfl, ?_, (Keeps.refl _ _ _).drew, by simp, ?_, ?_, ?_, ?_, ?_, ?_, ?_, ?_⟩
    · exact h1.keep (Only.refl _ _).drew
    all_goals (intro q; first | (exfalso; revert q; decide) | skip)
  · intro i hi listed ac W hr hI
    obtain ⟨v3, v4, v16, v19, R, hA⟩ := hI
    have hself := ready_self hr
    have hset := flag_set hself.2
    obtain ⟨rfl, hhas, hkept, hinR, h52, h2, h5, h6, h7, h67, h8, h9⟩ := hA
    have hE := hkept.blk hE0 (.inr (by simp))
    simp only [List.mem_cons, List.not_mem_nil, or_false] at hi
    unfold AlI
    have H2 := Lib.hid h2
    have H5 := Lib.hid h5
    have H6 := Lib.hid h6
    have H7 := Lib.hid h7
    have H67 := Lib.hid h67
    have H8 := Lib.hid h8
    have H9 := Lib.hid h9
    have H52 := Lib.hid h52
    have HSET := Lib.hid hset
    clear h2 h5 h6 h7 h67 h8 h9 h52 hset
    rcases hi with rfl | rfl | rfl | rfl | rfl | rfl
    · have l5 : listed.getD 5 false = false := by
        cases q : listed.getD 5 false
        · rfl
        · have := H52.out q
          rw [hself.1] at this; cases this
      have L5 := Lib.hid l5
      rw [hself.1, l5] at hhas
      have HD := Lib.hid (al_do1 hhas hE)
      rw [HSET.out 2, HSET.out 5, HSET.out 6, HSET.out 7, HSET.out 8, HSET.out 9]
      clear hhas l5 hself
      show wpList _ _ _ [_] _ _
      go_frame
      go_wp2_with (go_at_call 13; refine HD.out.mono ?_; rintro e W' ⟨rfl, hhas', hk'⟩)
      have hk2 := hk'.less (R' := [w2.heap.size, w1.heap.size]) (by simp [hinR])
      refine check_kept (hkept.trans hk2) ⟨v3, v4, _, v19, R, rfl, ?_, hkept.trans hk2, hinR, fun _ => rfl, fun _ => rfl, H5.out, fun q => ?_, fun q => ?_, H67.out, H8.out, H9.out⟩
      · show HasS _ _ _ _ _ _ (if listed.getD 5 false = true then _ else _) (if listed.getD 5 false = true then _ else _)
        rw [L5.out]
        exact hhas'
      · obtain ⟨b3, q1, q2, q3, q4⟩ := H6.out q
        exact ⟨b3, q1, q2, q3, hk'.blk q4 (.inr (by simp [q2]))⟩
      · obtain ⟨b4, q1, q2, q3, q4⟩ := H7.out q
        exact ⟨b4, q1, q2, q3, hk'.blk q4 (.inr (by simp [q2]))⟩
    · have L2 := Lib.hid (ready_dep hr 2 (by kernel_rfl))
      rw [L2.out, hself.1] at hhas
      have HD := Lib.hid (al_do2 hhas hE)
      rw [HSET.out 2, HSET.out 5, HSET.out 6, HSET.out 7, HSET.out 8, HSET.out 9]
      clear hhas hself
      show wpList _ _ _ [_] _ _
      go_frame
      go_wp2_with (go_at_call 13; refine HD.out.mono ?_; rintro e W' ⟨rfl, hhas', hk'⟩)
      have hk2 := hk'.less (R' := [w2.heap.size, w1.heap.size]) (by simp [hinR])
      refine check_kept (hkept.trans hk2) ⟨v3, v4, v16, _, R, rfl, hhas', hkept.trans hk2, hinR, fun _ => L2.out, H2.out, fun _ => rfl, fun q => ?_, fun q => ?_, H67.out, fun q => ⟨(H8.out q).1, rfl⟩, H9.out⟩
      · obtain ⟨b3, q1, q2, q3, q4⟩ := H6.out q
        exact ⟨b3, q1, q2, q3, hk'.blk q4 (.inr (by simp [q2]))⟩
      · obtain ⟨b4, q1, q2, q3, q4⟩ := H7.out q
        exact ⟨b4, q1, q2, q3, hk'.blk q4 (.inr (by simp [q2]))⟩
    · rw [HSET.out 2, HSET.out 5, HSET.out 6, HSET.out 7, HSET.out 8, HSET.out 9]
      have hlt := (hhas.rl _ hinR).2.1
      have hb := Lib.hid (hhas.boxR (.cells alX 29))
      have ho := (Only.refl [] W).alloc (.cells alX 29)
      have hnew : ∀ b4, b4 ∈ R → W.heap.size ≠ b4 := fun b4 q => by have := (hhas.rl _ q).2.1; omega
      clear hhas hself
      show wpList _ _ _ [_] _ _
      go_frame
      go_wp2_with fail
      refine check_kept (hkept.then0 ho) ⟨_, v4, v16, v19, W.heap.size :: R, rfl, hb.out, hkept.then0 ho, List.mem_cons_of_mem _ hinR, H52.out, H2.out, H5.out, fun _ => ⟨_, rfl, by simp, by omega, Blk.new W _ _⟩, fun q => ?_, fun _ q => ?_, fun q => ⟨rfl, (H8.out q).2⟩, H9.out⟩
      · obtain ⟨b4, q1, q2, q3, q4⟩ := H7.out q
        exact ⟨b4, q1, List.mem_cons_of_mem _ q2, q3, ho.blk q4 (by simp)⟩
      · obtain ⟨b4, q1, q2, q3, q4⟩ := H7.out q
        rw [q1]
        intro e
        injection e with e
        injection e with e
        injection e with e
        exact hnew b4 q2 e
    · rw [HSET.out 2, HSET.out 5, HSET.out 6, HSET.out 7, HSET.out 8, HSET.out 9]
      have L9 : Hid (listed.getD 9 false = false) := by
        unfold Hid
        cases q : listed.getD 9 false
        · rfl
        · have := (H9.out q).1
          rw [hself.1] at this
          cases this
      have hlt := (hhas.rl _ hinR).2.1
      have hb := Lib.hid (hhas.boxR (.cells alX 29))
      have ho := (Only.refl [] W).alloc (.cells alX 29)
      have hnew : ∀ b4, b4 ∈ R → b4 ≠ W.heap.size := fun b4 q => by have := (hhas.rl _ q).2.1; omega
      clear hhas hself
      show wpList _ _ _ [_] _ _
      go_frame
      go_wp2_with fail
      refine check_kept (hkept.then0 ho) ⟨v3, _, v16, v19, W.heap.size :: R, rfl, hb.out, hkept.then0 ho, List.mem_cons_of_mem _ hinR, H52.out, H2.out, H5.out, fun q => ?_, fun _ => ⟨_, rfl, by simp, by omega, ?_⟩, fun q _ => ?_, H8.out, fun q => ⟨rfl, (H9.out q).2⟩⟩
      · obtain ⟨b4, q1, q2, q3, q4⟩ := H6.out q
        exact ⟨b4, q1, List.mem_cons_of_mem _ q2, q3, ho.blk q4 (by simp)⟩
      · show Blk _ _ _ (if listed.getD 9 false = true then _ else _)
        rw [L9.out]
        exact Blk.new W _ _
      · obtain ⟨b4, q1, q2, q3, q4⟩ := H6.out q
        rw [q1]
        intro e
        injection e with e
        injection e with e
        injection e with e
        exact hnew b4 q2 e
    · have L6 := Lib.hid (ready_dep hr 6 (by kernel_rfl))
      have L2 := Lib.hid (ready_dep hr 2 (by kernel_rfl))
      have L5 := Lib.hid (ready_dep hr 5 (by kernel_rfl))
      have L7 := Lib.hid (ready_dep hr 7 (by kernel_rfl))
      obtain ⟨b3, rfl, q2, q3, q4⟩ := H6.out L6.out
      obtain rfl := H2.out L2.out
      have d1 := fun i => q4.cell i
      have d2 := fun i => q4.free i
      have hst := fun u v x y => (((hhas.setCell (p := ⟨b3, 0, none⟩) q2 u).setCell (p := ⟨b3, 1, none⟩) q2 v).setCell (p := ⟨b3, 2, none⟩) q2 x).setCell (p := ⟨b3, 3, none⟩) q2 y
      have hbg := (hhas.rl b3 q2)
      have hnE : b3 ∉ [w2.heap.size, w1.heap.size] := by simp; exact ⟨q3, by simpa using hbg.2.2⟩
      have hOs := fun u v x y => ((((Only.refl [b3] W).setCell (p := ⟨b3, 0, none⟩) (.inl (by simp)) u).setCell (p := ⟨b3, 1, none⟩) (.inl (by simp)) v).setCell (p := ⟨b3, 2, none⟩) (.inl (by simp)) x).setCell (p := ⟨b3, 3, none⟩) (.inl (by simp)) y
      have hKs := fun u v x y => (((hkept.setCell (p := ⟨b3, 0, none⟩) ⟨hbg.1, hnE⟩ u).setCell (p := ⟨b3, 1, none⟩) ⟨hbg.1, hnE⟩ v).setCell (p := ⟨b3, 2, none⟩) ⟨hbg.1, hnE⟩ x).setCell (p := ⟨b3, 3, none⟩) ⟨hbg.1, hnE⟩ y
      have hBs := fun u v x y => (((q4.set 0 u).set 1 v).set 2 x).set 3 y
      rw [HSET.out 2, HSET.out 5, HSET.out 6, HSET.out 7, HSET.out 8, HSET.out 9]
      have HB := Lib.hid hBs
      have HK := Lib.hid hKs
      have HS := Lib.hid hst
      clear hhas hself hBs hKs hst
      simp only [Array.getD_eq_getD_getElem?]
      try simp only [Array.getD_eq_getD_getElem?] at H52
      try simp only [Array.getD_eq_getD_getElem?] at H67
      try simp only [Array.getD_eq_getD_getElem?] at H8
      try simp only [Array.getD_eq_getD_getElem?] at H9
      try simp only [Array.getD_eq_getD_getElem?] at L5
      try simp only [Array.getD_eq_getD_getElem?] at L6
      try simp only [Array.getD_eq_getD_getElem?] at L7
      try simp only [Array.getD_eq_getD_getElem?] at HS
      try simp only [Array.getD_eq_getD_getElem?] at H2
      try simp only [Array.getD_eq_getD_getElem?] at H5
      try simp only [Array.getD_eq_getD_getElem?] at H6
      try simp only [Array.getD_eq_getD_getElem?] at H7
      try simp only [Array.getD_eq_getD_getElem?] at L8
      unfold alX at d1
      show wpList _ _ _ [_] _ _
      go_frame
      unfold alX
      go_wp2_with fail
      refine check_kept (HK.out _ _ _ _) ⟨_, v4, _, v19, R, rfl, HS.out _ _ _ _, HK.out _ _ _ _, hinR, H52.out, fun _ => rfl, H5.out, fun _ => ⟨b3, rfl, q2, q3, HB.out _ _ _ _⟩, fun q => ?_, H67.out, fun _ => ⟨L6.out, L5.out⟩, fun q => ⟨L7.out, rfl⟩⟩
      obtain ⟨b4, r1, r2, r3, r4⟩ := H7.out q
      refine ⟨b4, r1, r2, r3, (hOs _ _ _ _).blk r4 ?_⟩
      have := H67.out L6.out L7.out
      rw [r1] at this
      simp
      intro e
      exact this (by rw [e])
    · have L7 := Lib.hid (ready_dep hr 7 (by kernel_rfl))
      have L8 := Lib.hid (ready_dep hr 8 (by kernel_rfl))
      have L5 := Lib.hid (ready_dep hr 5 (by kernel_rfl))
      have L6 := Lib.hid (ready_dep hr 6 (by kernel_rfl))
      obtain ⟨b4, rfl, q2, q3, q4⟩ := H7.out L7.out
      obtain rfl := H5.out L5.out
      rw [hself.1] at q4
      have q4 : Blk W b4 29 alX := q4
      have d1 := fun i => q4.cell i
      have d2 := fun i => q4.free i
      have hst := fun u v x y => (((hhas.setCell (p := ⟨b4, 0, none⟩) q2 u).setCell (p := ⟨b4, 1, none⟩) q2 v).setCell (p := ⟨b4, 2, none⟩) q2 x).setCell (p := ⟨b4, 3, none⟩) q2 y
      have hbg := (hhas.rl b4 q2)
      have hnE : b4 ∉ [w2.heap.size, w1.heap.size] := by simp; exact ⟨q3, by simpa using hbg.2.2⟩
      have hOs := fun u v x y => ((((Only.refl [b4] W).setCell (p := ⟨b4, 0, none⟩) (.inl (by simp)) u).setCell (p := ⟨b4, 1, none⟩) (.inl (by simp)) v).setCell (p := ⟨b4, 2, none⟩) (.inl (by simp)) x).setCell (p := ⟨b4, 3, none⟩) (.inl (by simp)) y
      have hKs := fun u v x y => (((hkept.setCell (p := ⟨b4, 0, none⟩) ⟨hbg.1, hnE⟩ u).setCell (p := ⟨b4, 1, none⟩) ⟨hbg.1, hnE⟩ v).setCell (p := ⟨b4, 2, none⟩) ⟨hbg.1, hnE⟩ x).setCell (p := ⟨b4, 3, none⟩) ⟨hbg.1, hnE⟩ y
      have hBs := fun u v x y => (((q4.set 0 u).set 1 v).set 2 x).set 3 y
      rw [HSET.out 2, HSET.out 5, HSET.out 6, HSET.out 7, HSET.out 8, HSET.out 9]
      have HB := Lib.hid hBs
      have HK := Lib.hid hKs
      have HS := Lib.hid hst
      clear hhas hself hBs hKs hst
      simp only [Array.getD_eq_getD_getElem?]
      try simp only [Array.getD_eq_getD_getElem?] at H52
      try simp only [Array.getD_eq_getD_getElem?] at H67
      try simp only [Array.getD_eq_getD_getElem?] at H8
      try simp only [Array.getD_eq_getD_getElem?] at H9
      try simp only [Array.getD_eq_getD_getElem?] at L5
      try simp only [Array.getD_eq_getD_getElem?] at L6
      try simp only [Array.getD_eq_getD_getElem?] at L7
      try simp only [Array.getD_eq_getD_getElem?] at HS
      try simp only [Array.getD_eq_getD_getElem?] at H2
      try simp only [Array.getD_eq_getD_getElem?] at H5
      try simp only [Array.getD_eq_getD_getElem?] at H6
      try simp only [Array.getD_eq_getD_getElem?] at H7
      try simp only [Array.getD_eq_getD_getElem?] at L8
      unfold alX at d1
      show wpList _ _ _ [_] _ _
      go_frame
      unfold alY
      go_wp2_with fail
      refine check_kept (HK.out _ _ _ _) ⟨v3, _, v16, _, R, rfl, HS.out _ _ _ _, HK.out _ _ _ _, hinR, H52.out, H2.out, fun _ => rfl, fun q => ?_, fun _ => ⟨b4, rfl, q2, q3, HB.out _ _ _ _⟩, H67.out, H8.out, fun q => ⟨L7.out, L8.out⟩⟩
      obtain ⟨b3, r1, r2, r3, r4⟩ := H6.out q
      refine ⟨b3, r1, r2, r3, (hOs _ _ _ _).blk r4 ?_⟩
      have := H67.out L6.out L7.out
      rw [r1] at this
      simp
      intro e
      exact this (by rw [e])
  · intro listed ac W hI hall
    obtain ⟨v3, v4, v16, v19, R, hA⟩ := hI
    rw [hall 2 (by simp), hall 5 (by simp), hall 6 (by simp), hall 7 (by simp), hall 8 (by simp), hall 9 (by simp)] at hA
    obtain ⟨rfl, hhas, hkept, hinR, _, h2, h5, h6, h7, _, _, _⟩ := hA
    obtain ⟨b3, rfl, p2, p3, p4⟩ := h6 rfl
    obtain ⟨b4, rfl, q2, q3, q4⟩ := h7 rfl
    obtain rfl := h2 rfl
    obtain rfl := h5 rfl
    have hhas : HasS w W R [w1.heap.size] (w.heap.size + 1) w.heap.size alS2 2 := hhas
    have q4 : Blk W b4 29 alY := q4
    clear h2 h5 h6 h7 hall
    go_frame
    unfold alX at p4
    unfold alY at q4
    have e3 := fun i => p4.cell i
    have e4 := fun i => q4.cell i
    have q4' := q4
    go_wp2_with (first
      | (go_at_call 17; refine (lput_any _ _ _ _ _ _).mono ?_; rintro e w3 ⟨rfl, ho3⟩
         have hh := ((hhas.boxE (.cells #[.int .i64 2, .string ⟨#[116]⟩, .string ⟨#[]⟩, .float .f64 0] 43)).keep ho3)
         have he2 := ho3.blk (Blk.new W 43 #[.int .i64 2, .string ⟨#[116]⟩, .string ⟨#[]⟩, .float .f64 0]) (by simp))
      | (go_at_call 13; refine (al_do3 hh he2).mono ?_; rintro e w4 ⟨rfl, hh4, hk4⟩)
      | (go_at_call 27; refine (al_rd (hh4.keep ((Only.refl [] w4).alloc _))).mono ?_; rintro e w5 ⟨A5, cap5, nx5, en5, rfl, ho5⟩
         have hh5 := fun o => ((hh4.keep ((Only.refl [] w4).alloc _)).keep ho5).keep ((Only.refl [] w5).alloc o)
         have g3 := fun o i => (((Only.refl [] w5).alloc o).blk (ho5.blk (((Only.refl [] w4).alloc _).blk (hk4.blk (ho3.blk (((Only.refl [] W).alloc _).blk p4 (by simp)) (by simp)) (.inr (by simp [p2]))) (by simp)) (by simp)) (by simp)).cell i
         have g4 := fun o i => (((Only.refl [] w5).alloc o).blk (ho5.blk (((Only.refl [] w4).alloc _).blk (hk4.blk (ho3.blk (((Only.refl [] W).alloc _).blk q4' (by simp)) (by simp)) (.inr (by simp [q2]))) (by simp)) (by simp)) (by simp)).cell i
         have g5 := fun o i => (((Only.refl [] w5).alloc o).blk (ho5.blk (Blk.new w4 _ _) (by simp)) (by simp)).cell i)
      | (go_at_call 14; refine (al_ln (hh5 _)).mono ?_; rintro e w6 ⟨rfl, rfl⟩)
      | (go_at_call 21; refine (al_dn (hh5 _)).mono ?_; rintro e w6 ⟨rfl, rfl⟩))
    go_ret
    exact ⟨rfl, (hh5 _).only⟩
end Go.Proofs.Ytefkhkbkengniaa
