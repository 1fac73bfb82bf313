/- Proved here: contracts of functions and plain laws, part 4 of 6 of one proof. Conditions: each theorem names its own. -/
import Derived.Test.YthjgplgfcbhihaaGreatP3
/- The document's group: Late, Replay, Tidy. -/
set_option linter.unusedVariables false
set_option linter.unusedSimpArgs false
namespace Go.Proofs.YthjgplgfcbhihaaGreat
open Go.RowKit Go Go.Sort Go.Lib
/-- The first j items turned by f. -/
def tn (r : RG) (f : Item → Item) (j : Nat) : RG := ⟨r.from_, r.buf, r.ret, r.who, (r.l.take j).map f ++ r.l.drop j⟩
theorem tn_zero (r : RG) (f : Item → Item) : tn r f 0 = r := by simp [tn]
theorem tn_end (r : RG) (f : Item → Item) : tn r f r.l.length = { r with l := r.l.map f } := by simp [tn]
theorem tn_len (r : RG) (f : Item → Item) (j : Nat) : (tn r f j).l.length = r.l.length := turn_len _ _ _
theorem tn_get (r : RG) (f : Item → Item) (j : Nat) (h : j < r.l.length) (h' : j < (tn r f j).l.length) : (tn r f j).l[j] = r.l[j] := turn_get _ _ _ h _
theorem tn_set (r : RG) (f : Item → Item) (j : Nat) (h : j < r.l.length) (y : Item) (e : y = f r.l[j]) : { tn r f j with l := (tn r f j).l.set j y } = tn r f (j + 1) := by
  subst e
  unfold tn
  dsimp only
  rw [turn_next f r.l j h]
theorem tn_same (r : RG) (f : Item → Item) (j : Nat) (h : j < r.l.length) (e : f r.l[j] = r.l[j]) : tn r f j = tn r f (j + 1) := by
  unfold tn
  rw [turn_same f r.l j h e]
section
variable {a w w' : World} {H : List Nat} {rb : Nat} {r : RG}
/-- The item j of a group lies so. -/
structure RItem (w : World) (rb len j : Nat) (x : Item) (b off cl : Nat) : Prop where
  f4 : w.cell? ⟨rb, 4, none⟩ = some (.slice (some ⟨b, off, none⟩) len cl)
  le : len ≤ cl
  cap : cl ≤ 2 ^ 63 - 1
  c0 : w.cell? ⟨b, off + j * 4, none⟩ = some (.int .i64 x.n)
  c1 : w.cell? ⟨b, off + j * 4 + 1, none⟩ = some (.int .i64 x.st)
  c2 : w.cell? ⟨b, off + j * 4 + 2, none⟩ = some (.int .i64 x.tries)
  c3 : w.cell? ⟨b, off + j * 4 + 3, none⟩ = some (.string x.own)
theorem HasR.item (h : HasR a w H rb r) (j : Nat) (hj : j < r.l.length) : ∃ b off cl, RItem w rb r.l.length j r.l[j] b off cl := by
  obtain ⟨⟨vw, vl, hR, rfl⟩, _⟩ := h
  obtain ⟨Aw, cw, Al, cl, rfl, rfl, _, _, q1, q2, _, q3⟩ := hR.open
  obtain ⟨b, off, rfl, _, hc⟩ := q3 j hj
  exact ⟨b, off, cl, hR.blk.cell 4, q1, q2, hc 0 (by omega), hc 1 (by omega), hc 2 (by omega), hc 3 (by omega)⟩
theorem HasR.len (h : HasR a w H rb r) : ∃ A cl, w.cell? ⟨rb, 4, none⟩ = some (.slice A r.l.length cl) ∧ r.l.length ≤ cl ∧ cl ≤ 2 ^ 63 - 1 := by
  obtain ⟨⟨vw, vl, hR, rfl⟩, _⟩ := h
  obtain ⟨Aw, cw, Al, cl, rfl, rfl, _, _, q1, q2, _, q3⟩ := hR.open
  exact ⟨Al, cl, hR.blk.cell 4, q1, q2⟩
theorem HasR.f0 (h : HasR a w H rb r) : w.cell? ⟨rb, 0, none⟩ = some (.int .i64 r.from_) := by
  obtain ⟨⟨vw, vl, hR, rfl⟩, _⟩ := h
  exact hR.blk.cell 0
theorem HasR.f1 (h : HasR a w H rb r) : w.cell? ⟨rb, 1, none⟩ = some (.int .i64 r.buf) := by
  obtain ⟨⟨vw, vl, hR, rfl⟩, _⟩ := h
  exact hR.blk.cell 1
theorem HasR.f2 (h : HasR a w H rb r) : w.cell? ⟨rb, 2, none⟩ = some (.int .i64 r.ret) := by
  obtain ⟨⟨vw, vl, hR, rfl⟩, _⟩ := h
  exact hR.blk.cell 2
theorem RTo.after {w0 : World} {H0 : List Nat} (hK : Stepped w0 w H0 H) (hW : Only [] w w') {w2 : World} {r' : RG} (k : RTo a w' H rb r' w2) : RTo a w0 H0 rb r' w2 := RTo.trans (hK.then0 hW) k
set_option maxRecDepth 100000 in
set_option maxHeartbeats 4000000 in
theorem rlate_any (h : HasR a w H rb r) (hb : r.l.length ≤ 1000000) :
    Calls Tryz.prog 37 #[.pointer (some ⟨rb, 0, none⟩)] w fun e w' => e = .returned (.int .i64 r.late.1) ∧ RTo a w H rb r.late.2 w' := by
  go_enter Tryz.func37, Tryz.ntmps37
  go_wp2
  go_loopw [3, 4] (fun nv iv wr => ∃ j : Nat, j ≤ r.l.length ∧ nv = .int .i64 (((r.l.take j).countP (fun x => x.st == 2) : Nat) : Int) ∧ iv = .int .i64 j ∧ RTo a w H rb (tn r (lateI r.ret) j) wr) (fun _ iv _ => r.l.length - (intOf iv).toNat)
  case atStart => exact ⟨0, Nat.zero_le _, rfl, rfl, by rw [tn_zero]; exact RTo.refl h⟩
  case round =>
    obtain ⟨j, hj, rfl, rfl, Hr, hR, hK⟩ := hrel
    have hcl : (r.l.take j).countP (fun x => x.st == 2) ≤ r.l.length := Nat.le_trans List.countP_le_length (by simp; omega)
    by_cases hlt : j < r.l.length
    · have hcn := count_next (fun x : Item => x.st == 2) r.l j hlt
      obtain ⟨C, hC⟩ : ∃ C, C = (r.l.take j).countP (fun x => x.st == 2) := ⟨_, rfl⟩
      rw [← hC] at hcn hcl
      rw [← hC]
      have hgl : giveI (tn r (lateI r.ret) j).ret 2 ((tn r (lateI r.ret) j).l[j]'(by rw [tn_len]; exact hlt)) = giveI r.ret 2 r.l[j] := by rw [tn_get r (lateI r.ret) j hlt]; rfl
      have HGv := Lib.hid (fun (W : World) (hW : Only [] wr W) (e : giveI r.ret 2 r.l[j] = lateI r.ret r.l[j]) => (rgive_any (hR.keep0 hW) j (by rw [tn_len]; exact hlt) (by rw [tn_len]; exact hb) 2).mono fun e w' (q : _ ∧ _) => (show e = .returned (.tuple #[]) ∧ RTo a w H rb (tn r (lateI r.ret) (j + 1)) w' from ⟨q.1, by rw [← tn_set r (lateI r.ret) j hlt _ (hgl.trans (by assumption))]; exact RTo.after hK hW q.2⟩))
      have HSet := Lib.hid (fun (W : World) (hW : Only [] wr W) (y : Item) (e : y = (lateI r.ret) r.l[j]) => (rset_any (hR.keep0 hW) j (by rw [tn_len]; exact hlt) (by rw [tn_len]; exact hb) y).mono fun e w' (q : _ ∧ _) => (show e = .returned (.tuple #[]) ∧ RTo a w H rb (tn r (lateI r.ret) (j + 1)) w' from ⟨q.1, by rw [← tn_set r (lateI r.ret) j hlt y (by assumption)]; exact RTo.after hK hW q.2⟩))
      have hsm := fun (W : World) (hW : Only [] wr W) (e : (lateI r.ret) r.l[j] = r.l[j]) => (show RTo a w H rb (tn r (lateI r.ret) (j + 1)) W from by rw [← tn_same r (lateI r.ret) j hlt e]; exact ⟨Hr, hR.keep0 hW, hK.then0 hW⟩)
      obtain ⟨b, off, cl, hIt⟩ := hR.item j (by rw [tn_len]; exact hlt)
      rw [tn_get r (lateI r.ret) j hlt, tn_len] at hIt
      obtain ⟨x, hx⟩ : ∃ x, x = r.l[j] := ⟨_, rfl⟩
      rw [← hx] at HSet hsm hIt
      have HSm := Lib.hid hsm
      obtain ⟨f4, hle, hcap, c0, c1, c2, c3⟩ := hIt
      clear hsm
      rw [← hx] at HGv hcn
      clear HSet hgl hx hC
      by_cases k : x.st = 2
      · have hto := Lib.hid (fun W hW => HGv.out W hW (by simp [lateI, k]))
        simp only [k, beq_self_eq_true, if_true] at hcn
        have HC := Lib.hid hcn
        clear HGv HSm hcn
        rw [k] at c1
        go_wp2_with (go_at_call 89; refine (hto.out _ (Only.refl _ _)).mono ?_; rintro e w2 ⟨rfl, h2⟩)
        exact ⟨⟨j + 1, hlt, by rw [HC.out]; simp, by simp, h2⟩, by simp [intOf]; omega⟩
      · have b1 : (x.st == 2) = false := by rw [beq_eq_false_iff_ne]; exact k
        simp only [b1, Bool.false_eq_true, if_false, Nat.add_zero] at hcn
        have h2 := HSm.out _ (Only.refl _ _) (by simp [lateI, k])
        have HC := Lib.hid hcn
        clear HGv HSm k hcn
        go_wp2
        exact ⟨⟨j + 1, hlt, by rw [HC.out], by simp, h2⟩, by simp [intOf]; omega⟩
    · obtain ⟨A, cl, f4, hle, hcap⟩ := hR.len
      rw [tn_len] at f4 hle
      have hjl : j = r.l.length := by omega
      have h1 : ((r.l.take j).countP (fun x => x.st == 2) : Int) = r.late.1 := by rw [hjl, List.take_length]; rfl
      have h2 : RTo a w H rb r.late.2 wr := by rw [hjl, tn_end] at hR; exact ⟨Hr, hR, hK⟩
      rw [h1]
      have HF := Lib.hid h2
      clear h2 h1 hjl hR hK hcl
      go_wp2
      go_ret
      exact ⟨rfl, HF.out⟩
set_option maxRecDepth 100000 in
set_option maxHeartbeats 4000000 in
theorem rreplay_any (h : HasR a w H rb r) (hb : r.l.length ≤ 1000000) :
    Calls Tryz.prog 39 #[.pointer (some ⟨rb, 0, none⟩)] w fun e w' => e = .returned (.int .i64 r.replay.1) ∧ RTo a w H rb r.replay.2 w' := by
  go_enter Tryz.func39, Tryz.ntmps39
  go_wp2
  go_loopw [3, 4] (fun nv iv wr => ∃ j : Nat, j ≤ r.l.length ∧ nv = .int .i64 (((r.l.take j).countP (fun x => x.st == 4) : Nat) : Int) ∧ iv = .int .i64 j ∧ RTo a w H rb (tn r replayI j) wr) (fun _ iv _ => r.l.length - (intOf iv).toNat)
  case atStart => exact ⟨0, Nat.zero_le _, rfl, rfl, by rw [tn_zero]; exact RTo.refl h⟩
  case round =>
    obtain ⟨j, hj, rfl, rfl, Hr, hR, hK⟩ := hrel
    have hcl : (r.l.take j).countP (fun x => x.st == 4) ≤ r.l.length := Nat.le_trans List.countP_le_length (by simp; omega)
    by_cases hlt : j < r.l.length
    · have hcn := count_next (fun x : Item => x.st == 4) r.l j hlt
      obtain ⟨C, hC⟩ : ∃ C, C = (r.l.take j).countP (fun x => x.st == 4) := ⟨_, rfl⟩
      rw [← hC] at hcn hcl
      rw [← hC]
      have HSet := Lib.hid (fun (W : World) (hW : Only [] wr W) (y : Item) (e : y = replayI r.l[j]) => (rset_any (hR.keep0 hW) j (by rw [tn_len]; exact hlt) (by rw [tn_len]; exact hb) y).mono fun e w' (q : _ ∧ _) => (show e = .returned (.tuple #[]) ∧ RTo a w H rb (tn r replayI (j + 1)) w' from ⟨q.1, by rw [← tn_set r replayI j hlt y (by assumption)]; exact RTo.after hK hW q.2⟩))
      have hsm := fun (W : World) (hW : Only [] wr W) (e : replayI r.l[j] = r.l[j]) => (show RTo a w H rb (tn r replayI (j + 1)) W from by rw [← tn_same r replayI j hlt e]; exact ⟨Hr, hR.keep0 hW, hK.then0 hW⟩)
      obtain ⟨b, off, cl, hIt⟩ := hR.item j (by rw [tn_len]; exact hlt)
      rw [tn_get r replayI j hlt, tn_len] at hIt
      obtain ⟨x, hx⟩ : ∃ x, x = r.l[j] := ⟨_, rfl⟩
      rw [← hx] at HSet hsm hIt
      have HSm := Lib.hid hsm
      obtain ⟨f4, hle, hcap, c0, c1, c2, c3⟩ := hIt
      clear hsm
      rw [← hx] at hcn
      clear hx hC
      by_cases k : x.st = 4
      · have hto := Lib.hid (fun W hW => HSet.out W hW ⟨x.n, 1, 0, x.own⟩ (by simp [replayI, k]))
        simp only [k, beq_self_eq_true, if_true] at hcn
        have HC := Lib.hid hcn
        clear HSet HSm hcn
        rw [k] at c1
        go_wp2_with (go_at_call 88; refine (hto.out _ ((Only.refl _ _).alloc _)).mono ?_; rintro e w2 ⟨rfl, h2⟩)
        exact ⟨⟨j + 1, hlt, by rw [HC.out]; simp, by simp, h2⟩, by simp [intOf]; omega⟩
      · have b1 : (x.st == 4) = false := by rw [beq_eq_false_iff_ne]; exact k
        simp only [b1, Bool.false_eq_true, if_false, Nat.add_zero] at hcn
        have h2 := HSm.out _ ((Only.refl _ _).alloc (.cells #[.int .i64 x.n, .int .i64 x.st, .int .i64 x.tries, .string x.own] 79)) (by simp [replayI, k])
        have HC := Lib.hid hcn
        clear HSet HSm k hcn
        go_wp2
        exact ⟨⟨j + 1, hlt, by rw [HC.out], by simp, h2⟩, by simp [intOf]; omega⟩
    · obtain ⟨A, cl, f4, hle, hcap⟩ := hR.len
      rw [tn_len] at f4 hle
      have hjl : j = r.l.length := by omega
      have h1 : ((r.l.take j).countP (fun x => x.st == 4) : Int) = r.replay.1 := by rw [hjl, List.take_length]; rfl
      have h2 : RTo a w H rb r.replay.2 wr := by rw [hjl, tn_end] at hR; exact ⟨Hr, hR, hK⟩
      rw [h1]
      have HF := Lib.hid h2
      clear h2 h1 hjl hR hK hcl
      go_wp2
      go_ret
      exact ⟨rfl, HF.out⟩
set_option maxRecDepth 100000 in
set_option maxHeartbeats 4000000 in
theorem rtidy_any (h : HasR a w H rb r) (hf : r.from_ ≤ 1099511627776 ∧ 0 ≤ r.from_) (hb : r.l.length ≤ 1000000) :
    Calls Tryz.prog 40 #[.pointer (some ⟨rb, 0, none⟩)] w fun e w' => e = .returned (.tuple #[]) ∧ RTo a w H rb r.tidy w' := by
  have HCk := Lib.hid (rckpt_any h ⟨hf.1, hf.2, hb⟩)
  have htd : r.tidy = { r with l := r.l.map (tidyI r.ckpt) } := rfl
  rw [htd]
  obtain ⟨c, hc⟩ : ∃ c, c = r.ckpt := ⟨_, rfl⟩
  rw [← hc] at HCk ⊢
  clear hc htd
  go_enter Tryz.func40, Tryz.ntmps40
  go_wp2_with (go_at_call 52; refine HCk.out.mono ?_; rintro e w1 ⟨rfl, h1⟩)
  go_loopw [3] (fun iv wr => ∃ j : Nat, j ≤ r.l.length ∧ iv = .int .i64 j ∧ RTo a w H rb (tn r (tidyI c) j) wr) (fun iv _ => r.l.length - (intOf iv).toNat)
  case atStart => exact ⟨0, Nat.zero_le _, rfl, by rw [tn_zero]; exact ⟨H, h.keep0 h1, (Stepped.refl _ _).then0 h1⟩⟩
  case round =>
    obtain ⟨j, hj, rfl, Hr, hR, hK⟩ := hrel
    by_cases hlt : j < r.l.length
    · have HSet := Lib.hid (fun (W : World) (hW : Only [] wr W) (y : Item) (e : y = (tidyI c) r.l[j]) => (rset_any (hR.keep0 hW) j (by rw [tn_len]; exact hlt) (by rw [tn_len]; exact hb) y).mono fun e w' (q : _ ∧ _) => (show e = .returned (.tuple #[]) ∧ RTo a w H rb (tn r (tidyI c) (j + 1)) w' from ⟨q.1, by rw [← tn_set r (tidyI c) j hlt y (by assumption)]; exact RTo.after hK hW q.2⟩))
      have hsm := fun (W : World) (hW : Only [] wr W) (e : (tidyI c) r.l[j] = r.l[j]) => (show RTo a w H rb (tn r (tidyI c) (j + 1)) W from by rw [← tn_same r (tidyI c) j hlt e]; exact ⟨Hr, hR.keep0 hW, hK.then0 hW⟩)
      obtain ⟨b, off, cl, hIt⟩ := hR.item j (by rw [tn_len]; exact hlt)
      rw [tn_get r (tidyI c) j hlt, tn_len] at hIt
      obtain ⟨x, hx⟩ : ∃ x, x = r.l[j] := ⟨_, rfl⟩
      rw [← hx] at HSet hsm hIt
      have HSm := Lib.hid hsm
      obtain ⟨f4, hle, hcap, c0, c1, c2, c3⟩ := hIt
      clear hsm
      clear hx
      by_cases k : (x.st = 3 ∨ x.st = 5) ∧ x.n < c
      · have hto := Lib.hid (fun W hW => HSet.out W hW ⟨x.n, 6, x.tries, x.own⟩ (by simp [tidyI, k]))
        clear HSet HSm
        obtain ⟨k1, k2⟩ := k
        rcases k1 with k1 | k1
        · rw [k1] at c1
          go_wp2_with (go_at_call 88; refine (hto.out _ ((Only.refl _ _).alloc _)).mono ?_; rintro e w2 ⟨rfl, h2⟩)
          exact ⟨⟨j + 1, hlt, by simp, h2⟩, by simp [intOf]; omega⟩
        · rw [k1] at c1
          go_wp2_with (go_at_call 88; refine (hto.out _ ((Only.refl _ _).alloc _)).mono ?_; rintro e w2 ⟨rfl, h2⟩)
          exact ⟨⟨j + 1, hlt, by simp, h2⟩, by simp [intOf]; omega⟩
      · have h2 := HSm.out _ ((Only.refl _ _).alloc (.cells #[.int .i64 x.n, .int .i64 x.st, .int .i64 x.tries, .string x.own] 79)) (by simp [tidyI, k])
        have H2 := Lib.hid h2
        clear HSet HSm h2
        by_cases k3 : x.st = 3
        · have k2 : ¬ x.n < c := fun q => k ⟨.inl k3, q⟩
          rw [k3] at c1 H2
          clear k
          go_wp2
          exact ⟨⟨j + 1, hlt, by simp, H2.out⟩, by simp [intOf]; omega⟩
        · have b3 : (x.st == 3) = false := by rw [beq_eq_false_iff_ne]; exact k3
          by_cases k5 : x.st = 5
          · have k2 : ¬ x.n < c := fun q => k ⟨.inr k5, q⟩
            rw [k5] at c1 H2
            clear k k3 b3
            go_wp2
            exact ⟨⟨j + 1, hlt, by simp, H2.out⟩, by simp [intOf]; omega⟩
          · have b5 : (x.st == 5) = false := by rw [beq_eq_false_iff_ne]; exact k5
            clear k k3 k5
            go_wp2
            exact ⟨⟨j + 1, hlt, by simp, H2.out⟩, by simp [intOf]; omega⟩
    · obtain ⟨A, cl, f4, hle, hcap⟩ := hR.len
      rw [tn_len] at f4 hle
      have hjl : j = r.l.length := by omega
      have h2 : RTo a w H rb { r with l := r.l.map (tidyI c) } wr := by rw [hjl, tn_end] at hR; exact ⟨Hr, hR, hK⟩
      have HF := Lib.hid h2
      clear h2 hjl hR hK
      go_wp2
      go_end0
      exact ⟨rfl, HF.out⟩
end
end Go.Proofs.YthjgplgfcbhihaaGreat
/- The document's group: Leave, Join. -/
set_option linter.unusedVariables false
set_option linter.unusedSimpArgs false
namespace Go.Proofs.YthjgplgfcbhihaaGreat
open Go.RowKit Go Go.Sort Go.Lib
theorem slc_take {w : World} {size n cap k : Nat} {A : Option Addr} {cs : List Value} (h : Slc w size (.slice A n cap) n cs) (hk : k ≤ n) : Slc w size (.slice A k cap) k (cs.take (k * size)) := by
  obtain ⟨A', cap', e, h1, h2, h3, h4⟩ := h
  injection e with e1 e2 e3
  subst e1 e3
  have hm : k * size ≤ n * size := Nat.mul_le_mul_right _ hk
  refine ⟨A, cap, rfl, by rw [List.length_take, h1]; omega, by omega, h3, fun hn => ?_⟩
  obtain ⟨b, off, rfl, hb, hc⟩ := h4 (by omega)
  refine ⟨b, off, rfl, hb, fun j hj => ?_⟩
  rw [List.length_take] at hj
  rw [hc j (by omega), List.getElem?_take, if_pos (by omega)]
theorem slc_drop {w : World} {n cap k b off : Nat} {cs : List Value} (h : Slc w 1 (.slice (some ⟨b, off, none⟩) n cap) n cs) (hk : k ≤ n) : Slc w 1 (.slice (if cap = k then some ⟨b, off, none⟩ else some ⟨b, off + k, none⟩) (n - k) (cap - k)) (n - k) (cs.drop k) := by
  obtain ⟨A', cap', e, h1, h2, h3, h4⟩ := h
  injection e with e1 e2 e3
  subst e1 e3
  refine ⟨_, cap - k, rfl, by rw [List.length_drop, h1]; omega, by omega, by omega, fun hn => ?_⟩
  obtain ⟨b', off', e, hb, hc⟩ := h4 (by omega)
  cases e
  refine ⟨b, off + k, by rw [if_neg (by omega)], hb, fun j hj => ?_⟩
  rw [List.length_drop] at hj
  rw [Nat.add_assoc, hc (k + j) (by omega), List.getElem?_drop]
section
variable {a w : World} {rb : Nat} {vw vl : Value} {r : RG}
theorem hasR_who (hh : HasR a w (hRr rb vw vl) rb r) (hR : RAt w rb vw vl r) {w1 w5 : World} (h1 : Only [] w w1) (hO : Only [] w1 w5) {A : Option Addr} {n c : Nat} {who' : List ByteArray}
    (hown : w5.ownsRow w1.heap.size 9 1 (.slice A n c) n (strs who')) (hn : n = who'.length) : RTo a w (hRr rb vw vl) rb ⟨r.from_, r.buf, r.ret, who', r.l⟩ (w5.setCell ⟨rb, 3, none⟩ (.slice A n c)) := by
  have hne := hR.ne
  have hlt := hR.lt
  have hO' := h1.trans hO
  have O6 : Only [rb] w (w5.setCell ⟨rb, 3, none⟩ (.slice A n c)) := (hO'.of_nil (S := [rb])).setCell (.inl (by simp)) _
  have hfr : ∀ g, (Value.slice A n c).ownBlock = some g → w.heap.size ≤ g := fun g hg => Nat.le_trans h1.size (World.ownsRow.lt hown g hg).1
  have hrb := hR.blk.lt
  subst hn
  refine hasR_of (vw' := .slice A who'.length c) (vl' := vl) hh ⟨(hO'.blk hR.blk (by simp)).set 3 _, ?_, own_only hR.l O6 (fun b hb => by simp; exact hne.2.1 b hb)⟩ (Stepped.of O6 (by simp [hRr]) (fun b hb => ?_))
  · exact own_base (own_only hown ((Only.refl [rb] w5).setCell (.inl (by simp)) _) (fun b hb => by have := hfr b hb; simp; omega)) (Nat.zero_le _)
  · simp only [hRr, List.mem_cons, List.mem_append, Option.mem_toList] at hb ⊢
    rcases hb with rfl | q | q
    · exact .inl (.inl rfl)
    · exact .inr (hfr b q)
    · exact .inl (.inr (.inr q))
theorem hasR_l (hh : HasR a w (hRr rb vw vl) rb r) (hR : RAt w rb vw vl r) {w1 w5 : World} (h1 : Only [] w w1) (hO : Only [] w1 w5) {A : Option Addr} {n c : Nat} {l' : List Item}
    (hown : w5.ownsRow w1.heap.size 79 4 (.slice A n c) n (icells l')) (hn : n = l'.length) : RTo a w (hRr rb vw vl) rb ⟨r.from_, r.buf, r.ret, r.who, l'⟩ (w5.setCell ⟨rb, 4, none⟩ (.slice A n c)) := by
  have hne := hR.ne
  have hlt := hR.lt
  have hO' := h1.trans hO
  have O6 : Only [rb] w (w5.setCell ⟨rb, 4, none⟩ (.slice A n c)) := (hO'.of_nil (S := [rb])).setCell (.inl (by simp)) _
  have hfr : ∀ g, (Value.slice A n c).ownBlock = some g → w.heap.size ≤ g := fun g hg => Nat.le_trans h1.size (World.ownsRow.lt hown g hg).1
  have hrb := hR.blk.lt
  subst hn
  refine hasR_of (vw' := vw) (vl' := .slice A l'.length c) hh ⟨(hO'.blk hR.blk (by simp)).set 4 _, own_only hR.who O6 (fun b hb => by simp; exact hne.1 b hb), ?_⟩ (Stepped.of O6 (by simp [hRr]) (fun b hb => ?_))
  · exact own_base (own_only hown ((Only.refl [rb] w5).setCell (.inl (by simp)) _) (fun b hb => by have := hfr b hb; simp; omega)) (Nat.zero_le _)
  · simp only [hRr, List.mem_cons, List.mem_append, Option.mem_toList] at hb ⊢
    rcases hb with rfl | q | q
    · exact .inl (.inl rfl)
    · exact .inl (.inr (.inl q))
    · exact .inr (hfr b q)
end
section
variable {a w w' : World} {H : List Nat} {rb : Nat} {r : RG}
theorem whoIx_cases (l : List ByteArray) (s : ByteArray) : whoIx l s = -1 ∨ ∃ k : Nat, whoIx l s = k ∧ k < l.length := by
  unfold whoIx
  split
  · exact .inr ⟨_, rfl, by assumption⟩
  · exact .inl rfl
set_option maxRecDepth 100000 in
set_option maxHeartbeats 1000000 in
theorem rleave_who (h : HasR a w H rb r) (s : ByteArray) (hb : r.who.length ≤ 1000000) (hlb : r.l.length ≤ 1000000) (k : Nat) (hk : k < r.who.length) (hix : whoIx r.who s = k) :
    Calls Tryz.prog 32 #[.pointer (some ⟨rb, 0, none⟩), .string s] w fun e w' => e = .returned (.int .i64 (r.leave s).1) ∧ RTo a w H rb (r.leave s).2 w' := by
  have hlv : r.leave s = (0, { (⟨r.from_, r.buf, r.ret, r.who.take k ++ r.who.drop (k + 1), r.l⟩ : RG) with l := r.l.map (leaveI s) }) := by
    unfold RG.leave
    rw [hix, if_neg (by omega)]
    simp
  rw [hlv]
  obtain ⟨R, hRe⟩ : ∃ R : RG, R = ⟨r.from_, r.buf, r.ret, r.who.take k ++ r.who.drop (k + 1), r.l⟩ := ⟨_, rfl⟩
  have hRl : r.l = R.l := by rw [hRe]
  rw [← hRe]
  rw [hRl] at hlb ⊢
  have HRe := Lib.hid hRe
  clear hlv hRe hRl
  have HWho := Lib.hid (rwho_any h s)
  rw [hix] at HWho
  have hh := h
  obtain ⟨⟨vw, vl, hR, rfl⟩, hoa, hab⟩ := h
  obtain ⟨Aw, cw, Al, cl, rfl, rfl, hnw, hcw, hnl, hcl, helw, hell⟩ := hR.open
  unfold maxLen at hcw hcl
  have f0 : w.cell? ⟨rb, 0, none⟩ = some (.int .i64 r.from_) := hR.blk.cell 0
  have f1 : w.cell? ⟨rb, 1, none⟩ = some (.int .i64 r.buf) := hR.blk.cell 1
  have f2 : w.cell? ⟨rb, 2, none⟩ = some (.int .i64 r.ret) := hR.blk.cell 2
  have f3 : w.cell? ⟨rb, 3, none⟩ = some (.slice Aw r.who.length cw) := hR.blk.cell 3
  have f4 : w.cell? ⟨rb, 4, none⟩ = some (.slice Al r.l.length cl) := hR.blk.cell 4
  have hrb := hR.blk.lt
  have HW := Lib.hid helw
  have HL := Lib.hid hell
  clear helw hell
  obtain ⟨b, off, rfl, hbl, hcell⟩ := HW.out k hk
  clear hcell
  have hadd := IntWalk.i64_in ((k : Int) + 1) ⟨by omega, by omega⟩
  obtain ⟨A2, hA2⟩ : ∃ A2, (if cw = k + 1 then some (⟨b, off, none⟩ : Addr) else some ⟨b, off + (k + 1), none⟩) = A2 := ⟨_, rfl⟩
  go_enter Tryz.func32, Tryz.ntmps32
  go_wp2_with fail
  refine HWho.out.mono ?_
  rintro e w1 ⟨rfl, h1⟩
  have g3 := Within.cell (S := []) ((h1.cell hrb (by simp)).trans f3) (by simp)
  go_wp2_with fail
  refine wp_region_in [] [0, 1, 2, 3, 4, 5, 6, 8, 9, 10, 11, 12, 13, 14] [7, 15] [16, 17, 18] (by kernel_rfl) (by kernel_rfl) (by intro c d u a w h; cases d <;> exact h) ?_
  show wpQuiet _ _ _ _ [_, _, _, _, _, _, _, _, _, _, _, _, _, _] _
  repeat (go_big_quiet_step (fail))
  refine wpQuiet_nil ?_
  have hsl := (Slc.of_own hR.who).1.only0 (h1.drew)
  have hsl1 : Slc w1.drew 1 (.slice (some ⟨b, off, none⟩) k cw) k (strs (r.who.take k)) := by
    have := slc_take hsl (Nat.le_of_lt hk)
    rwa [Nat.mul_one, show (strs r.who).take k = strs (r.who.take k) by simp [strs]] at this
  have hsl2 : Slc w1.drew 1 (.slice A2 (r.who.length - (k + 1)) (cw - (k + 1))) (r.who.length - (k + 1)) (strs (r.who.drop (k + 1))) := by
    have := slc_drop hsl (show k + 1 ≤ r.who.length by omega)
    rwa [hA2, show (strs r.who).drop (k + 1) = strs (r.who.drop (k + 1)) by simp [strs]] at this
  have hO1 := h1.drew
  obtain ⟨A4, c4, w4, hr4, hown4, hO4, _⟩ := run_app (P := Tryz.prog) 61 61 w1.heap.size 9 (.string ⟨#[]⟩) 1 16 Tryz.underlying61 infoS rfl (by decide) (World.ownsRow_nil w1.drew w1.heap.size 9 1) hsl1 (strs_one _) (by omega) (by unfold maxLen; omega) (Nat.le_refl _)
  simp only [Nat.zero_add, List.nil_append] at hr4 hown4
  have hO4' : Only [] w1.drew w4 := by simpa [Value.ownBlock] using hO4
  have hO14 := hO1.trans hO4'
  obtain ⟨A5, c5, w5, hr5, hown5, hO5, _⟩ := run_app (P := Tryz.prog) 61 61 w1.heap.size 9 (.string ⟨#[]⟩) 1 16 Tryz.underlying61 infoS rfl (by decide) hown4 (hsl2.only0 hO4') (strs_one _) (by omega) (by unfold maxLen; omega) hO4'.size
  have hO15' : Only [] w1 w5 := ((Only.refl [] w1).drew.trans hO4').step hO5 (fun g hg => .inr (World.ownsRow.lt hown4 g (by simpa using hg)).1)
  have hO5' : Only [] w w5 := h1.trans hO15'
  have HR4 := Lib.hid hr4
  have HR5 := Lib.hid hr5
  clear hr4 hr5 hsl hsl1 hsl2 hO4 hO5
  show wpList _ _ _ [_] _ _
  go_wp2_with (at_builtin; refine Lib.wpList_append_run _ rfl (.const (.slice none 0 0)) (.tmp 19) 61 61 rfl _ _ rfl rfl _ _ HR4.out ?_)
  refine check_of (S := []) ((Only.refl [] _).drew.trans hO4') ?_
  show wpList _ _ _ [_] _ _
  go_wp2_with (at_builtin; refine Lib.wpList_append_run _ rfl (.tmp 20) (.tmp 27) 61 61 rfl _ _ rfl rfl _ _ HR5.out ?_)
  refine check_of (S := []) hO15' ?_
  show wpList _ _ _ [_, _, _] _ _
  have hRb5 := hO5'.blk hR.blk (by simp)
  have f3 : w5.cell? ⟨rb, 3, none⟩ = some (.slice (some ⟨b, off, none⟩) r.who.length cw) := hRb5.cell 3
  have fb : w5.frozen? ⟨rb, 3, none⟩ = false := hRb5.free 3
  have hto := hasR_who hh hR h1 hO15' (who' := r.who.take k ++ r.who.drop (k + 1)) (by rw [show strs (r.who.take k ++ r.who.drop (k + 1)) = strs (r.who.take k) ++ strs (r.who.drop (k + 1)) by simp [strs]]; exact hown5) (by simp; omega)
  rw [← HRe.out] at hto
  have HTo := Lib.hid hto
  clear hto hRb5 hown4 hown5 hO5' hO15' hO14 hO1 hO4' HR4 HR5 hR hh hab f0 f1 f2 f4 HL HW hA2 hix HRe
  go_wp2_with fail
  obtain ⟨H6, hR6, hK6⟩ := HTo.out
  go_loopw [6] (fun iv wr => ∃ j : Nat, j ≤ R.l.length ∧ iv = .int .i64 j ∧ RTo a w (hRr rb (.slice (some ⟨b, off, none⟩) r.who.length cw) (.slice Al r.l.length cl)) rb (tn R (leaveI s) j) wr) (fun iv _ => R.l.length - (intOf iv).toNat)
  case atStart => exact ⟨0, Nat.zero_le _, rfl, by rw [tn_zero]; exact HTo.out⟩
  case round =>
    clear hR6 hK6 HTo
    obtain ⟨j, hj, rfl, Hr, hR, hK⟩ := hrel
    obtain ⟨H, hH⟩ : ∃ H, H = hRr rb (.slice (some ⟨b, off, none⟩) r.who.length cw) (.slice Al r.l.length cl) := ⟨_, rfl⟩
    rw [← hH] at hK
    rw [← hH]
    have hb := hlb
    by_cases hlt : j < R.l.length
    · have HSet := Lib.hid (fun (W : World) (hW : Only [] wr W) (y : Item) (e : y = (leaveI s) R.l[j]) => (rset_any (hR.keep0 hW) j (by rw [tn_len]; exact hlt) (by rw [tn_len]; exact hb) y).mono fun e w' (q : _ ∧ _) => (show e = .returned (.tuple #[]) ∧ RTo a w H rb (tn R (leaveI s) (j + 1)) w' from ⟨q.1, by rw [← tn_set R (leaveI s) j hlt y (by assumption)]; exact RTo.after hK hW q.2⟩))
      have hsm := fun (W : World) (hW : Only [] wr W) (e : (leaveI s) R.l[j] = R.l[j]) => (show RTo a w H rb (tn R (leaveI s) (j + 1)) W from by rw [← tn_same R (leaveI s) j hlt e]; exact ⟨Hr, hR.keep0 hW, hK.then0 hW⟩)
      obtain ⟨b, off, cl, hIt⟩ := hR.item j (by rw [tn_len]; exact hlt)
      rw [tn_get R (leaveI s) j hlt, tn_len] at hIt
      obtain ⟨x, hx⟩ : ∃ x, x = R.l[j] := ⟨_, rfl⟩
      rw [← hx] at HSet hsm hIt
      have HSm := Lib.hid hsm
      obtain ⟨f4, hle, hcap, c0, c1, c2, c3⟩ := hIt
      clear hsm
      clear hx
      by_cases k1 : x.st = 2
      · by_cases k2 : x.own = s
        · have hto := Lib.hid (fun W hW => HSet.out W hW ⟨x.n, 1, x.tries, ⟨#[]⟩⟩ (by simp [leaveI, k1, k2, emptyB]))
          have b2 := eqB_t k2
          clear HSet HSm k2
          rw [k1] at c1
          go_wp2_with (go_at_call 88; refine (hto.out _ ((Only.refl _ _).alloc _)).mono ?_; rintro e w2 ⟨rfl, h2⟩)
          exact ⟨⟨j + 1, hlt, by simp, h2⟩, by simp [intOf]; omega⟩
        · have h2 := HSm.out _ ((Only.refl _ _).alloc (.cells #[.int .i64 x.n, .int .i64 2, .int .i64 x.tries, .string x.own] 79)) (by simp [leaveI, k2])
          have H2 := Lib.hid h2
          have b2 := eqB_f k2
          clear HSet HSm h2 k2
          rw [k1] at c1
          go_wp2
          exact ⟨⟨j + 1, hlt, by simp, H2.out⟩, by simp [intOf]; omega⟩
      · have h2 := HSm.out _ ((Only.refl _ _).alloc (.cells #[.int .i64 x.n, .int .i64 x.st, .int .i64 x.tries, .string x.own] 79)) (by simp [leaveI, k1])
        have H2 := Lib.hid h2
        have b1 : (x.st == 2) = false := by rw [beq_eq_false_iff_ne]; exact k1
        clear HSet HSm h2 k1
        go_wp2
        exact ⟨⟨j + 1, hlt, by simp, H2.out⟩, by simp [intOf]; omega⟩
    · obtain ⟨A, cl2, f4, hle, hcap⟩ := hR.len
      rw [tn_len] at f4 hle
      have hjl : j = R.l.length := by omega
      have h2 : RTo a w H rb { R with l := R.l.map (leaveI s) } wr := by rw [hjl, tn_end] at hR; exact ⟨Hr, hR, hK⟩
      have HF := Lib.hid h2
      clear h2 hjl hR hK
      subst hH
      go_wp2
      go_ret
      exact ⟨rfl, HF.out⟩
set_option maxRecDepth 100000 in
theorem rleave_any (h : HasR a w H rb r) (s : ByteArray) (hb : r.who.length ≤ 1000000) (hlb : r.l.length ≤ 1000000) :
    Calls Tryz.prog 32 #[.pointer (some ⟨rb, 0, none⟩), .string s] w fun e w' => e = .returned (.int .i64 (r.leave s).1) ∧ RTo a w H rb (r.leave s).2 w' := by
  rcases whoIx_cases r.who s with hix | ⟨k, hix, hk⟩
  · have HWho := Lib.hid (rwho_any h s)
    rw [hix] at HWho
    have hlv : r.leave s = (8, r) := by
      unfold RG.leave
      rw [hix, if_pos (by decide)]
    rw [hlv]
    have HT := Lib.hid (fun W (hW : Only [] w W) => show RTo a w H rb r W from ⟨H, h.keep0 hW, (Stepped.refl _ _).then0 hW⟩)
    clear hlv hix
    go_enter Tryz.func32, Tryz.ntmps32
    go_wp2_with (go_at_call 87; refine HWho.out.mono ?_; rintro e w1 ⟨rfl, h1⟩)
    go_ret
    exact ⟨rfl, HT.out _ h1⟩
  · exact rleave_who h s hb hlb k hk hix
end
end Go.Proofs.YthjgplgfcbhihaaGreat
/- A region that draws its order, by a plan with a fork: reads; two early ones, in either order; further early ones; the rest. No program is named. -/
set_option linter.unusedVariables false
set_option linter.unusedSimpArgs false
namespace Go.Proofs.YthjgplgfcbhihaaGreat
open Go Go.RowKit Go.Sort
section
variable {P : Program} {md : Region.Mode} {C : World → Prop} {Q : Exit → Act → World → Prop} {l : List Oper}
def forkTo (md : Region.Mode) (ops : Array Oper) (S : Array Bool → Bool) (x y : Nat) (listed : Array Bool) : Bool :=
  (decide (Region.ready md ops listed = [x, y]) || decide (Region.ready md ops listed = [y, x])) && (seqTo md ops S [y] (listed.setIfInBounds x true) && seqTo md ops S [x] (listed.setIfInBounds y true))
theorem plan_fork {H T1 : List Nat} {n : Nat} {S : Array Bool → Bool} {L : Act → World → Prop} (hL : ∀ listed a w, S listed = true → L a w → AnyP P md l.toArray C Q H T1 n listed a w)
    (x y : Nat) (listed : Array Bool) (a : Act) (w : World) (hx : x ∉ H) (hy : y ∉ H) (hs : forkTo md l.toArray S x y listed = true) (h1 : wpT1 P l.toArray C Q (opsAt l [x, y]) L a w) (h2 : wpT1 P l.toArray C Q (opsAt l [y, x]) L a w) :
    AnyP P md l.toArray C Q H T1 (n + 1 + 1) listed a w := by
  simp only [forkTo, Bool.and_eq_true, Bool.or_eq_true, decide_eq_true_eq] at hs
  obtain ⟨hr, s1, s2⟩ := hs
  have hmem : ∀ i, i ∈ Region.ready md l.toArray listed ↔ i = x ∨ i = y := fun i => by
    rcases hr with q | q
    · rw [q]; simp
    · rw [q]; simp [or_comm]
  have step : ∀ u v, u ∉ H → v ∉ H → u ∈ Region.ready md l.toArray listed → seqTo md l.toArray S [v] (listed.setIfInBounds u true) = true → wpT1 P l.toArray C Q (opsAt l [u, v]) L a w →
      (u ∈ H ∧ ∃ o v', l.toArray[u]? = some o ∧ YieldsS P l.toArray C o v' a ∧ AnyP P md l.toArray C Q H T1 (n + 1) (listed.setIfInBounds u true) (a.put o.dst v') w) ∨
      (u ∉ H ∧ wpOp P l.toArray Q u (fun a' w' => (u ∈ T1 → C w') ∧ AnyP P md l.toArray C Q H T1 (n + 1) (listed.setIfInBounds u true) a' w') a w) := by
    intro u v hu hv hmu hs hh
    obtain ⟨_, o, ho, _⟩ := mem_ready.1 hmu
    have ho' : l[u]? = some o := by simpa using ho
    rw [opsAt_cons ho'] at hh
    refine .inr ⟨hu, ?_⟩
    have hw := wpOp_check (i := u) (by simpa using ho') hh
    refine wpOp_mono (fun a' w' h' => ⟨fun _ => h'.1, ?_⟩) hw
    have := plan_A (H := H) (T1 := T1) hL [v] (listed.setIfInBounds u true) a' w' (by simpa using hv) hs h'.2
    rwa [List.length_singleton, Nat.add_comm] at this
  refine ⟨fun q => by (rcases hr with r | r <;> rw [r] at q <;> cases q), fun i hi => ?_⟩
  rcases (hmem i).1 hi with rfl | rfl
  · exact step i y hx hy hi s1 h1
  · exact step i x hy hx hi s2 h2
/-- What the two early ones lead to, in either order; and what follows. -/
def ForkGo (P : Program) (l : List Oper) (C : World → Prop) (Q : Exit → Act → World → Prop) (x y : Nat) (R : Act → World → Prop) (a0 : Act) (w0 : World) : Prop :=
  ∃ M : Act → World → Prop, wpT1 P l.toArray C Q (opsAt l [x, y]) M a0 w0 ∧ wpT1 P l.toArray C Q (opsAt l [y, x]) M a0 w0 ∧ ∀ a w, M a w → R a w
theorem fork_intro {x y : Nat} {R : Act → World → Prop} {a0 : Act} {w0 : World} (M : Act → Act → World → Prop) (h1 : wpT1 P l.toArray C Q (opsAt l [x, y]) (M a0) a0 w0) (h2 : wpT1 P l.toArray C Q (opsAt l [y, x]) (M a0) a0 w0)
    (h3 : ∀ a w, M a0 a w → R a w) : ForkGo P l C Q x y R a0 w0 := ⟨M a0, h1, h2, h3⟩
def planF (md : Region.Mode) (ops : Array Oper) (H : List Nat) (x y : Nat) (T1 T2 : List Nat) : Bool :=
  (Region.noSelect ops && H.all (plainAt ops)) && (((List.range ops.size).all (fun i => H.contains i || ((x :: y :: T1).contains i || T2.contains i)) && ((x :: y :: (T1 ++ T2)).all (fun i => !H.contains i) && T2.all (fun i => !(x :: y :: T1).contains i))) &&
    (decide (H.length + ((T1 ++ T2).length + 1 + 1) = ops.size) && (behindB md ops (H ++ (x :: y :: T1)) T2 && headTo md ops (forkTo md ops (seqL md ops (T1 ++ T2)) x y) H (Array.replicate ops.size false))))
theorem wp_region_fork {id : Nat} {a : Act} {w : World} (S H : List Nat) (x y : Nat) (T1 T2 : List Nat) (hm : P.follows .mixedOrders = true) (hB : planF .any l.toArray H x y T1 T2 = true) (hQ : ∀ c d u a w, Q (.panic c) (Act.put a d u) w → Q (.panic c) a w)
    (h : wpQuiet P l.toArray (fun W => ∃ p : Within S w, W = p.W) (fun a' => ForkGo P l (fun W => ∃ p : Within S w, W = p.W) Q x y (wpT1 P l.toArray (fun W => ∃ p : Within S w, W = p.W) Q (opsAt l T1) (fun a w => wpList P l.toArray Q (opsAt l T2) a w)) a' w.drew) (opsAt l H) a) : (Code.region id l.toArray true).wp P Q a w := by
  simp only [planF, Bool.and_eq_true, decide_eq_true_eq, List.all_eq_true, Bool.or_eq_true, List.contains_iff_mem, Bool.not_eq_true'] at hB
  obtain ⟨⟨hsel, hpl⟩, ⟨hcov, hd1, hd2⟩, hlen, hbe, hhd⟩ := hB
  refine wp_region_any hm ?_
  have inv0 : Closed .any l.toArray (Array.replicate l.toArray.size false) := fun j oj _ hl => by rw [getD_replicate_false] at hl; cases hl
  have hd1' : ∀ t ∈ x :: y :: (T1 ++ T2), t ∉ H := fun t ht q => by
    have := hd1 t ht
    rw [List.contains_eq_mem, decide_eq_true q] at this
    cases this
  have hd2' : ∀ t ∈ T2, t ∉ x :: y :: T1 := fun t ht q => by
    have := hd2 t ht
    rw [List.contains_eq_mem, decide_eq_true q] at this
    cases this
  have h2 : ∀ t ∈ T2, t ∉ H ∧ t ∉ x :: y :: T1 := fun t ht => ⟨hd1' t (by simp [ht]), hd2' t ht⟩
  have := plan_Hn (C := fun W => ∃ p : Within S w, W = p.W) (md := .any) (H := H) (T1 := x :: y :: T1) (S := forkTo .any l.toArray (seqL .any l.toArray (T1 ++ T2)) x y) hsel hQ
    (fun listed a hs hl => by
      obtain ⟨M, m1, m2, m3⟩ := hl
      exact plan_fork (S := seqL .any l.toArray (T1 ++ T2)) (L := M) (fun listed a w hs hM => plan_T1 h2 T1 listed a w (fun t ht => hd1' t (by simp [ht])) hs (m3 a w hM)) x y listed a w.drew (hd1' x (by simp)) (hd1' y (by simp)) hs m1 m2) H _ a (fun h hh => ⟨hh, hpl h hh⟩) hhd h
  rw [hlen] at this
  exact anyP_anyZ hbe (fun x hx => by simp [hx]) (fun i hi => by
    rcases hcov i (List.mem_range.2 hi) with q | q | q
    · exact .inl q
    · exact .inr (.inl q)
    · exact .inr (.inr q)) _ _ _ _ inv0 (.inl ⟨⟨_, (Only.refl S w).drew⟩, rfl⟩) this
end
end Go.Proofs.YthjgplgfcbhihaaGreat
/- The document's group: Join. -/
set_option linter.unusedVariables false
set_option linter.unusedSimpArgs false
namespace Go.Proofs.YthjgplgfcbhihaaGreat
open Go.RowKit Go Go.Sort Go.Lib
section
variable {a w w' : World} {H : List Nat} {rb : Nat} {r : RG}
set_option maxRecDepth 100000 in
set_option maxHeartbeats 500000 in
theorem rjoin_some (h : HasR a w H rb r) (s : ByteArray) (h1 : 1 ≤ s.size) (h2 : s.size ≤ 60) (hix : whoIx r.who s = -1) (hfew : r.who.length < 20) (hsm : ∀ vw vl, RAt w rb vw vl r → H = hRr rb vw vl → vw ≠ .slice none 0 0) :
    Calls Tryz.prog 30 #[.pointer (some ⟨rb, 0, none⟩), .string s] w fun e w' => e = .returned (.int .i64 0) ∧ RTo a w H rb { r with who := r.put s } w' := by
  have HWho := Lib.hid (rwho_any h s)
  rw [hix] at HWho
  have hh := h
  obtain ⟨⟨vw, vl, hR, rfl⟩, hoa, hab⟩ := h
  obtain ⟨Aw, cw, Al, cl, rfl, hvl, hnw, hcw, hnl, hcl, helw, hell⟩ := hR.open
  clear hell hvl Al hnl hcl cl
  unfold maxLen at hcw
  have f3 : w.cell? ⟨rb, 3, none⟩ = some (.slice Aw r.who.length cw) := hR.blk.cell 3
  have hrb := hR.blk.lt
  have hns := hsm _ _ hR rfl
  obtain ⟨b, off, hAw⟩ : ∃ b off, Aw = some ⟨b, off, none⟩ := by
    rcases hR.who.2 with ⟨e, _⟩ | ⟨g, cap, cur, e, _⟩
    · exact absurd e hns
    · injection e with e1 _ _
      exact ⟨g, 0, e1⟩
  clear hns hsm
  have HW := Lib.hid helw
  clear helw hix
  have h1' : ¬ (s.size : Int) < 1 := by omega
  have h2' : ¬ (60 : Int) < s.size := by omega
  go_enter Tryz.func30, Tryz.ntmps30
  go_wp2_with (go_at_call 87; refine HWho.out.mono ?_; rintro e w1 ⟨rfl, k1⟩; have g3 : w1.cell? ⟨rb, 3, none⟩ = some (.slice Aw r.who.length cw) := (k1.cell hrb (by simp)).trans f3)
  go_loopw [5] (fun iv wr => ∃ j : Nat, j ≤ r.who.length ∧ iv = .int .i64 j ∧ Only [] w wr ∧ Hid (∀ k (hk : k < j) (hl : k < r.who.length), (!bytesLt r.who[k] s) = false)) (fun iv _ => r.who.length - (intOf iv).toNat)
  case atStart => exact ⟨0, Nat.zero_le _, rfl, k1, fun k hk => absurd hk (Nat.not_lt_zero _)⟩
  case round =>
    clear g3 k1
    obtain ⟨j, hj, rfl, hO, hs⟩ := hrel
    have g3 : wr.cell? ⟨rb, 3, none⟩ = some (.slice Aw r.who.length cw) := (hO.cell hrb (by simp)).trans f3
    by_cases hlt : j < r.who.length
    · obtain ⟨b', off', hAw', hb, hcell⟩ := HW.out j hlt
      rw [hAw] at hAw'
      cases hAw'
      obtain ⟨x, hx⟩ : ∃ x, x = r.who[j] := ⟨_, rfl⟩
      rw [← hx] at hcell
      have c0 : wr.cell? ⟨b, off + j, none⟩ = some (.string x) := (hO.cell hb (by simp)).trans hcell
      cases hc : Op.bytesLess x.toList s.toList with
      | true =>
        have hs2 : Hid (∀ k (hk : k < j + 1) (hl : k < r.who.length), (!bytesLt r.who[k] s) = false) := fun k hk hl => by
          by_cases e : k = j
          · subst e
            rw [← hx]
            simp [bytesLt, hc]
          · exact hs.out k (by omega) hl
        clear hcell hx hs
        subst hAw
        go_wp2
        exact ⟨⟨j + 1, hlt, by simp, hO, hs2⟩, by simp [intOf]; omega⟩
      | false =>
        have HFin := Lib.hid (findIdx_hit (p := fun x => !bytesLt x s) hlt hs.out (by rw [← hx]; simp [bytesLt, hc]))
        have hcj : ¬ cw = j := by omega
        clear hcell hx hs
        subst hAw
        have d3 := Within.cell (S := []) g3 (by simp)
        have hRbr := hO.blk hR.blk (by simp)
        have hsl := (Slc.of_own hR.who).1.only0 hO
        have hsl1 : Slc wr 1 (.slice (some ⟨b, off, none⟩) j cw) j (strs (r.who.take j)) := by
          have := slc_take hsl hj
          rwa [Nat.mul_one, show (strs r.who).take j = strs (r.who.take j) by simp [strs]] at this
        have hsl2 : Slc wr 1 (.slice (some ⟨b, off + j, none⟩) (r.who.length - j) (cw - j)) (r.who.length - j) (strs (r.who.drop j)) := by
          have := slc_drop hsl hj
          rwa [if_neg hcj, show (strs r.who).drop j = strs (r.who.drop j) by simp [strs]] at this
        have HTo := Lib.hid (fun (W : World) (A : Option Addr) (c : Nat) (hO1 : Only [] wr W) (hown : W.ownsRow wr.heap.size 9 1 (.slice A (j + 1 + (r.who.length - j)) c) (j + 1 + (r.who.length - j)) (strs (r.who.take j) ++ [.string s] ++ strs (r.who.drop j))) =>
          show RTo a w (hRr rb (.slice (some ⟨b, off, none⟩) r.who.length cw) vl) rb { r with who := r.put s } (W.setCell ⟨rb, 3, none⟩ (.slice A (j + 1 + (r.who.length - j)) c)) from
            hasR_who hh hR hO hO1 (who' := r.put s) (by rw [show strs (r.put s) = strs (r.who.take j) ++ [.string s] ++ strs (r.who.drop j) by simp [RG.put, HFin.out, strs]]; exact hown) (by simp [RG.put, HFin.out]; omega))
        have HApp := Lib.hid (fun (W : World) (hW : Only [] wr W) => run_app (P := Tryz.prog) 61 61 wr.heap.size 9 (.string ⟨#[]⟩) 1 16 Tryz.underlying61 infoS rfl (by decide) (World.ownsRow_nil W wr.heap.size 9 1) (hsl1.only0 hW) (strs_one _) (by omega) (by unfold maxLen; omega) hW.size)
        have HSl2 := Lib.hid hsl2
        have HBr := Lib.hid hRbr
        clear hsl hsl1 hsl2 hRbr hR hh hab hoa
        go_wp2_with fail
        refine wp_region_fork [] [0, 1, 2, 3, 4, 5, 6, 8, 11, 12, 13, 14, 15, 16] 7 9 [10, 17] [18, 19, 20] (by kernel_rfl) (by kernel_rfl) (by intro c d u a w h; cases d <;> exact h) ?_
        show wpQuiet _ _ _ _ [_, _, _, _, _, _, _, _, _, _, _, _, _, _] _
        repeat (go_big_quiet_step (fail))
        refine wpQuiet_nil ?_
        clear d3
        refine fork_intro (fun a0 a1 W => ∃ (A4 : Option Addr) (c4 g : Nat), a1 = (a0.put (some 51) (.slice A4 j c4)).put (some 53) (.slice (some ⟨g, 0, none⟩) 1 1) ∧ Only [] wr W ∧ W.ownsRow wr.heap.size 9 1 (.slice A4 j c4) j (strs (r.who.take j)) ∧ Slc W 1 (.slice (some ⟨g, 0, none⟩) 1 1) 1 [.string s]) ?_ ?_ ?_
        · obtain ⟨A4, c4, w4, hr4, hown4, hO4, _⟩ := HApp.out wr.drew (Only.refl _ _).drew
          simp only [Nat.zero_add, List.nil_append] at hr4 hown4
          have hO4' : Only [] wr.drew w4 := by simpa [Value.ownBlock] using hO4
          have HR4 := Lib.hid hr4
          clear hr4 hO4
          show wpList _ _ _ [_] _ _
          go_wp2_with (at_builtin; refine Lib.wpList_append_run _ rfl (.const (.slice none 0 0)) (.tmp 50) 61 61 rfl _ _ rfl rfl _ _ HR4.out ?_)
          refine check_of (S := []) ((Only.refl [] _).drew.trans hO4') ?_
          show wpList _ _ _ [_] _ _
          go_wp2
          exact check_of (S := []) (((Only.refl [] _).drew.trans hO4').alloc _) ⟨A4, c4, w4.heap.size, rfl, ((Only.refl [] _).drew.trans hO4').alloc _, hown4.alloc _, slc_new1 rfl⟩
        · obtain ⟨A4, c4, w4, hr4, hown4, hO4, _⟩ := HApp.out (wr.drew.alloc (.cells #[.string s] 9)) ((Only.refl _ _).drew.alloc _)
          simp only [Nat.zero_add, List.nil_append] at hr4 hown4
          have hO4' : Only [] (wr.drew.alloc (.cells #[.string s] 9)) w4 := by simpa [Value.ownBlock] using hO4
          have HR4 := Lib.hid hr4
          clear hr4 hO4
          show wpList _ _ _ [_] _ _
          go_wp2
          refine check_of (S := []) ((Only.refl [] _).drew.alloc _) ?_
          show wpList _ _ _ [_] _ _
          go_wp2_with (at_builtin; refine Lib.wpList_append_run _ rfl (.const (.slice none 0 0)) (.tmp 50) 61 61 rfl _ _ rfl rfl _ _ HR4.out ?_)
          exact check_of (S := []) (((Only.refl [] _).drew.alloc _).trans hO4') ⟨A4, c4, wr.drew.heap.size, rfl, ((Only.refl [] _).drew.alloc _).trans hO4', hown4, (slc_new1 (cs := [.string s]) rfl).only0 hO4'⟩
        · rintro _ W ⟨A4, c4, g, rfl, hW, hown4, hs1⟩
          obtain ⟨A5, c5, w5, hr5, hown5, hO5, _⟩ := run_app (P := Tryz.prog) 61 61 wr.heap.size 9 (.string ⟨#[]⟩) 1 16 Tryz.underlying61 infoS rfl (by decide) hown4 hs1 (by simp [Value.oneCell']) (by omega) (by unfold maxLen; omega) hW.size
          have k5 : Only [] wr w5 := hW.step hO5 (fun g hg => .inr (World.ownsRow.lt hown4 g (by simpa using hg)).1)
          obtain ⟨A6, c6, w6, hr6, hown6, hO6, _⟩ := run_app (P := Tryz.prog) 61 61 wr.heap.size 9 (.string ⟨#[]⟩) 1 16 Tryz.underlying61 infoS rfl (by decide) hown5 (HSl2.out.only0 k5) (strs_one _) (by omega) (by unfold maxLen; omega) k5.size
          have k6 : Only [] wr w6 := k5.step hO6 (fun g hg => .inr (World.ownsRow.lt hown5 g (by simpa using hg)).1)
          have hto := HTo.out w6 A6 c6 k6 hown6
          have hb6 := k6.blk HBr.out (by simp)
          have f3 : w6.cell? ⟨rb, 3, none⟩ = some (.slice (some ⟨b, off, none⟩) r.who.length cw) := hb6.cell 3
          have fb : w6.frozen? ⟨rb, 3, none⟩ = false := hb6.free 3
          have HR5 := Lib.hid hr5
          have HR6 := Lib.hid hr6
          have HT := Lib.hid hto
          clear hr5 hr6 hto hown4 hown5 hown6 hO5 hO6 hs1 hb6
          show wpList _ _ _ [_] _ _
          go_frame
          go_wp2_with (at_builtin; refine Lib.wpList_append_run _ rfl (.tmp 51) (.tmp 53) 61 61 rfl _ _ rfl rfl _ _ HR5.out ?_)
          refine check_of (S := []) k5 ?_
          show wpList _ _ _ [_] _ _
          go_wp2_with (at_builtin; refine Lib.wpList_append_run _ rfl (.tmp 54) (.tmp 60) 61 61 rfl _ _ rfl rfl _ _ HR6.out ?_)
          refine check_of (S := []) k6 ?_
          show wpList _ _ _ [_, _, _] _ _
          go_wp2
          go_ret
          exact ⟨rfl, HT.out⟩
    · have hjl : j = r.who.length := by omega
      have HFin := Lib.hid (show r.who.findIdx (fun x => !bytesLt x s) = j by rw [hjl]; exact findIdx_end (p := fun x => !bytesLt x s) (fun k hl => hs.out k (by omega) hl))
      clear hs hjl
      subst hAw
      by_cases hcj : cw = j
      · have d3 := Within.cell (S := []) g3 (by simp)
        have hRbr := hO.blk hR.blk (by simp)
        have hsl := (Slc.of_own hR.who).1.only0 hO
        have hsl1 : Slc wr 1 (.slice (some ⟨b, off, none⟩) j cw) j (strs (r.who.take j)) := by
          have := slc_take hsl hj
          rwa [Nat.mul_one, show (strs r.who).take j = strs (r.who.take j) by simp [strs]] at this
        have hsl2 : Slc wr 1 (.slice (some ⟨b, off, none⟩) (r.who.length - j) (cw - j)) (r.who.length - j) (strs (r.who.drop j)) := by
          have := slc_drop hsl hj
          rwa [if_pos hcj, show (strs r.who).drop j = strs (r.who.drop j) by simp [strs]] at this
        have HTo := Lib.hid (fun (W : World) (A : Option Addr) (c : Nat) (hO1 : Only [] wr W) (hown : W.ownsRow wr.heap.size 9 1 (.slice A (j + 1 + (r.who.length - j)) c) (j + 1 + (r.who.length - j)) (strs (r.who.take j) ++ [.string s] ++ strs (r.who.drop j))) =>
          show RTo a w (hRr rb (.slice (some ⟨b, off, none⟩) r.who.length cw) vl) rb { r with who := r.put s } (W.setCell ⟨rb, 3, none⟩ (.slice A (j + 1 + (r.who.length - j)) c)) from
            hasR_who hh hR hO hO1 (who' := r.put s) (by rw [show strs (r.put s) = strs (r.who.take j) ++ [.string s] ++ strs (r.who.drop j) by simp [RG.put, HFin.out, strs]]; exact hown) (by simp [RG.put, HFin.out]; omega))
        have HApp := Lib.hid (fun (W : World) (hW : Only [] wr W) => run_app (P := Tryz.prog) 61 61 wr.heap.size 9 (.string ⟨#[]⟩) 1 16 Tryz.underlying61 infoS rfl (by decide) (World.ownsRow_nil W wr.heap.size 9 1) (hsl1.only0 hW) (strs_one _) (by omega) (by unfold maxLen; omega) hW.size)
        have HSl2 := Lib.hid hsl2
        have HBr := Lib.hid hRbr
        clear hsl hsl1 hsl2 hRbr hR hh hab hoa
        go_wp2_with fail
        refine wp_region_fork [] [0, 1, 2, 3, 4, 5, 6, 8, 11, 12, 13, 14, 15, 16] 7 9 [10, 17] [18, 19, 20] (by kernel_rfl) (by kernel_rfl) (by intro c d u a w h; cases d <;> exact h) ?_
        show wpQuiet _ _ _ _ [_, _, _, _, _, _, _, _, _, _, _, _, _, _] _
        repeat (go_big_quiet_step (fail))
        refine wpQuiet_nil ?_
        clear d3
        refine fork_intro (fun a0 a1 W => ∃ (A4 : Option Addr) (c4 g : Nat), a1 = (a0.put (some 51) (.slice A4 j c4)).put (some 53) (.slice (some ⟨g, 0, none⟩) 1 1) ∧ Only [] wr W ∧ W.ownsRow wr.heap.size 9 1 (.slice A4 j c4) j (strs (r.who.take j)) ∧ Slc W 1 (.slice (some ⟨g, 0, none⟩) 1 1) 1 [.string s]) ?_ ?_ ?_
        · obtain ⟨A4, c4, w4, hr4, hown4, hO4, _⟩ := HApp.out wr.drew (Only.refl _ _).drew
          simp only [Nat.zero_add, List.nil_append] at hr4 hown4
          have hO4' : Only [] wr.drew w4 := by simpa [Value.ownBlock] using hO4
          have HR4 := Lib.hid hr4
          clear hr4 hO4
          show wpList _ _ _ [_] _ _
          go_wp2_with (at_builtin; refine Lib.wpList_append_run _ rfl (.const (.slice none 0 0)) (.tmp 50) 61 61 rfl _ _ rfl rfl _ _ HR4.out ?_)
          refine check_of (S := []) ((Only.refl [] _).drew.trans hO4') ?_
          show wpList _ _ _ [_] _ _
          go_wp2
          exact check_of (S := []) (((Only.refl [] _).drew.trans hO4').alloc _) ⟨A4, c4, w4.heap.size, rfl, ((Only.refl [] _).drew.trans hO4').alloc _, hown4.alloc _, slc_new1 rfl⟩
        · obtain ⟨A4, c4, w4, hr4, hown4, hO4, _⟩ := HApp.out (wr.drew.alloc (.cells #[.string s] 9)) ((Only.refl _ _).drew.alloc _)
          simp only [Nat.zero_add, List.nil_append] at hr4 hown4
          have hO4' : Only [] (wr.drew.alloc (.cells #[.string s] 9)) w4 := by simpa [Value.ownBlock] using hO4
          have HR4 := Lib.hid hr4
          clear hr4 hO4
          show wpList _ _ _ [_] _ _
          go_wp2
          refine check_of (S := []) ((Only.refl [] _).drew.alloc _) ?_
          show wpList _ _ _ [_] _ _
          go_wp2_with (at_builtin; refine Lib.wpList_append_run _ rfl (.const (.slice none 0 0)) (.tmp 50) 61 61 rfl _ _ rfl rfl _ _ HR4.out ?_)
          exact check_of (S := []) (((Only.refl [] _).drew.alloc _).trans hO4') ⟨A4, c4, wr.drew.heap.size, rfl, ((Only.refl [] _).drew.alloc _).trans hO4', hown4, (slc_new1 (cs := [.string s]) rfl).only0 hO4'⟩
        · rintro _ W ⟨A4, c4, g, rfl, hW, hown4, hs1⟩
          obtain ⟨A5, c5, w5, hr5, hown5, hO5, _⟩ := run_app (P := Tryz.prog) 61 61 wr.heap.size 9 (.string ⟨#[]⟩) 1 16 Tryz.underlying61 infoS rfl (by decide) hown4 hs1 (by simp [Value.oneCell']) (by omega) (by unfold maxLen; omega) hW.size
          have k5 : Only [] wr w5 := hW.step hO5 (fun g hg => .inr (World.ownsRow.lt hown4 g (by simpa using hg)).1)
          obtain ⟨A6, c6, w6, hr6, hown6, hO6, _⟩ := run_app (P := Tryz.prog) 61 61 wr.heap.size 9 (.string ⟨#[]⟩) 1 16 Tryz.underlying61 infoS rfl (by decide) hown5 (HSl2.out.only0 k5) (strs_one _) (by omega) (by unfold maxLen; omega) k5.size
          have k6 : Only [] wr w6 := k5.step hO6 (fun g hg => .inr (World.ownsRow.lt hown5 g (by simpa using hg)).1)
          have hto := HTo.out w6 A6 c6 k6 hown6
          have hb6 := k6.blk HBr.out (by simp)
          have f3 : w6.cell? ⟨rb, 3, none⟩ = some (.slice (some ⟨b, off, none⟩) r.who.length cw) := hb6.cell 3
          have fb : w6.frozen? ⟨rb, 3, none⟩ = false := hb6.free 3
          have HR5 := Lib.hid hr5
          have HR6 := Lib.hid hr6
          have HT := Lib.hid hto
          clear hr5 hr6 hto hown4 hown5 hown6 hO5 hO6 hs1 hb6
          show wpList _ _ _ [_] _ _
          go_frame
          go_wp2_with (at_builtin; refine Lib.wpList_append_run _ rfl (.tmp 51) (.tmp 53) 61 61 rfl _ _ rfl rfl _ _ HR5.out ?_)
          refine check_of (S := []) k5 ?_
          show wpList _ _ _ [_] _ _
          go_wp2_with (at_builtin; refine Lib.wpList_append_run _ rfl (.tmp 54) (.tmp 60) 61 61 rfl _ _ rfl rfl _ _ HR6.out ?_)
          refine check_of (S := []) k6 ?_
          show wpList _ _ _ [_, _, _] _ _
          go_wp2
          go_ret
          exact ⟨rfl, HT.out⟩
      · have d3 := Within.cell (S := []) g3 (by simp)
        have hRbr := hO.blk hR.blk (by simp)
        have hsl := (Slc.of_own hR.who).1.only0 hO
        have hsl1 : Slc wr 1 (.slice (some ⟨b, off, none⟩) j cw) j (strs (r.who.take j)) := by
          have := slc_take hsl hj
          rwa [Nat.mul_one, show (strs r.who).take j = strs (r.who.take j) by simp [strs]] at this
        have hsl2 : Slc wr 1 (.slice (some ⟨b, off + j, none⟩) (r.who.length - j) (cw - j)) (r.who.length - j) (strs (r.who.drop j)) := by
          have := slc_drop hsl hj
          rwa [if_neg hcj, show (strs r.who).drop j = strs (r.who.drop j) by simp [strs]] at this
        have HTo := Lib.hid (fun (W : World) (A : Option Addr) (c : Nat) (hO1 : Only [] wr W) (hown : W.ownsRow wr.heap.size 9 1 (.slice A (j + 1 + (r.who.length - j)) c) (j + 1 + (r.who.length - j)) (strs (r.who.take j) ++ [.string s] ++ strs (r.who.drop j))) =>
          show RTo a w (hRr rb (.slice (some ⟨b, off, none⟩) r.who.length cw) vl) rb { r with who := r.put s } (W.setCell ⟨rb, 3, none⟩ (.slice A (j + 1 + (r.who.length - j)) c)) from
            hasR_who hh hR hO hO1 (who' := r.put s) (by rw [show strs (r.put s) = strs (r.who.take j) ++ [.string s] ++ strs (r.who.drop j) by simp [RG.put, HFin.out, strs]]; exact hown) (by simp [RG.put, HFin.out]; omega))
        have HApp := Lib.hid (fun (W : World) (hW : Only [] wr W) => run_app (P := Tryz.prog) 61 61 wr.heap.size 9 (.string ⟨#[]⟩) 1 16 Tryz.underlying61 infoS rfl (by decide) (World.ownsRow_nil W wr.heap.size 9 1) (hsl1.only0 hW) (strs_one _) (by omega) (by unfold maxLen; omega) hW.size)
        have HSl2 := Lib.hid hsl2
        have HBr := Lib.hid hRbr
        clear hsl hsl1 hsl2 hRbr hR hh hab hoa
        go_wp2_with fail
        refine wp_region_fork [] [0, 1, 2, 3, 4, 5, 6, 8, 11, 12, 13, 14, 15, 16] 7 9 [10, 17] [18, 19, 20] (by kernel_rfl) (by kernel_rfl) (by intro c d u a w h; cases d <;> exact h) ?_
        show wpQuiet _ _ _ _ [_, _, _, _, _, _, _, _, _, _, _, _, _, _] _
        repeat (go_big_quiet_step (fail))
        refine wpQuiet_nil ?_
        clear d3
        refine fork_intro (fun a0 a1 W => ∃ (A4 : Option Addr) (c4 g : Nat), a1 = (a0.put (some 51) (.slice A4 j c4)).put (some 53) (.slice (some ⟨g, 0, none⟩) 1 1) ∧ Only [] wr W ∧ W.ownsRow wr.heap.size 9 1 (.slice A4 j c4) j (strs (r.who.take j)) ∧ Slc W 1 (.slice (some ⟨g, 0, none⟩) 1 1) 1 [.string s]) ?_ ?_ ?_
        · obtain ⟨A4, c4, w4, hr4, hown4, hO4, _⟩ := HApp.out wr.drew (Only.refl _ _).drew
          simp only [Nat.zero_add, List.nil_append] at hr4 hown4
          have hO4' : Only [] wr.drew w4 := by simpa [Value.ownBlock] using hO4
          have HR4 := Lib.hid hr4
          clear hr4 hO4
          show wpList _ _ _ [_] _ _
          go_wp2_with (at_builtin; refine Lib.wpList_append_run _ rfl (.const (.slice none 0 0)) (.tmp 50) 61 61 rfl _ _ rfl rfl _ _ HR4.out ?_)
          refine check_of (S := []) ((Only.refl [] _).drew.trans hO4') ?_
          show wpList _ _ _ [_] _ _
          go_wp2
          exact check_of (S := []) (((Only.refl [] _).drew.trans hO4').alloc _) ⟨A4, c4, w4.heap.size, rfl, ((Only.refl [] _).drew.trans hO4').alloc _, hown4.alloc _, slc_new1 rfl⟩
        · obtain ⟨A4, c4, w4, hr4, hown4, hO4, _⟩ := HApp.out (wr.drew.alloc (.cells #[.string s] 9)) ((Only.refl _ _).drew.alloc _)
          simp only [Nat.zero_add, List.nil_append] at hr4 hown4
          have hO4' : Only [] (wr.drew.alloc (.cells #[.string s] 9)) w4 := by simpa [Value.ownBlock] using hO4
          have HR4 := Lib.hid hr4
          clear hr4 hO4
          show wpList _ _ _ [_] _ _
          go_wp2
          refine check_of (S := []) ((Only.refl [] _).drew.alloc _) ?_
          show wpList _ _ _ [_] _ _
          go_wp2_with (at_builtin; refine Lib.wpList_append_run _ rfl (.const (.slice none 0 0)) (.tmp 50) 61 61 rfl _ _ rfl rfl _ _ HR4.out ?_)
          exact check_of (S := []) (((Only.refl [] _).drew.alloc _).trans hO4') ⟨A4, c4, wr.drew.heap.size, rfl, ((Only.refl [] _).drew.alloc _).trans hO4', hown4, (slc_new1 (cs := [.string s]) rfl).only0 hO4'⟩
        · rintro _ W ⟨A4, c4, g, rfl, hW, hown4, hs1⟩
          obtain ⟨A5, c5, w5, hr5, hown5, hO5, _⟩ := run_app (P := Tryz.prog) 61 61 wr.heap.size 9 (.string ⟨#[]⟩) 1 16 Tryz.underlying61 infoS rfl (by decide) hown4 hs1 (by simp [Value.oneCell']) (by omega) (by unfold maxLen; omega) hW.size
          have k5 : Only [] wr w5 := hW.step hO5 (fun g hg => .inr (World.ownsRow.lt hown4 g (by simpa using hg)).1)
          obtain ⟨A6, c6, w6, hr6, hown6, hO6, _⟩ := run_app (P := Tryz.prog) 61 61 wr.heap.size 9 (.string ⟨#[]⟩) 1 16 Tryz.underlying61 infoS rfl (by decide) hown5 (HSl2.out.only0 k5) (strs_one _) (by omega) (by unfold maxLen; omega) k5.size
          have k6 : Only [] wr w6 := k5.step hO6 (fun g hg => .inr (World.ownsRow.lt hown5 g (by simpa using hg)).1)
          have hto := HTo.out w6 A6 c6 k6 hown6
          have hb6 := k6.blk HBr.out (by simp)
          have f3 : w6.cell? ⟨rb, 3, none⟩ = some (.slice (some ⟨b, off, none⟩) r.who.length cw) := hb6.cell 3
          have fb : w6.frozen? ⟨rb, 3, none⟩ = false := hb6.free 3
          have HR5 := Lib.hid hr5
          have HR6 := Lib.hid hr6
          have HT := Lib.hid hto
          clear hr5 hr6 hto hown4 hown5 hown6 hO5 hO6 hs1 hb6
          show wpList _ _ _ [_] _ _
          go_frame
          go_wp2_with (at_builtin; refine Lib.wpList_append_run _ rfl (.tmp 51) (.tmp 53) 61 61 rfl _ _ rfl rfl _ _ HR5.out ?_)
          refine check_of (S := []) k5 ?_
          show wpList _ _ _ [_] _ _
          go_wp2_with (at_builtin; refine Lib.wpList_append_run _ rfl (.tmp 54) (.tmp 60) 61 61 rfl _ _ rfl rfl _ _ HR6.out ?_)
          refine check_of (S := []) k6 ?_
          show wpList _ _ _ [_, _, _] _ _
          go_wp2
          go_ret
          exact ⟨rfl, HT.out⟩
theorem strs_nil : strs [] = [] := rfl
set_option maxRecDepth 100000 in
set_option maxHeartbeats 500000 in
theorem rjoin_none (h : HasR a w H rb r) (s : ByteArray) (h1 : 1 ≤ s.size) (h2 : s.size ≤ 60) (hix : whoIx r.who s = -1) {vw vl : Value} (hR : RAt w rb vw vl r) (hH : H = hRr rb vw vl) (hv : vw = .slice none 0 0) :
    Calls Tryz.prog 30 #[.pointer (some ⟨rb, 0, none⟩), .string s] w fun e w' => e = .returned (.int .i64 0) ∧ RTo a w H rb { r with who := r.put s } w' := by
  have HWho := Lib.hid (rwho_any h s)
  rw [hix] at HWho
  subst hH hv
  have hh := h
  have hlen : r.who = [] := by
    obtain ⟨A, c, e, _⟩ := own_form hR.who
    injection e with _ e2 _
    exact List.eq_nil_of_length_eq_zero e2.symm
  have f3 : w.cell? ⟨rb, 3, none⟩ = some (.slice none 0 0) := hR.blk.cell 3
  have hrb := hR.blk.lt
  clear hix h
  have h1' : ¬ (s.size : Int) < 1 := by omega
  have h2' : ¬ (60 : Int) < s.size := by omega
  have hput : r.put s = [s] := by simp [RG.put, hlen]
  have HTo := Lib.hid (fun (w1 W : World) (A : Option Addr) (c : Nat) (hO : Only [] w w1) (hO1 : Only [] w1 W) (hown : W.ownsRow w1.heap.size 9 1 (.slice A (0 + 1) c) (0 + 1) ([] ++ [.string s])) =>
    show RTo a w (hRr rb (.slice none 0 0) vl) rb { r with who := r.put s } (W.setCell ⟨rb, 3, none⟩ (.slice A (0 + 1) c)) from
      hasR_who hh hR hO hO1 (who' := r.put s) (by rw [hput]; exact hown) (by rw [hput]; rfl))
  have HR := Lib.hid hR
  clear hh hput hR
  go_enter Tryz.func30, Tryz.ntmps30
  go_wp2_with (go_at_call 87; refine HWho.out.mono ?_; rintro e wr ⟨rfl, hO⟩; have g3 : wr.cell? ⟨rb, 3, none⟩ = some (.slice none 0 0) := (hO.cell hrb (by simp)).trans f3)
  have hnil : (Builtin.append_ #[61, 61] 61 #[.slice none 0 0, .slice none 0 0]).run Tryz.prog wr.drew = .ok (.slice none 0 0) wr.drew := run_append_zero _ _ 9 _ _ _ 1 0 0 0 Tryz.underlying61 (by kernel_rfl) (Nat.le_refl _)
  go_loopw [5] (fun iv w2 => iv = .int .i64 0 ∧ w2 = wr) (fun iv _ => 0)
  case atStart => exact ⟨rfl, rfl⟩
  case round =>
    obtain ⟨rfl, rfl⟩ := hrel
    clear hnil f3
    have HNil := Lib.hid (fun W : World => run_append_zero (P := Tryz.prog) W 61 9 61 none none 1 0 0 0 Tryz.underlying61 (by kernel_rfl) (Nat.le_refl _))
    have d3 := Within.cell (S := []) g3 (by simp)
    have hb1 := hO.blk HR.out.blk (by simp)
    have HB := Lib.hid hb1
    clear hb1 HR
    go_wp2_with fail
    refine wp_region_fork [] [0, 1, 2, 3, 4, 5, 6, 8, 11, 12, 13, 14, 15, 16] 7 9 [10, 17] [18, 19, 20] (by kernel_rfl) (by kernel_rfl) (by intro c d u a w h; cases d <;> exact h) ?_
    show wpQuiet _ _ _ _ [_, _, _, _, _, _, _, _, _, _, _, _, _, _] _
    repeat (go_big_quiet_step (fail))
    refine wpQuiet_nil ?_
    clear d3
    refine fork_intro (fun a0 a1 W => ∃ (g : Nat), a1 = (a0.put (some 51) (.slice none 0 0)).put (some 53) (.slice (some ⟨g, 0, none⟩) 1 1) ∧ Only [] wr W ∧ Slc W 1 (.slice (some ⟨g, 0, none⟩) 1 1) 1 [.string s]) ?_ ?_ ?_
    · show wpList _ _ _ [_] _ _
      go_wp2_with (at_builtin; refine Lib.wpList_append_run _ rfl (.const (.slice none 0 0)) (.tmp 50) 61 61 rfl _ _ rfl rfl _ _ (HNil.out _) ?_)
      refine check_of (S := []) (Only.refl [] _).drew ?_
      show wpList _ _ _ [_] _ _
      go_wp2
      exact check_of (S := []) ((Only.refl [] _).drew.alloc _) ⟨wr.drew.heap.size, rfl, (Only.refl [] _).drew.alloc _, slc_new1 rfl⟩
    · show wpList _ _ _ [_] _ _
      go_wp2
      refine check_of (S := []) ((Only.refl [] _).drew.alloc _) ?_
      show wpList _ _ _ [_] _ _
      go_wp2_with (at_builtin; refine Lib.wpList_append_run _ rfl (.const (.slice none 0 0)) (.tmp 50) 61 61 rfl _ _ rfl rfl _ _ (HNil.out _) ?_)
      exact check_of (S := []) ((Only.refl [] _).drew.alloc _) ⟨wr.drew.heap.size, rfl, (Only.refl [] _).drew.alloc _, slc_new1 (cs := [.string s]) rfl⟩
    · rintro _ W ⟨g, rfl, hW, hs1⟩
      obtain ⟨A5, c5, w5, hr5, hown5, hO5, _⟩ := run_app (P := Tryz.prog) 61 61 wr.heap.size 9 (.string ⟨#[]⟩) 1 16 Tryz.underlying61 infoS rfl (by decide) (World.ownsRow_nil W wr.heap.size 9 1) hs1 (by simp [Value.oneCell']) (by omega) (by unfold maxLen; omega) hW.size
      have k5 : Only [] wr w5 := hW.trans (by simpa [Value.ownBlock] using hO5)
      have hl5 : 0 + 1 ≤ c5 := by
        obtain ⟨A, c, e, q, _⟩ := own_form hown5
        injection e with _ _ e3
        omega
      have HR6 := Lib.hid (run_append_zero (P := Tryz.prog) w5 61 9 61 A5 none 1 (0 + 1) c5 0 Tryz.underlying61 (by kernel_rfl) hl5)
      have hto := HTo.out wr w5 A5 c5 hO k5 hown5
      have hb6 := k5.blk HB.out (by simp)
      have f3 : w5.cell? ⟨rb, 3, none⟩ = some (.slice none 0 0) := hb6.cell 3
      have fb : w5.frozen? ⟨rb, 3, none⟩ = false := hb6.free 3
      have HR5 := Lib.hid hr5
      have HT := Lib.hid hto
      clear hr5 hto hown5 hO5 hs1 hb6
      show wpList _ _ _ [_] _ _
      go_frame
      go_wp2_with (at_builtin; refine Lib.wpList_append_run _ rfl (.tmp 51) (.tmp 53) 61 61 rfl _ _ rfl rfl _ _ HR5.out ?_)
      refine check_of (S := []) k5 ?_
      show wpList _ _ _ [_] _ _
      go_wp2_with (at_builtin; refine Lib.wpList_append_run _ rfl (.tmp 54) (.tmp 60) 61 61 rfl _ _ rfl rfl _ _ HR6.out ?_)
      refine check_of (S := []) k5 ?_
      show wpList _ _ _ [_, _, _] _ _
      go_wp2
      go_ret
      exact ⟨rfl, HT.out⟩
set_option maxRecDepth 100000 in
set_option maxHeartbeats 500000 in
theorem rjoin_any (h : HasR a w H rb r) (s : ByteArray) (hs : s.size ≤ maxLen) (hb : r.who.length ≤ 1000000) :
    Calls Tryz.prog 30 #[.pointer (some ⟨rb, 0, none⟩), .string s] w fun e w' => e = .returned (.int .i64 (r.join s).1) ∧ RTo a w H rb (r.join s).2 w' := by
  unfold maxLen at hs
  have HT := Lib.hid (fun W (hW : Only [] w W) => show RTo a w H rb r W from ⟨H, h.keep0 hW, (Stepped.refl _ _).then0 hW⟩)
  by_cases h1 : s.size < 1
  · have e : r.join s = (1, r) := by unfold RG.join; rw [if_pos (.inl h1)]
    rw [e]
    have h1' : (s.size : Int) < 1 := by omega
    clear e h
    go_enter Tryz.func30, Tryz.ntmps30
    go_wp2
    go_ret
    exact ⟨rfl, HT.out _ (Only.refl _ _)⟩
  by_cases h2 : 60 < s.size
  · have e : r.join s = (1, r) := by unfold RG.join; rw [if_pos (.inr h2)]
    rw [e]
    have h1' : ¬ (s.size : Int) < 1 := by omega
    have h2' : (60 : Int) < s.size := by omega
    clear e h
    go_enter Tryz.func30, Tryz.ntmps30
    go_wp2
    go_ret
    exact ⟨rfl, HT.out _ (Only.refl _ _)⟩
  have h1' : ¬ (s.size : Int) < 1 := by omega
  have h2' : ¬ (60 : Int) < s.size := by omega
  have e0 : r.join s = if 0 ≤ whoIx r.who s then (9, r) else if 20 ≤ r.who.length then (20, r) else (0, { r with who := r.put s }) := by
    unfold RG.join
    rw [if_neg (by omega)]
  rw [e0]
  have HWho := Lib.hid (rwho_any h s)
  rcases whoIx_cases r.who s with hix | ⟨k, hix, hk⟩
  · rw [if_neg (by rw [hix]; decide)]
    by_cases hf : 20 ≤ r.who.length
    · rw [if_pos hf]
      rw [hix] at HWho
      have hh := h
      obtain ⟨⟨vw, vl, hR, rfl⟩, hoa, hab⟩ := h
      obtain ⟨Aw, cw, Al, cl, rfl, rfl, hnw, hcw, hnl, hcl, helw, hell⟩ := hR.open
      unfold maxLen at hcw hcl
      have f0 : w.cell? ⟨rb, 0, none⟩ = some (.int .i64 r.from_) := hR.blk.cell 0
      have f1 : w.cell? ⟨rb, 1, none⟩ = some (.int .i64 r.buf) := hR.blk.cell 1
      have f2 : w.cell? ⟨rb, 2, none⟩ = some (.int .i64 r.ret) := hR.blk.cell 2
      have f3 : w.cell? ⟨rb, 3, none⟩ = some (.slice Aw r.who.length cw) := hR.blk.cell 3
      have f4 : w.cell? ⟨rb, 4, none⟩ = some (.slice Al r.l.length cl) := hR.blk.cell 4
      have hrb := hR.blk.lt
      have HW := Lib.hid helw
      have HL := Lib.hid hell
      clear helw hell
      clear hh e0 hix hR hab hoa HW HL f0 f1 f2 f4
      go_enter Tryz.func30, Tryz.ntmps30
      go_wp2_with (go_at_call 87; refine HWho.out.mono ?_; rintro e w1 ⟨rfl, k1⟩; have g3 : w1.cell? ⟨rb, 3, none⟩ = some (.slice Aw r.who.length cw) := (k1.cell hrb (by simp)).trans f3)
      go_ret
      exact ⟨rfl, HT.out _ k1⟩
    · rw [if_neg hf]
      clear HT e0 HWho
      by_cases hc : ∃ vw vl, RAt w rb vw vl r ∧ H = hRr rb vw vl ∧ vw = .slice none 0 0
      · obtain ⟨vw, vl, q1, q2, q3⟩ := hc
        exact rjoin_none h s (by omega) (by omega) hix q1 q2 q3
      · exact rjoin_some h s (by omega) (by omega) hix (by omega) (fun vw vl q1 q2 q3 => hc ⟨vw, vl, q1, q2, q3⟩)
  · rw [if_pos (by rw [hix]; omega)]
    rw [hix] at HWho
    clear e0 hix h
    go_enter Tryz.func30, Tryz.ntmps30
    go_wp2_with (go_at_call 87; refine HWho.out.mono ?_; rintro e w1 ⟨rfl, k1⟩)
    go_ret
    exact ⟨rfl, HT.out _ k1⟩
end
end Go.Proofs.YthjgplgfcbhihaaGreat
/- The document's group: Feed, Next. -/
set_option linter.unusedVariables false
set_option linter.unusedSimpArgs false
namespace Go.Proofs.YthjgplgfcbhihaaGreat
open Go.RowKit Go Go.Sort Go.Lib
section
variable {a w w' : World} {H : List Nat} {rb : Nat} {r : RG}
theorem addI_len (x : Int) : ∀ k, (addI x k).length = k
  | 0 => rfl
  | k + 1 => by simp [addI, addI_len x k]
/-- The group with k more items. -/
def fd (r : RG) (k : Nat) : RG := ⟨r.from_, r.buf, r.ret, r.who, r.l ++ addI (r.from_ + r.l.length) k⟩
theorem fd_zero (r : RG) : fd r 0 = r := by simp [fd, addI]
theorem fd_len (r : RG) (k : Nat) : (fd r k).l.length = r.l.length + k := by simp [fd, addI_len]
theorem icells_app (l m : List Item) : icells (l ++ m) = icells l ++ icells m := by simp [icells]
theorem fd_cells (r : RG) (k : Nat) : icells (fd r (k + 1)).l = icells (fd r k).l ++ [.int .i64 (r.from_ + (r.l.length + k)), .int .i64 1, .int .i64 0, .string ⟨#[]⟩] := by
  unfold fd
  simp only [addI]
  rw [← List.append_assoc, icells_app, ← Int.add_assoc]
  rfl
set_option maxRecDepth 100000 in
set_option maxHeartbeats 500000 in
theorem rfeed_any (h : HasR a w H rb r) (hf : r.from_ ≤ 1099511627776 ∧ 0 ≤ r.from_) (hb : r.l.length ≤ 900000) (n : Int) (hn : n ≤ 1000000) :
    Calls Tryz.prog 33 #[.pointer (some ⟨rb, 0, none⟩), .int .i64 n] w fun e w' => e = .returned (.int .i64 (r.feed n).1) ∧ RTo a w H rb (r.feed n).2 w' := by
  have hfd : r.feed n = ((r.feedN n : Int), fd r (r.feedN n)) := rfl
  rw [hfd]
  have hC : r.l.countP pOpen ≤ r.l.length := List.countP_le_length
  obtain ⟨K, hK⟩ : ∃ K, K = r.feedN n := ⟨_, rfl⟩
  rw [← hK]
  have hKd : (K : Int) = max (min n (1000 - ((r.l.countP pOpen : Nat) : Int))) 0 := by rw [hK]; unfold RG.feedN; omega
  have HKd := Lib.hid hKd
  clear hfd hK hKd
  go_enter Tryz.func33, Tryz.ntmps33
  go_wp2
  go_loopw [5, 6] (fun cv iv wr => ∃ j : Nat, j ≤ r.l.length ∧ cv = .int .i64 (((r.l.take j).countP pOpen : Nat) : Int) ∧ iv = .int .i64 j ∧ Only [] w wr) (fun _ iv _ => r.l.length - (intOf iv).toNat)
  case atStart => exact ⟨0, Nat.zero_le _, rfl, rfl, Only.refl _ _⟩
  case round =>
    obtain ⟨j, hj, rfl, rfl, hO⟩ := hrel
    have hR := h.keep0 hO
    by_cases hlt : j < r.l.length
    · have hcn := count_next pOpen r.l j hlt
      have hcl : (r.l.take j).countP pOpen ≤ r.l.length := Nat.le_trans List.countP_le_length (by simp; omega)
      obtain ⟨C, hC⟩ : ∃ C, C = (r.l.take j).countP pOpen := ⟨_, rfl⟩
      rw [← hC] at hcn hcl
      rw [← hC]
      obtain ⟨b, off, cl, f4, hle, hcap, c0, c1, c2, c3⟩ := hR.item j hlt
      obtain ⟨x, hx⟩ : ∃ x, x = r.l[j] := ⟨_, rfl⟩
      rw [← hx] at c0 c1 c2 c3 hcn
      clear hx hC hR
      by_cases k : x.st ≤ 2
      · have hcn2 : (r.l.take (j + 1)).countP pOpen = C + 1 := by rw [hcn]; simp [pOpen, k]
        have HC := Lib.hid hcn2
        clear hcn hcn2
        go_wp2
        exact ⟨⟨j + 1, hlt, by rw [HC.out]; simp, by simp, hO⟩, by simp [intOf]; omega⟩
      · have hcn2 : (r.l.take (j + 1)).countP pOpen = C := by rw [hcn]; simp [pOpen, k]
        have HC := Lib.hid hcn2
        clear hcn hcn2
        go_wp2
        exact ⟨⟨j + 1, hlt, by rw [HC.out], by simp, hO⟩, by simp [intOf]; omega⟩
    · obtain ⟨A, cl, f4, hle, hcap⟩ := hR.len
      have hjl : r.l.take j = r.l := List.take_of_length_le (by omega)
      rw [hjl]
      have hT : RTo a w H rb (fd r 0) wr := by rw [fd_zero]; exact ⟨H, hR, (Stepped.refl _ _).then0 hO⟩
      obtain ⟨C, hCe⟩ : ∃ C, C = r.l.countP pOpen := ⟨_, rfl⟩
      rw [← hCe] at HKd hC ⊢
      have HT := Lib.hid hT
      clear hjl hCe hT hR
      go_wp2
      clear hlt hj
      go_loopw [7, 5] (fun kv cv wr => ∃ k : Nat, k ≤ K ∧ (k : Int) ≤ 1000 ∧ kv = .int .i64 k ∧ cv = .int .i64 ((C : Int) + k) ∧ RTo a w H rb (fd r k) wr) (fun kv _ _ => K - (intOf kv).toNat)
      case atStart => exact ⟨0, Nat.zero_le _, by omega, rfl, by simp, HT.out⟩
      case round =>
        clear HT f4 hO hle hcap
        obtain ⟨k, hkK, hk1, rfl, rfl, Hr, hR, hK⟩ := hrel
        have hKe := HKd.out
        by_cases hc : (k : Int) < n ∧ (C : Int) + k < 1000
        · obtain ⟨hc1, hc2⟩ := hc
          have hkK2 : k + 1 ≤ K := by omega
          have hlf := fd_len r k
          have hblt := hR.blk
          have hRl := hR
          obtain ⟨⟨vw, vl, hRA, hH⟩, hoa, hab⟩ := hRl
          have g0 := Within.cell (S := []) hR.f0 (by simp)
          obtain ⟨A2, cl2, g4', hle2, hcap2⟩ := hR.len
          have hsl := (Slc.of_own hRA.l).1
          obtain ⟨Av, cv', rfl, _, _⟩ := own_form hRA.l
          obtain ⟨rfl, rfl⟩ : A2 = Av ∧ cl2 = cv' := by
            have := hRA.blk.cell 4
            rw [show wr.cell? ⟨rb, 4, none⟩ = _ from this] at g4'
            injection g4' with q
            injection q with q1 q2 q3
            exact ⟨q1.symm, q3.symm⟩
          rw [hlf] at g4' hle2 hsl
          have g4 := Within.cell (S := []) g4' (by simp)
          have g0' : ∀ p : Within [] wr, p.W.cell? ⟨rb, 0, none⟩ = some (.int .i64 r.from_) := g0
          have hsum := IntWalk.i64_in (r.from_ + ((r.l.length + k : Nat) : Int)) ⟨by omega, by omega⟩
          have hsum2 := IntWalk.i64_in ((C : Int) + k + 1) ⟨by omega, by omega⟩
          have HApp := Lib.hid (fun (W : World) (hW : Only [] wr W) => run_app (P := Tryz.prog) 62 62 wr.heap.size 79 _ 4 40 Tryz.underlying62 infoIt rfl (by decide) (World.ownsRow_nil W wr.heap.size 79 4) (hsl.only0 hW) (icells_one _) (by omega) (by unfold maxLen; omega) hW.size)
          have HTo := Lib.hid (fun (W : World) (A : Option Addr) (c : Nat) (hO1 : Only [] wr W) (hown : W.ownsRow wr.heap.size 79 4 (.slice A (r.l.length + k + 1) c) (r.l.length + k + 1) (icells (fd r k).l ++ [.int .i64 (r.from_ + (r.l.length + k)), .int .i64 1, .int .i64 0, .string ⟨#[]⟩])) =>
            show RTo a w H rb (fd r (k + 1)) (W.setCell ⟨rb, 4, none⟩ (.slice A (r.l.length + k + 1) c)) from by
              have q := hasR_l (a := a) (w := wr) (rb := rb) (r := fd r k) (by rw [← hH]; exact hR) hRA (Only.refl [] wr) hO1 (l' := (fd r (k + 1)).l) (by rw [fd_cells]; exact hown) (by rw [fd_len]; omega)
              rw [← hH] at q
              exact RTo.trans hK q)
          have hRb := hRA.blk
          have HBr := Lib.hid hRb
          clear g0 g4' hsl hRA hH hoa hab hR hK hRb hlf
          go_wp2_with fail
          refine wp_region_fork [] [0, 1, 2, 3, 4, 6, 7, 8, 9, 10, 11, 12, 13, 14, 15, 16] 5 17 [18] [19, 20, 21] (by kernel_rfl) (by kernel_rfl) (by intro c d u a w h; cases d <;> exact h) ?_
          show wpQuiet _ _ _ _ [_, _, _, _, _, _, _, _, _, _, _, _, _, _, _, _] _
          repeat (go_big_quiet_step (fail))
          refine wpQuiet_nil ?_
          clear g0' g4
          refine fork_intro (fun a0 a1 W => ∃ (A4 : Option Addr) (c4 g : Nat), a1 = (a0.put (some 42) (.slice A4 (r.l.length + k) c4)).put (some 54) (.slice (some ⟨g, 0, none⟩) 1 1) ∧ Only [] wr W ∧ W.ownsRow wr.heap.size 79 4 (.slice A4 (r.l.length + k) c4) (r.l.length + k) (icells (fd r k).l) ∧ Slc W 4 (.slice (some ⟨g, 0, none⟩) 1 1) 1 [.int .i64 (r.from_ + (r.l.length + k)), .int .i64 1, .int .i64 0, .string ⟨#[]⟩]) ?_ ?_ ?_
          · obtain ⟨A4, c4, w4, hr4, hown4, hO4, _⟩ := HApp.out wr.drew (Only.refl _ _).drew
            simp only [Nat.zero_add, List.nil_append] at hr4 hown4
            have hO4' : Only [] wr.drew w4 := by simpa [Value.ownBlock] using hO4
            have HR4 := Lib.hid hr4
            clear hr4 hO4
            show wpList _ _ _ [_] _ _
            go_wp2_with (at_builtin; refine Lib.wpList_append_run _ rfl (.const (.slice none 0 0)) (.tmp 41) 62 62 rfl _ _ rfl rfl _ _ HR4.out ?_)
            refine check_of (S := []) ((Only.refl [] _).drew.trans hO4') ?_
            show wpList _ _ _ [_] _ _
            go_wp2
            exact check_of (S := []) (((Only.refl [] _).drew.trans hO4').alloc _) ⟨A4, c4, w4.heap.size, rfl, ((Only.refl [] _).drew.trans hO4').alloc _, hown4.alloc _, slc_new1 rfl⟩
          · obtain ⟨A4, c4, w4, hr4, hown4, hO4, _⟩ := HApp.out (wr.drew.alloc (.cells #[.int .i64 (r.from_ + (r.l.length + k)), .int .i64 1, .int .i64 0, .string ⟨#[]⟩] 79)) ((Only.refl _ _).drew.alloc _)
            simp only [Nat.zero_add, List.nil_append] at hr4 hown4
            have hO4' : Only [] (wr.drew.alloc (.cells #[.int .i64 (r.from_ + (r.l.length + k)), .int .i64 1, .int .i64 0, .string ⟨#[]⟩] 79)) w4 := by simpa [Value.ownBlock] using hO4
            have HR4 := Lib.hid hr4
            clear hr4 hO4
            show wpList _ _ _ [_] _ _
            go_wp2
            refine check_of (S := []) ((Only.refl [] _).drew.alloc _) ?_
            show wpList _ _ _ [_] _ _
            go_wp2_with (at_builtin; refine Lib.wpList_append_run _ rfl (.const (.slice none 0 0)) (.tmp 41) 62 62 rfl _ _ rfl rfl _ _ HR4.out ?_)
            exact check_of (S := []) (((Only.refl [] _).drew.alloc _).trans hO4') ⟨A4, c4, wr.drew.heap.size, rfl, ((Only.refl [] _).drew.alloc _).trans hO4', hown4, (slc_new1 (size := 4) (cs := [.int .i64 (r.from_ + (r.l.length + k)), .int .i64 1, .int .i64 0, .string ⟨#[]⟩]) rfl).only0 hO4'⟩
          · rintro _ W ⟨A4, c4, g, rfl, hW, hown4, hs1⟩
            obtain ⟨A5, c5, w5, hr5, hown5, hO5, _⟩ := run_app (P := Tryz.prog) 62 62 wr.heap.size 79 _ 4 40 Tryz.underlying62 infoIt rfl (by decide) hown4 hs1 (by simp [Value.oneCell']) (by omega) (by unfold maxLen; omega) hW.size
            have k5 : Only [] wr w5 := hW.step hO5 (fun g hg => .inr (World.ownsRow.lt hown4 g (by simpa using hg)).1)
            have hto := HTo.out w5 A5 c5 k5 hown5
            have hb6 := k5.blk HBr.out (by simp)
            have f4 : w5.cell? ⟨rb, 4, none⟩ = some (.slice A2 (fd r k).l.length cl2) := hb6.cell 4
            have fb : w5.frozen? ⟨rb, 4, none⟩ = false := hb6.free 4
            have HR5 := Lib.hid hr5
            have HT := Lib.hid hto
            clear hr5 hto hown4 hown5 hO5 hs1 hb6
            show wpList _ _ _ [_] _ _
            go_frame
            go_wp2_with (at_builtin; refine Lib.wpList_append_run _ rfl (.tmp 42) (.tmp 54) 62 62 rfl _ _ rfl rfl _ _ HR5.out ?_)
            refine check_of (S := []) k5 ?_
            show wpList _ _ _ [_, _, _] _ _
            clear HApp HTo HBr HKd HR5
            go_wp2
            exact ⟨⟨k + 1, hkK2, by omega, by simp, by simp [Int.add_assoc], HT.out⟩, by simp [intOf]; omega⟩
        · have hkK3 : k = K := by omega
          have HT : Hid (RTo a w H rb (fd r K) wr) := by rw [← hkK3]; exact ⟨Hr, hR, hK⟩
          have HKk := Lib.hid hkK3
          clear hR hK hkK hkK3 hKe HKd
          by_cases hc1 : (k : Int) < n
          · have hc2 : ¬ (C : Int) + k < 1000 := fun q => hc ⟨hc1, q⟩
            clear hc
            go_wp2
            go_ret
            rw [← HKk.out]
            rw [← HKk.out] at HT
            exact ⟨rfl, HT.out⟩
          · clear hc
            go_wp2
            go_ret
            rw [← HKk.out]
            rw [← HKk.out] at HT
            exact ⟨rfl, HT.out⟩
end
end Go.Proofs.YthjgplgfcbhihaaGreat
/- The document's group: Next, Give, New. -/
set_option linter.unusedVariables false
set_option linter.unusedSimpArgs false
namespace Go.Proofs.YthjgplgfcbhihaaGreat
open Go.RowKit Go Go.Sort Go.Lib
section
variable {a w w' : World} {H : List Nat} {rb : Nat} {r : RG}
set_option maxRecDepth 100000 in
set_option maxHeartbeats 500000 in
theorem rnext_any (h : HasR a w H rb r) (s : ByteArray) (hb : r.l.length ≤ 1000000) (ht : ∀ x ∈ r.l, 0 ≤ x.tries ∧ x.tries ≤ 1000000) :
    Calls Tryz.prog 34 #[.pointer (some ⟨rb, 0, none⟩), .string s] w fun e w' => e = .returned (.tuple #[.int .i64 (r.next s).1.1, .bool (r.next s).1.2]) ∧ RTo a w H rb (r.next s).2 w' := by
  have HWho := Lib.hid (fun (W : World) (hW : Only [] w W) => rwho_any (h.keep0 hW) s)
  have HLi := Lib.hid (fun (W : World) (hW : Only [] w W) => (rlist_any (h.keep0 hW) 2 s hb).mono fun e w' q => rowAt_of q)
  have g1 := Within.cell (S := []) h.f1 (by simp)
  rcases whoIx_cases r.who s with hix | ⟨kk, hix, hkk⟩
  · have HN := Lib.hid (next_none (r := r) (s := s) (.inl (by rw [hix]; decide)))
    rw [hix] at HWho
    clear hix
    go_enter Tryz.func34, Tryz.ntmps34
    go_wp2_with fail
    refine wp_region_in2 [] [0, 1] [2, 3, 4] [5, 6, 9, 10, 11, 12] [7, 8, 13, 14] [] (by kernel_rfl) (by kernel_rfl) (by intro c d u a w h; cases d <;> exact h) ?_
    show wpQuiet _ _ _ _ [_, _] _
    repeat (go_big_quiet_step (fail))
    refine wpQuiet_nil ?_
    show wpList _ _ _ [_] _ _
    go_wp2_with fail
    refine (HWho.out _ (Only.refl _ _).drew).mono ?_
    rintro e w1 ⟨rfl, k1⟩
    have kO := (Only.refl [] w).drew.trans k1
    go_wp2_with fail
    refine check_of (S := []) kO ?_
    show wpList _ _ _ [_] _ _
    go_wp2
    refine check_of (S := []) kO ?_
    show wpList _ _ _ [_] _ _
    go_wp2
    refine check_of (S := []) kO ?_
    show wpQuiet _ _ _ _ [_, _, _, _, _, _] _
    repeat (go_big_quiet_step (fail))
    refine wpQuiet_nil ?_
    show wpList _ _ _ [_] _ _
    go_wp2
    refine check_of (S := []) kO ?_
    show wpList _ _ _ [_] _ _
    go_wp2
    refine check_of (S := []) kO ?_
    show wpList _ _ _ [_] _ _
    go_wp2
    refine check_of (S := []) kO ?_
    show wpList _ _ _ [_] _ _
    go_wp2_with fail
    refine check_last (S := []) kO (fun _ _ q => q) ?_
    go_wp2
    go_ret2
    rw [HN.out]
    exact ⟨rfl, ⟨H, h.keep0 kO, (Stepped.refl _ _).then0 kO⟩⟩
  · by_cases hfull : r.buf ≤ (r.list 2 s).length
    · have HN := Lib.hid (next_none (r := r) (s := s) (.inr hfull))
      rw [hix] at HWho
      have hneg : ¬ ((kk : Nat) : Int) < 0 := by omega
      have hneg2 : decide (((kk : Nat) : Int) < 0) = false := by simp
      obtain ⟨L, hL⟩ : ∃ L, L = (r.list 2 s).length := ⟨_, rfl⟩
      rw [← hL] at hfull HLi
      clear hix hL
      go_enter Tryz.func34, Tryz.ntmps34
      go_wp2_with fail
      refine wp_region_in2 [] [0, 1] [2, 3, 4] [5, 6, 9, 10, 11, 12] [7, 8, 13, 14] [] (by kernel_rfl) (by kernel_rfl) (by intro c d u a w h; cases d <;> exact h) ?_
      show wpQuiet _ _ _ _ [_, _] _
      repeat (go_big_quiet_step (fail))
      refine wpQuiet_nil ?_
      show wpList _ _ _ [_] _ _
      go_wp2_with fail
      refine (HWho.out _ (Only.refl _ _).drew).mono ?_
      rintro e w1 ⟨rfl, k1⟩
      have kO := (Only.refl [] w).drew.trans k1
      go_wp2_with fail
      refine check_of (S := []) kO ?_
      show wpList _ _ _ [_] _ _
      go_wp2
      refine check_of (S := []) kO ?_
      show wpList _ _ _ [_] _ _
      go_wp2
      refine check_of (S := []) kO ?_
      show wpQuiet _ _ _ _ [_, _, _, _, _, _] _
      repeat (go_big_quiet_step (fail))
      refine wpQuiet_nil ?_
      show wpList _ _ _ [_] _ _
      go_wp2_with fail
      refine (HLi.out _ kO).mono ?_
      rintro e w2 ⟨A2, c2, rfl, s2, k2⟩
      have kO2 := kO.trans k2
      clear s2
      go_wp2_with fail
      refine check_of (S := []) kO2 ?_
      show wpList _ _ _ [_] _ _
      go_wp2
      refine check_of (S := []) kO2 ?_
      show wpList _ _ _ [_] _ _
      go_wp2
      refine check_of (S := []) kO2 ?_
      show wpList _ _ _ [_] _ _
      go_wp2_with fail
      refine check_last (S := []) kO2 (fun _ _ q => q) ?_
      go_wp2
      go_ret2
      rw [HN.out]
      exact ⟨rfl, ⟨H, h.keep0 kO2, (Stepped.refl _ _).then0 kO2⟩⟩
    · have hno : ¬ (whoIx r.who s < 0 ∨ r.buf ≤ (r.list 2 s).length) := by rw [hix]; omega
      rw [hix] at HWho
      have hneg : ¬ ((kk : Nat) : Int) < 0 := by omega
      have hneg2 : decide (((kk : Nat) : Int) < 0) = false := by simp
      obtain ⟨L, hL⟩ : ∃ L, L = (r.list 2 s).length := ⟨_, rfl⟩
      rw [← hL] at hfull HLi
      clear hix hL
      go_enter Tryz.func34, Tryz.ntmps34
      go_wp2_with fail
      refine wp_region_in2 [] [0, 1] [2, 3, 4] [5, 6, 9, 10, 11, 12] [7, 8, 13, 14] [] (by kernel_rfl) (by kernel_rfl) (by intro c d u a w h; cases d <;> exact h) ?_
      show wpQuiet _ _ _ _ [_, _] _
      repeat (go_big_quiet_step (fail))
      refine wpQuiet_nil ?_
      show wpList _ _ _ [_] _ _
      go_wp2_with fail
      refine (HWho.out _ (Only.refl _ _).drew).mono ?_
      rintro e w1 ⟨rfl, k1⟩
      have kO := (Only.refl [] w).drew.trans k1
      go_wp2_with fail
      refine check_of (S := []) kO ?_
      show wpList _ _ _ [_] _ _
      go_wp2
      refine check_of (S := []) kO ?_
      show wpList _ _ _ [_] _ _
      go_wp2
      refine check_of (S := []) kO ?_
      show wpQuiet _ _ _ _ [_, _, _, _, _, _] _
      repeat (go_big_quiet_step (fail))
      refine wpQuiet_nil ?_
      show wpList _ _ _ [_] _ _
      go_wp2_with fail
      refine (HLi.out _ kO).mono ?_
      rintro e w2 ⟨A2, c2, rfl, s2, k2⟩
      have kO2 := kO.trans k2
      clear s2
      go_wp2_with fail
      refine check_of (S := []) kO2 ?_
      show wpList _ _ _ [_] _ _
      go_wp2
      refine check_of (S := []) kO2 ?_
      show wpList _ _ _ [_] _ _
      go_wp2
      refine check_of (S := []) kO2 ?_
      show wpList _ _ _ [_] _ _
      go_wp2_with fail
      refine check_last (S := []) kO2 (fun _ _ q => q) ?_
      clear HWho HLi g1
      go_wp2_with fail
      go_loopw [6] (fun iv wr => ∃ j : Nat, j ≤ r.l.length ∧ iv = .int .i64 j ∧ Only [] w wr ∧ Hid (∀ k (hk : k < j) (hl : k < r.l.length), (r.l[k].st == 1) = false)) (fun iv _ => r.l.length - (intOf iv).toNat)
      case atStart => exact ⟨0, Nat.zero_le _, rfl, kO2, fun k hk => absurd hk (Nat.not_lt_zero _)⟩
      case round =>
        obtain ⟨j, hj, rfl, hO, hs⟩ := hrel
        have hR := h.keep0 hO
        by_cases hlt : j < r.l.length
        · obtain ⟨b, off, cl, f4, hle, hcap, c0, c1, c2, c3⟩ := hR.item j hlt
          have HSet := Lib.hid (fun (W : World) (hW : Only [] wr W) (y : Item) => rset_any (hR.keep0 hW) j hlt hb y)
          have hnh := fun q => next_hit (s := s) hno hlt hs.out q
          have htb := ht r.l[j] (List.getElem_mem hlt)
          obtain ⟨x, hx⟩ : ∃ x, x = r.l[j] := ⟨_, rfl⟩
          rw [← hx] at c0 c1 c2 c3 hnh htb
          by_cases k : x.st = 1
          · have HN := Lib.hid (hnh (by simp [k]))
            have hsum := IntWalk.i64_in (x.tries + 1) ⟨by omega, by omega⟩
            have hto := Lib.hid (fun W hW => (HSet.out W hW ⟨x.n, 2, x.tries + 1, s⟩).mono fun e w' (q : _ ∧ _) => (show e = .returned (.tuple #[]) ∧ RTo a w H rb (r.next s).2 w' ∧ (∀ p : Addr, p.block < W.heap.size → p.block ∉ H → w'.cell? p = W.cell? p) from ⟨q.1, by rw [HN.out]; exact RTo.after ((Stepped.refl _ _).then0 hO) hW q.2, fun p p1 p2 => by
              obtain ⟨_, _, ⟨⟨S, hS, hSH⟩, _⟩⟩ := q.2
              exact hS.cell p1 (fun z => p2 (hSH _ z))⟩))
            have hnl : wr.heap.size ∉ H := fun q => by
              have := hR.lt _ q
              omega
            have hbx := (Blk.new wr 79 #[.int .i64 x.n, .int .i64 2, .int .i64 (x.tries + 1), .string s]).cell 0
            clear hx hs hR HSet hnh hno
            rw [k] at c1
            go_wp2_with (go_at_call 88; refine (hto.out _ ((Only.refl _ _).alloc _)).mono ?_; rintro e w2 ⟨rfl, h2, h3⟩; have d0 : w2.cell? ⟨wr.heap.size, 0, none⟩ = some (.int .i64 x.n) := (h3 ⟨wr.heap.size, 0, none⟩ (by simp) hnl).trans hbx)
            go_ret2
            rw [HN.out] at h2 ⊢
            exact ⟨rfl, h2⟩
          · have b1 : (x.st == 1) = false := by rw [beq_eq_false_iff_ne]; exact k
            have hs2 : Hid (∀ k (hk : k < j + 1) (hl : k < r.l.length), (r.l[k].st == 1) = false) := fun i hi hl => by
              by_cases e : i = j
              · subst e
                rw [← hx]
                exact b1
              · exact hs.out i (by omega) hl
            clear hx hs k hR HSet hnh
            go_wp2
            exact ⟨⟨j + 1, hlt, by simp, hO.alloc _, hs2⟩, by simp [intOf]; omega⟩
        · obtain ⟨A, cl, f4, hle, hcap⟩ := hR.len
          have HN := Lib.hid (next_end (s := s) hno (fun k hl => hs.out k (by omega) hl))
          clear hs hno
          go_wp2
          go_ret2
          rw [HN.out]
          exact ⟨rfl, ⟨H, hR, (Stepped.refl _ _).then0 hO⟩⟩
end
end Go.Proofs.YthjgplgfcbhihaaGreat
/- The document's group: Give, New. -/
set_option linter.unusedVariables false
set_option linter.unusedSimpArgs false
namespace Go.Proofs.YthjgplgfcbhihaaGreat
open Go.RowKit Go Go.Sort Go.Lib
theorem giveGo_snoc (ret how : Int) (s : ByteArray) (v : Int) : ∀ (l : List Int) (L : List Item), giveGo ret how s (l ++ [v]) L = ((giveGo ret how s l L).1 + (giveGo ret how s l L).2.countP (pHit v s), (giveGo ret how s l L).2.map (giveAt ret how v s))
  | [], L => by simp [giveGo]
  | u :: l, L => by
    have ih := giveGo_snoc ret how s v l (L.map (giveAt ret how u s))
    simp only [List.cons_append, giveGo, ih, Nat.add_assoc]
theorem giveGo_len (ret how : Int) (s : ByteArray) : ∀ (l : List Int) (L : List Item), (giveGo ret how s l L).2.length = L.length
  | [], L => rfl
  | u :: l, L => by
    simp only [giveGo]
    rw [giveGo_len ret how s l]
    simp
theorem giveGo_le (ret how : Int) (s : ByteArray) : ∀ (l : List Int) (L : List Item), (giveGo ret how s l L).1 ≤ l.length * L.length
  | [], L => by simp [giveGo]
  | u :: l, L => by
    simp only [giveGo]
    have h1 := giveGo_le ret how s l (L.map (giveAt ret how u s))
    have h2 : L.countP (pHit u s) ≤ L.length := List.countP_le_length
    simp only [List.length_map, List.length_cons] at h1 ⊢
    rw [Nat.add_mul, Nat.one_mul]
    omega
def gvn (r : RG) (s : ByteArray) (how : Int) (l : List Int) : RG := ⟨r.from_, r.buf, r.ret, r.who, (giveGo r.ret how s l r.l).2⟩
section
variable {a w w' : World} {H : List Nat} {rb : Nat} {r : RG}
set_option maxRecDepth 100000 in
set_option maxHeartbeats 1000000 in
theorem rgiveL_in (h : HasR a w H rb r) (s : ByteArray) (how : Int) (h0 : 0 ≤ how ∧ how ≤ 3) {lv : Value} {l : List Int} (hl : Slc w 1 lv l.length (ints l)) (hlb : ∀ b, lv.ownBlock = some b → b ∉ H ∨ l = []) (hb : r.l.length ≤ 1000000) (hll : l.length ≤ 1000000) :
    Calls Tryz.prog 36 #[.pointer (some ⟨rb, 0, none⟩), .string s, .int .i64 how, lv] w fun e w' => e = .returned (.int .i64 (giveGo r.ret how s l r.l).1) ∧ RTo a w H rb (gvn r s how l) w' := by
  obtain ⟨h1, h2⟩ := h0
  obtain ⟨Av, cv, rfl, hnv, hcv, hel⟩ := hl.openI
  unfold maxLen at hcv
  have HEl := Lib.hid hel
  have hHlt := h.lt
  clear hel hl
  go_enter Tryz.func36, Tryz.ntmps36
  go_wp2
  go_loopw [9, 10] (fun nv kv wr => ∃ k : Nat, k ≤ l.length ∧ nv = .int .i64 (((giveGo r.ret how s (l.take k) r.l).1 : Nat) : Int) ∧ kv = .int .i64 k ∧ RTo a w H rb (gvn r s how (l.take k)) wr) (fun _ kv _ => l.length - (intOf kv).toNat)
  case atStart => exact ⟨0, Nat.zero_le _, rfl, rfl, by simpa [gvn, giveGo] using RTo.refl h⟩
  case round =>
    obtain ⟨k, hk, rfl, rfl, Hk, hRk, hKk⟩ := hrel
    have hcle : (giveGo r.ret how s (l.take k) r.l).1 ≤ 1000000 * 1000000 := Nat.le_trans (giveGo_le _ _ _ _ _) (Nat.mul_le_mul (by simp; omega) hb)
    by_cases hkl : k < l.length
    · obtain ⟨bv, ov, hAv, hbv, hcellv⟩ := HEl.out k hkl
      have hbH : bv ∉ H := by
        rcases hlb bv (by rw [hAv]; rfl) with q | q
        · exact q
        · rw [q] at hkl
          simp at hkl
      obtain ⟨v, hv⟩ : ∃ v, v = l[k] := ⟨_, rfl⟩
      rw [← hv] at hcellv
      have hsn : giveGo r.ret how s (l.take (k + 1)) r.l = ((giveGo r.ret how s (l.take k) r.l).1 + (gvn r s how (l.take k)).l.countP (pHit v s), (gvn r s how (l.take k)).l.map (giveAt r.ret how v s)) := by
        rw [List.take_succ_eq_append_getElem hkl, giveGo_snoc, ← hv]
        rfl
      have hlenk : (gvn r s how (l.take k)).l.length = r.l.length := giveGo_len _ _ _ _ _
      have hg1 : (giveGo r.ret how s (l.take (k + 1)) r.l).1 = (giveGo r.ret how s (l.take k) r.l).1 + (gvn r s how (l.take k)).l.countP (pHit v s) := by rw [hsn]
      have hg2 : gvn r s how (l.take (k + 1)) = { gvn r s how (l.take k) with l := (gvn r s how (l.take k)).l.map (giveAt r.ret how v s) } := by
        unfold gvn at hsn ⊢
        rw [hsn]
      have hret : (gvn r s how (l.take k)).ret = r.ret := rfl
      obtain ⟨R, hR⟩ : ∃ R, R = gvn r s how (l.take k) := ⟨_, rfl⟩
      obtain ⟨C, hC⟩ : ∃ C, C = (giveGo r.ret how s (l.take k) r.l).1 := ⟨_, rfl⟩
      rw [← hR] at hRk hlenk hg1 hg2 hret
      rw [← hC] at hcle hg1
      rw [← hC]
      have HG1 := Lib.hid hg1
      have HG2 := Lib.hid hg2
      have HRet := Lib.hid hret
      have HLk := Lib.hid hlenk
      subst hAv
      clear hsn hR hC hg1 hg2 hv hret hlenk
      go_wp2
      go_loopw [9, 11] (fun nv iv wr => ∃ j : Nat, j ≤ R.l.length ∧ nv = .int .i64 ((C : Int) + (((R.l.take j).countP (pHit v s) : Nat) : Int)) ∧ iv = .int .i64 j ∧ RTo a w H rb (tn R (giveAt R.ret how v s) j) wr) (fun _ iv _ => R.l.length - (intOf iv).toNat)
      case atStart => exact ⟨0, Nat.zero_le _, by simp, rfl, by rw [tn_zero]; exact ⟨Hk, hRk, hKk⟩⟩
      case round =>
        clear hRk hKk
        obtain ⟨j, hj, rfl, rfl, Hr, hR, hK⟩ := hrel
        have hcl : (R.l.take j).countP (pHit v s) ≤ R.l.length := Nat.le_trans List.countP_le_length (by simp; omega)
        have hb : R.l.length ≤ 1000000 := by rw [HLk.out]; exact hb
        by_cases hlt : j < R.l.length
        · obtain ⟨S, hS, hSH⟩ := hK.only
          have hcv0 : wr.cell? ⟨bv, ov + k, none⟩ = some (.int .i64 v) := (hS.cell hbv (fun q => hbH (hSH bv q))).trans hcellv
          have hcn := count_next (pHit v s) R.l j hlt
          obtain ⟨D, hD⟩ : ∃ D, D = (R.l.take j).countP (pHit v s) := ⟨_, rfl⟩
          rw [← hD] at hcn hcl
          rw [← hD]
          have hgl : giveI (tn R (giveAt R.ret how v s) j).ret how ((tn R (giveAt R.ret how v s) j).l[j]'(by rw [tn_len]; exact hlt)) = giveI R.ret how R.l[j] := by rw [tn_get R (giveAt R.ret how v s) j hlt]; rfl
          have HGv := Lib.hid (fun (W : World) (hW : Only [] wr W) (e : giveI R.ret how R.l[j] = giveAt R.ret how v s R.l[j]) => (rgive_any (hR.keep0 hW) j (by rw [tn_len]; exact hlt) (by rw [tn_len]; exact hb) how).mono fun e w' (q : _ ∧ _) => (show e = .returned (.tuple #[]) ∧ RTo a w H rb (tn R (giveAt R.ret how v s) (j + 1)) w' from ⟨q.1, by rw [← tn_set R (giveAt R.ret how v s) j hlt _ (hgl.trans (by assumption))]; exact RTo.after hK hW q.2⟩))
          have HSet := Lib.hid (fun (W : World) (hW : Only [] wr W) (y : Item) (e : y = (giveAt R.ret how v s) R.l[j]) => (rset_any (hR.keep0 hW) j (by rw [tn_len]; exact hlt) (by rw [tn_len]; exact hb) y).mono fun e w' (q : _ ∧ _) => (show e = .returned (.tuple #[]) ∧ RTo a w H rb (tn R (giveAt R.ret how v s) (j + 1)) w' from ⟨q.1, by rw [← tn_set R (giveAt R.ret how v s) j hlt y (by assumption)]; exact RTo.after hK hW q.2⟩))
          have hsm := fun (W : World) (hW : Only [] wr W) (e : (giveAt R.ret how v s) R.l[j] = R.l[j]) => (show RTo a w H rb (tn R (giveAt R.ret how v s) (j + 1)) W from by rw [← tn_same R (giveAt R.ret how v s) j hlt e]; exact ⟨Hr, hR.keep0 hW, hK.then0 hW⟩)
          obtain ⟨b, off, cl, hIt⟩ := hR.item j (by rw [tn_len]; exact hlt)
          rw [tn_get R (giveAt R.ret how v s) j hlt, tn_len] at hIt
          obtain ⟨x, hx⟩ : ∃ x, x = R.l[j] := ⟨_, rfl⟩
          rw [← hx] at HSet hsm hIt
          have HSm := Lib.hid hsm
          obtain ⟨f4, hle, hcap, c0, c1, c2, c3⟩ := hIt
          clear hsm
          rw [← hx] at HGv hcn
          clear HSet hgl hx hD hS hSH
          have d4 := Within.cell (S := []) f4 (by simp)
          have d0 := Within.cell (S := []) c0 (by simp)
          have d1 := Within.cell (S := []) c1 (by simp)
          have d3 := Within.cell (S := []) c3 (by simp)
          have dv := Within.cell (S := []) hcv0 (by simp)
          by_cases q1 : x.n = v
          · have b1 : (x.n == v) = true := by rw [beq_iff_eq]; exact q1
            by_cases q2 : x.st = 2
            · have b2 : (x.st == 2) = true := by rw [beq_iff_eq]; exact q2
              by_cases q3 : x.own = s
              · have b3 := eqB_t q3
                by_cases q4 : s = emptyB
                · have b5 : s.toList.isEmpty = true := by rw [q4, ByteArray.toList_eq]; rfl
                  have hnh : pHit v s x = false := by simp [pHit, q4]
                  clear q1 q2 q3 q4
                  simp only [hnh, Bool.false_eq_true, if_false, Nat.add_zero] at hcn
                  have h2 := HSm.out _ (Only.refl _ _).drew (by simp [giveAt, hnh])
                  have H2 := Lib.hid h2
                  have HC := Lib.hid hcn
                  clear HGv HSm hcn hnh h2
                  go_wp2_with fail
                  refine wp_region_stages (C := fun W => ∃ p : Within [] wr, W = p.W) [([0, 1, 2, 3, 4, 5, 6, 7, 8, 9, 10, 11, 12, 13, 14, 15, 16, 17, 18, 19, 20, 21, 22, 23, 24, 25, 26, 27, 28, 29, 30, 31, 32, 33, 34, 35, 36, 37, 38, 39], [])] [] (by kernel_rfl) (by kernel_rfl) (by intro c d u a w h; cases d <;> exact h) ⟨⟨_, (Only.refl _ _).drew⟩, rfl⟩ ?_
                  refine stagesFirst ?_
                  show wpQuiet _ _ _ _ (_ :: _ :: _ :: _ :: _ :: _ :: _ :: _ :: _ :: _ :: _ :: _ :: _ :: _ :: _ :: _ :: _ :: _ :: _ :: _ :: _ :: _ :: _ :: _ :: _ :: _ :: _ :: _ :: _ :: _ :: _ :: _ :: _ :: _ :: _ :: _ :: _ :: _ :: _ :: _ :: []) _
                  repeat (go_big_quiet_step (fail))
                  refine wpQuiet_nil ?_
                  refine stagesDone ?_
                  clear d4 d0 d1 d3 dv
                  go_wp2
                  exact ⟨⟨j + 1, hlt, by rw [HC.out], by simp, H2.out⟩, by simp [intOf]; omega⟩
                · have b5 : s.toList.isEmpty = false := by
                    cases hz : s.toList.isEmpty
                    · rfl
                    · exact absurd (ByteArray.ext (Array.toList_inj.1 (by rw [ByteArray.toList_eq] at hz; simpa [emptyB] using hz))) q4
                  have hyh : pHit v s x = true := by simp [pHit, q1, q2, q3, q4]
                  have hto := Lib.hid (fun W hW => HGv.out W hW (by simp [giveAt, hyh]))
                  simp only [hyh, if_true] at hcn
                  have HC := Lib.hid hcn
                  clear HGv HSm hcn hyh q1 q2 q3 q4
                  have hsum := IntWalk.i64_in ((C : Int) + (D : Int) + 1) ⟨by omega, by omega⟩
                  go_wp2_with fail
                  refine wp_region_stages (C := fun W => ∃ p : Within [] wr, W = p.W) [([0, 1, 2, 3, 4, 5, 6, 7, 8, 9, 10, 11, 12, 13, 14, 15, 16, 17, 18, 19, 20, 21, 22, 23, 24, 25, 26, 27, 28, 29, 30, 31, 32, 33, 34, 35, 36, 37, 38, 39], [])] [] (by kernel_rfl) (by kernel_rfl) (by intro c d u a w h; cases d <;> exact h) ⟨⟨_, (Only.refl _ _).drew⟩, rfl⟩ ?_
                  refine stagesFirst ?_
                  show wpQuiet _ _ _ _ (_ :: _ :: _ :: _ :: _ :: _ :: _ :: _ :: _ :: _ :: _ :: _ :: _ :: _ :: _ :: _ :: _ :: _ :: _ :: _ :: _ :: _ :: _ :: _ :: _ :: _ :: _ :: _ :: _ :: _ :: _ :: _ :: _ :: _ :: _ :: _ :: _ :: _ :: _ :: _ :: []) _
                  repeat (go_big_quiet_step (fail))
                  refine wpQuiet_nil ?_
                  refine stagesDone ?_
                  clear d4 d0 d1 d3 dv
                  go_wp2_with (go_at_call 89; refine (hto.out _ (Only.refl _ _).drew).mono ?_; rintro e w2 ⟨rfl, h2⟩)
                  exact ⟨⟨j + 1, hlt, by rw [HC.out]; simp [Int.add_assoc], by simp, h2⟩, by simp [intOf]; omega⟩
              · have b3 := eqB_f q3
                have hnh : pHit v s x = false := by simp [pHit, q3]
                clear q1 q2 q3
                simp only [hnh, Bool.false_eq_true, if_false, Nat.add_zero] at hcn
                have h2 := HSm.out _ (Only.refl _ _).drew (by simp [giveAt, hnh])
                have H2 := Lib.hid h2
                have HC := Lib.hid hcn
                clear HGv HSm hcn hnh h2
                go_wp2_with fail
                refine wp_region_stages (C := fun W => ∃ p : Within [] wr, W = p.W) [([0, 1, 2, 3, 4, 5, 6, 7, 8, 9, 10, 11, 12, 13, 14, 15, 16, 17, 18, 19, 20, 21, 22, 23, 24, 25, 26, 27, 28, 29, 30, 31, 32, 33, 34, 35, 36, 37, 38, 39], [])] [] (by kernel_rfl) (by kernel_rfl) (by intro c d u a w h; cases d <;> exact h) ⟨⟨_, (Only.refl _ _).drew⟩, rfl⟩ ?_
                refine stagesFirst ?_
                show wpQuiet _ _ _ _ (_ :: _ :: _ :: _ :: _ :: _ :: _ :: _ :: _ :: _ :: _ :: _ :: _ :: _ :: _ :: _ :: _ :: _ :: _ :: _ :: _ :: _ :: _ :: _ :: _ :: _ :: _ :: _ :: _ :: _ :: _ :: _ :: _ :: _ :: _ :: _ :: _ :: _ :: _ :: _ :: []) _
                repeat (go_big_quiet_step (fail))
                refine wpQuiet_nil ?_
                refine stagesDone ?_
                clear d4 d0 d1 d3 dv
                go_wp2
                exact ⟨⟨j + 1, hlt, by rw [HC.out], by simp, H2.out⟩, by simp [intOf]; omega⟩
            · have b2 : (x.st == 2) = false := by rw [beq_eq_false_iff_ne]; exact q2
              have hnh : pHit v s x = false := by simp [pHit, q2]
              clear q1 q2
              simp only [hnh, Bool.false_eq_true, if_false, Nat.add_zero] at hcn
              have h2 := HSm.out _ (Only.refl _ _).drew (by simp [giveAt, hnh])
              have H2 := Lib.hid h2
              have HC := Lib.hid hcn
              clear HGv HSm hcn hnh h2
              go_wp2_with fail
              refine wp_region_stages (C := fun W => ∃ p : Within [] wr, W = p.W) [([0, 1, 2, 3, 4, 5, 6, 7, 8, 9, 10, 11, 12, 13, 14, 15, 16, 17, 18, 19, 20, 21, 22, 23, 24, 25, 26, 27, 28, 29, 30, 31, 32, 33, 34, 35, 36, 37, 38, 39], [])] [] (by kernel_rfl) (by kernel_rfl) (by intro c d u a w h; cases d <;> exact h) ⟨⟨_, (Only.refl _ _).drew⟩, rfl⟩ ?_
              refine stagesFirst ?_
              show wpQuiet _ _ _ _ (_ :: _ :: _ :: _ :: _ :: _ :: _ :: _ :: _ :: _ :: _ :: _ :: _ :: _ :: _ :: _ :: _ :: _ :: _ :: _ :: _ :: _ :: _ :: _ :: _ :: _ :: _ :: _ :: _ :: _ :: _ :: _ :: _ :: _ :: _ :: _ :: _ :: _ :: _ :: _ :: []) _
              repeat (go_big_quiet_step (fail))
              refine wpQuiet_nil ?_
              refine stagesDone ?_
              clear d4 d0 d1 d3 dv
              go_wp2
              exact ⟨⟨j + 1, hlt, by rw [HC.out], by simp, H2.out⟩, by simp [intOf]; omega⟩
          · have b1 : (x.n == v) = false := by rw [beq_eq_false_iff_ne]; exact q1
            have hnh : pHit v s x = false := by simp [pHit, q1]
            clear q1
            simp only [hnh, Bool.false_eq_true, if_false, Nat.add_zero] at hcn
            have h2 := HSm.out _ (Only.refl _ _).drew (by simp [giveAt, hnh])
            have H2 := Lib.hid h2
            have HC := Lib.hid hcn
            clear HGv HSm hcn hnh h2
            go_wp2_with fail
            refine wp_region_stages (C := fun W => ∃ p : Within [] wr, W = p.W) [([0, 1, 2, 3, 4, 5, 6, 7, 8, 9, 10, 11, 12, 13, 14, 15, 16, 17, 18, 19, 20, 21, 22, 23, 24, 25, 26, 27, 28, 29, 30, 31, 32, 33, 34, 35, 36, 37, 38, 39], [])] [] (by kernel_rfl) (by kernel_rfl) (by intro c d u a w h; cases d <;> exact h) ⟨⟨_, (Only.refl _ _).drew⟩, rfl⟩ ?_
            refine stagesFirst ?_
            show wpQuiet _ _ _ _ (_ :: _ :: _ :: _ :: _ :: _ :: _ :: _ :: _ :: _ :: _ :: _ :: _ :: _ :: _ :: _ :: _ :: _ :: _ :: _ :: _ :: _ :: _ :: _ :: _ :: _ :: _ :: _ :: _ :: _ :: _ :: _ :: _ :: _ :: _ :: _ :: _ :: _ :: _ :: _ :: []) _
            repeat (go_big_quiet_step (fail))
            refine wpQuiet_nil ?_
            refine stagesDone ?_
            clear d4 d0 d1 d3 dv
            go_wp2
            exact ⟨⟨j + 1, hlt, by rw [HC.out], by simp, H2.out⟩, by simp [intOf]; omega⟩
        · obtain ⟨A, cl2, f4, hle, hcap⟩ := hR.len
          rw [tn_len] at f4 hle
          have hjl : j = R.l.length := by omega
          have e1 : ((C : Int) + (((R.l.take j).countP (pHit v s) : Nat) : Int)) = (((giveGo r.ret how s (l.take (k + 1)) r.l).1 : Nat) : Int) := by rw [HG1.out, hjl, List.take_length]; simp
          have h2 : RTo a w H rb (gvn r s how (l.take (k + 1))) wr := by rw [HG2.out, ← HRet.out]; rw [hjl, tn_end] at hR; exact ⟨Hr, hR, hK⟩
          rw [e1]
          have HF := Lib.hid h2
          clear h2 hjl hR hK hcl e1 HG1 HG2 HRet
          go_wp2
          exact ⟨⟨k + 1, hkl, rfl, by simp, HF.out⟩, by simp [intOf]; omega⟩
    · have hkl2 : l.take k = l := List.take_of_length_le (by omega)
      rw [hkl2] at hRk
      rw [hkl2]
      have HF := Lib.hid (show RTo a w H rb (gvn r s how l) wr from ⟨Hk, hRk, hKk⟩)
      clear hRk hKk hkl2 hcle
      go_wp2
      go_ret
      exact ⟨rfl, HF.out⟩
set_option maxRecDepth 100000 in
set_option maxHeartbeats 1000000 in
theorem rgiveL_any (h : HasR a w H rb r) (s : ByteArray) (how : Int) {lv : Value} {l : List Int} (hl : Slc w 1 lv l.length (ints l)) (hlb : ∀ b, lv.ownBlock = some b → b ∉ H ∨ l = []) (hb : r.l.length ≤ 1000000) (hll : l.length ≤ 1000000) (hhow : 0 ≤ how ∧ how ≤ 3) :
    Calls Tryz.prog 36 #[.pointer (some ⟨rb, 0, none⟩), .string s, .int .i64 how, lv] w fun e w' => e = .returned (.int .i64 (r.give s how l).1) ∧ RTo a w H rb (r.give s how l).2 w' := by
  have e : r.give s how l = (((giveGo r.ret how s l r.l).1 : Int), gvn r s how l) := by
    unfold RG.give
    rw [if_pos hhow]
    rfl
  rw [e]
  exact rgiveL_in h s how hhow hl hlb hb hll
set_option maxRecDepth 100000 in
set_option maxHeartbeats 1000000 in
theorem rnew_ok (a w : World) (ha : Only [] a w) (f b r : Int) (hok : GS.okNew f b r = true) :
    Calls Tryz.prog 7 #[.int .i64 f, .int .i64 b, .int .i64 r] w fun e w' => ∃ rb H, e = .returned (.tuple #[.pointer (some ⟨rb, 0, none⟩), .int .i64 0]) ∧ HasR a w' H rb (RG.new f b r) ∧ Only [] w w' ∧ ∀ x ∈ H, w.heap.size ≤ x := by
  simp [GS.okNew] at hok
  obtain ⟨q1, q2, q3, q4, q5, q6⟩ := hok
  have k1 : ¬ f < 0 := by omega
  have k2 : ¬ (1099511627776 : Int) < f := by omega
  have k3 : ¬ b < 1 := by omega
  have k4 : ¬ (100 : Int) < b := by omega
  have k5 : ¬ r < 0 := by omega
  have k6 : ¬ (100 : Int) < r := by omega
  have hO := (Only.refl [] w).alloc (.cells #[.int .i64 f, .int .i64 b, .int .i64 r, .slice none 0 0, .slice none 0 0] 64)
  have hfin : HasR a (w.alloc (.cells #[.int .i64 f, .int .i64 b, .int .i64 r, .slice none 0 0, .slice none 0 0] 64)) (hRr w.heap.size (.slice none 0 0) (.slice none 0 0)) w.heap.size (RG.new f b r) :=
    ⟨⟨_, _, ⟨Blk.new _ _ _, World.ownsRow_nil _ _ _ _, World.ownsRow_nil _ _ _ _⟩, rfl⟩, ha.trans hO, fun x hx => by simp [hRr, Value.ownBlock] at hx; rw [hx]; exact ha.size⟩
  have HF := Lib.hid hfin
  clear hfin q1 q2 q3 q4 q5 q6
  go_enter Tryz.func7, Tryz.ntmps7
  go_wp2
  go_ret2
  exact ⟨w.heap.size, rfl, _, HF.out, hO, fun x hx => by simp [hRr, Value.ownBlock] at hx; omega⟩
set_option maxRecDepth 100000 in
set_option maxHeartbeats 1000000 in
theorem rnew_no (w : World) (f b r : Int) (hok : GS.okNew f b r = false) :
    Calls Tryz.prog 7 #[.int .i64 f, .int .i64 b, .int .i64 r] w fun e w' => e = .returned (.tuple #[.pointer none, .int .i64 1]) ∧ Only [] w w' := by
  have hno : f < 0 ∨ (1099511627776 : Int) < f ∨ b < 1 ∨ (100 : Int) < b ∨ r < 0 ∨ (100 : Int) < r := by
    simp [GS.okNew] at hok
    omega
  clear hok
  go_enter Tryz.func7, Tryz.ntmps7
  by_cases k1 : f < 0
  · clear hno
    go_wp2
    go_ret2
    exact ⟨rfl, Only.refl _ _⟩
  by_cases k2 : (1099511627776 : Int) < f
  · clear hno
    go_wp2
    go_ret2
    exact ⟨rfl, Only.refl _ _⟩
  by_cases k3 : b < 1
  · clear hno
    go_wp2
    go_ret2
    exact ⟨rfl, Only.refl _ _⟩
  by_cases k4 : (100 : Int) < b
  · clear hno
    go_wp2
    go_ret2
    exact ⟨rfl, Only.refl _ _⟩
  by_cases k5 : r < 0
  · clear hno
    go_wp2
    go_ret2
    exact ⟨rfl, Only.refl _ _⟩
  have k6 : (100 : Int) < r := by omega
  clear hno
  go_wp2
  go_ret2
  exact ⟨rfl, Only.refl _ _⟩
end
end Go.Proofs.YthjgplgfcbhihaaGreat
/- What is lent, and stays; copies of lists. -/
set_option linter.unusedVariables false
set_option linter.unusedSimpArgs false
namespace Go.Proofs.YthjgplgfcbhihaaGreat
open Go.RowKit Go Go.Sort Go.Lib
/-- A list that is lent lies in a row of its own, with a mark behind it. -/
structure Lent (w : World) (base : Nat) (A : Option Addr) (c : Nat) (l : List Int) : Prop where
  own : w.ownsRow base 3 1 (.slice A (l.length + 1) c) (l.length + 1) (ints (l ++ [-77]))
section
variable {w w' : World} {base : Nat} {A : Option Addr} {c : Nat} {l : List Int} {S : List Nat}
theorem Lent.keep (h : Lent w base A c l) (k : Only S w w') (hS : ∀ b ∈ S, b < base) : Lent w' base A c l :=
  ⟨own_only h.own k (fun g hg q => by have := (World.ownsRow.lt h.own g hg).1; have := hS g q; omega)⟩
theorem Lent.slc (h : Lent w base A c l) : Slc w 1 (.slice A l.length c) l.length (ints l) := by
  have := slc_take (Slc.of_own h.own).1 (Nat.le_succ l.length)
  rwa [Nat.mul_one, show (ints (l ++ [-77])).take l.length = ints l by simp [ints]] at this
theorem Lent.form (h : Lent w base A c l) : ∃ b, A = some ⟨b, 0, none⟩ ∧ base ≤ b ∧ b < w.heap.size ∧ l.length + 1 ≤ c ∧ c ≤ maxLen ∧ w.cell? ⟨b, l.length, none⟩ = some (.int .i64 (-77)) := by
  obtain ⟨g, cap, e, hb, hlt⟩ := h.own.form (by omega)
  obtain ⟨A', cap', e', hn, hm⟩ := own_form h.own
  injection e with e1 _ e3
  injection e' with _ _ e4
  refine ⟨g, e1, hb, hlt, by omega, by omega, ?_⟩
  have hh := h.own
  rw [e1] at hh
  rw [hh.cellAt l.length (by omega)]
  simp [ints]
set_option maxRecDepth 100000 in
set_option maxHeartbeats 500000 in
theorem lent_any {lv : Value} (hl : Slc w 1 lv l.length (ints l)) (hb : l.length ≤ 1000000) :
    Calls Tryz.prog 29 #[lv] w fun e w' => ∃ A c, e = .returned (.slice A l.length c) ∧ Lent w' w.heap.size A c l ∧ Only [] w w' := by
  obtain ⟨Av, cv, rfl, _, _, _⟩ := hl.openI
  obtain ⟨A4, c4, w4, hr4, hown4, hO4, _⟩ := run_app (P := Tryz.prog) (w := w) 43 43 w.heap.size 3 (.int .i64 0) 1 8 Tryz.underlying43 infoI rfl (by decide) (World.ownsRow_nil w w.heap.size 3 1) hl (ints_one l) (by omega) (by unfold maxLen; omega) (Nat.le_refl _)
  simp only [Nat.zero_add, List.nil_append] at hr4 hown4
  have k4 : Only [] w w4 := by simpa [Value.ownBlock] using hO4
  obtain ⟨A5, c5, w5, hr5, hown5, hO5, _⟩ := run_app (P := Tryz.prog) (w := w4.alloc (.cells #[.int .i64 (-77)] 3)) 43 43 w.heap.size 3 (.int .i64 0) 1 8 Tryz.underlying43 infoI rfl (by decide) (hown4.alloc _) (slc_new1 (w := w4) (e := 3) (cs := [.int .i64 (-77)]) rfl) (by simp [Value.oneCell']) (by omega) (by unfold maxLen; omega) (Nat.le_trans k4.size (by simp))
  have k5 : Only [] w w5 := (k4.alloc (.cells #[.int .i64 (-77)] 3)).step hO5 (fun g hg => .inr (World.ownsRow.lt hown4 g (by simpa using hg)).1)
  have hle : Lent w5 w.heap.size A5 c5 l := ⟨by rw [show ints (l ++ [-77]) = ints l ++ [.int .i64 (-77)] by simp [ints]]; exact hown5⟩
  obtain ⟨b, rfl, _, _, hc1, hc2, _⟩ := hle.form
  unfold maxLen at hc2
  have HR4 := Lib.hid hr4
  have HR5 := Lib.hid hr5
  have HL := Lib.hid hle
  have hlc : l.length ≤ c5 := by omega
  clear hr4 hr5 hle hown4 hown5 hO4 hO5 hl
  go_enter Tryz.func29, Tryz.ntmps29
  go_wp2_with (at_builtin; first
    | refine Lib.wpList_append_run _ rfl (.const (.slice none 0 0)) (.tmp 3) 43 43 rfl _ _ rfl rfl _ _ HR4.out ?_
    | refine Lib.wpList_append_run _ rfl (.tmp 4) (.tmp 5) 43 43 rfl _ _ rfl rfl _ _ HR5.out ?_)
  go_ret
  exact ⟨_, _, rfl, HL.out, k5⟩
set_option maxRecDepth 100000 in
set_option maxHeartbeats 500000 in
theorem stays_any (h : Lent w base A c l) {lv : Value} (hl : Slc w 1 lv l.length (ints l)) (hb : l.length ≤ 1000000) :
    Calls Tryz.prog 41 #[.slice A l.length c, lv] w fun e w' => e = .returned (.bool true) ∧ Only [] w w' := by
  have HS := Lib.hid (sameI_refl h.slc hl)
  obtain ⟨b, rfl, hbb, hbl, hc1, hc2, hcell⟩ := h.form
  unfold maxLen at hc2
  have hadd := IntWalk.i64_in ((l.length : Int) + 1) ⟨by omega, by omega⟩
  obtain ⟨Av, cv, rfl, _, _, _⟩ := hl.openI
  clear h hl
  go_enter Tryz.func41, Tryz.ntmps41
  go_wp2_with (go_at_call 50; refine HS.out.mono ?_; rintro e w1 ⟨rfl, k1⟩; have c1 : w1.cell? ⟨b, l.length, none⟩ = some (.int .i64 (-77)) := (k1.cell hbl (by simp)).trans hcell)
  go_ret
  exact ⟨rfl, k1⟩
set_option maxRecDepth 100000 in
set_option maxHeartbeats 500000 in
theorem copyI_any {lv : Value} (hl : Slc w 1 lv l.length (ints l)) (hb : l.length ≤ 1000000) :
    Calls Tryz.prog 90 #[lv] w fun e w' => ∃ A c, e = .returned (.slice A l.length c) ∧ w'.ownsRow w.heap.size 3 1 (.slice A l.length c) l.length (ints l) ∧ Only [] w w' := by
  obtain ⟨Av, cv, rfl, _, _, _⟩ := hl.openI
  obtain ⟨A4, c4, w4, hr4, hown4, hO4, _⟩ := run_app (P := Tryz.prog) (w := w) 43 43 w.heap.size 3 (.int .i64 0) 1 8 Tryz.underlying43 infoI rfl (by decide) (World.ownsRow_nil w w.heap.size 3 1) hl (ints_one l) (by omega) (by unfold maxLen; omega) (Nat.le_refl _)
  simp only [Nat.zero_add, List.nil_append] at hr4 hown4
  have k4 : Only [] w w4 := by simpa [Value.ownBlock] using hO4
  have HR4 := Lib.hid hr4
  have HO := Lib.hid hown4
  clear hr4 hown4 hO4 hl
  go_enter Tryz.func90, Tryz.ntmps90
  go_wp2_with (at_builtin; refine Lib.wpList_append_run _ rfl (.const (.slice none 0 0)) (.tmp 3) 43 43 rfl _ _ rfl rfl _ _ HR4.out ?_)
  go_ret
  exact ⟨_, _, rfl, HO.out, k4⟩
end
set_option maxRecDepth 100000 in
set_option maxHeartbeats 500000 in
theorem copyT_any {w : World} {l : List ByteArray} {lv : Value} (hl : Slc w 1 lv l.length (strs l)) (hb : l.length ≤ 1000000) :
    Calls Tryz.prog 91 #[lv] w fun e w' => ∃ A c, e = .returned (.slice A l.length c) ∧ w'.ownsRow w.heap.size 9 1 (.slice A l.length c) l.length (strs l) ∧ Only [] w w' := by
  obtain ⟨Av, cv, rfl, _, _, _⟩ := hl.openS
  obtain ⟨A4, c4, w4, hr4, hown4, hO4, _⟩ := run_app (P := Tryz.prog) (w := w) 61 61 w.heap.size 9 (.string ⟨#[]⟩) 1 16 Tryz.underlying61 infoS rfl (by decide) (World.ownsRow_nil w w.heap.size 9 1) hl (strs_one l) (by omega) (by unfold maxLen; omega) (Nat.le_refl _)
  simp only [Nat.zero_add, List.nil_append] at hr4 hown4
  have k4 : Only [] w w4 := by simpa [Value.ownBlock] using hO4
  have HR4 := Lib.hid hr4
  have HO := Lib.hid hown4
  clear hr4 hown4 hO4 hl
  go_enter Tryz.func91, Tryz.ntmps91
  go_wp2_with (at_builtin; refine Lib.wpList_append_run _ rfl (.const (.slice none 0 0)) (.tmp 3) 61 61 rfl _ _ rfl rfl _ _ HR4.out ?_)
  go_ret
  exact ⟨_, _, rfl, HO.out, k4⟩
end Go.Proofs.YthjgplgfcbhihaaGreat
/- A book of lists that are kept, in memory; one more list. -/
set_option linter.unusedVariables false
set_option linter.unusedSimpArgs false
namespace Go.Proofs.YthjgplgfcbhihaaGreat
open Go.RowKit Go Go.Sort Go.Lib
theorem infoIs : (Tryz.prog.info? 43).map (fun i => (i.zero, i.size, i.bytes)) = some (some (.slice none 0 0), 1, 24) := by kernel_rfl
theorem infoSs : (Tryz.prog.info? 61).map (fun i => (i.zero, i.size, i.bytes)) = some (some (.slice none 0 0), 1, 24) := by kernel_rfl
def blocksV (L : List (Value × List Value)) : List Nat := L.flatMap fun p => p.1.ownBlock.toList
theorem mem_blocksV {L : List (Value × List Value)} {b : Nat} : b ∈ blocksV L ↔ ∃ p ∈ L, p.1.ownBlock = some b := by simp [blocksV]
theorem blocksV_app (L M : List (Value × List Value)) : blocksV (L ++ M) = blocksV L ++ blocksV M := by simp [blocksV]
/-- Rows of one's own beside each other. -/
structure Kpt (w : World) (e : TypeId) (L : List (Value × List Value)) : Prop where
  own : ∀ p ∈ L, w.ownsRow 0 e 1 p.1 p.2.length p.2
  nod : (blocksV L).Nodup
  lit : ∀ p ∈ L, ∃ A c, p.1 = .slice A p.2.length c
section
variable {w w' : World} {e : TypeId} {L M : List (Value × List Value)} {S : List Nat}
theorem Kpt.only (h : Kpt w e L) (k : Only S w w') (hd : ∀ b ∈ blocksV L, b ∉ S) : Kpt w' e L := ⟨fun p hp => own_only (h.own p hp) k (fun g hg => hd g (mem_blocksV.2 ⟨p, hp, hg⟩)), h.nod, h.lit⟩
theorem Kpt.lt (h : Kpt w e L) : ∀ b ∈ blocksV L, b < w.heap.size := fun b hb => by
  obtain ⟨p, hp, q⟩ := mem_blocksV.1 hb
  exact (World.ownsRow.lt (h.own p hp) b q).2
theorem Kpt.sub (h : Kpt w e (L ++ M)) : Kpt w e L ∧ Kpt w e M := by
  have hn := h.nod
  rw [blocksV_app] at hn
  obtain ⟨n1, n2, _⟩ := List.nodup_append.1 hn
  exact ⟨⟨fun p hp => h.own p (List.mem_append_left _ hp), n1, fun p hp => h.lit p (List.mem_append_left _ hp)⟩, ⟨fun p hp => h.own p (List.mem_append_right _ hp), n2, fun p hp => h.lit p (List.mem_append_right _ hp)⟩⟩
theorem Kpt.perm (h : Kpt w e L) (p : L.Perm M) : Kpt w e M := ⟨fun q hq => h.own q (p.mem_iff.2 hq), (List.Perm.flatMap_right _ p).nodup_iff.1 h.nod, fun q hq => h.lit q (p.mem_iff.2 hq)⟩
theorem Kpt.cons (h : Kpt w e L) {A : Option Addr} {c : Nat} {cs : List Value} (ho : w.ownsRow 0 e 1 (.slice A cs.length c) cs.length cs) (hf : ∀ b, (Value.slice A cs.length c).ownBlock = some b → b ∉ blocksV L) : Kpt w e ((.slice A cs.length c, cs) :: L) := by
  refine ⟨fun p hp => ?_, ?_, fun p hp => ?_⟩
  · rcases List.mem_cons.1 hp with rfl | hp
    · exact ho
    · exact h.own p hp
  · show ((Value.slice A cs.length c).ownBlock.toList ++ blocksV L).Nodup
    refine List.nodup_append.2 ⟨by cases (Value.slice A cs.length c).ownBlock <;> simp, h.nod, fun a ha b hb e => ?_⟩
    exact hf a (by simpa using ha) (by rw [e]; exact hb)
  · rcases List.mem_cons.1 hp with rfl | hp
    · exact ⟨A, c, rfl⟩
    · exact h.lit p hp
end
/-- The book. -/
structure BkAt (w : World) (bb : Nat) (vt vx vi vy : Value) (T X I Y : List (Value × List Value)) : Prop where
  blk : Blk w bb 42 #[vt, vx, vi, vy, .slice none 0 0, .slice none 0 0, .slice none 0 0, .slice none 0 0, .slice none 0 0, .slice none 0 0, .slice none 0 0, .slice none 0 0]
  rt : w.ownsRow 0 61 1 vt T.length (T.map (·.1))
  rx : w.ownsRow 0 61 1 vx X.length (X.map (·.1))
  ri : w.ownsRow 0 43 1 vi I.length (I.map (·.1))
  ry : w.ownsRow 0 43 1 vy Y.length (Y.map (·.1))
  nt : ∀ b, vt.ownBlock = some b → vx.ownBlock ≠ some b
  ni : ∀ b, vi.ownBlock = some b → vy.ownBlock ≠ some b
  kt : Kpt w 9 (X ++ T)
  ki : Kpt w 3 (Y ++ I)
  st : T.map (·.2) = X.map (·.2)
  si : I.map (·.2) = Y.map (·.2)
  ct : ∀ p ∈ T, ∃ l : List ByteArray, p.2 = strs l ∧ l.length ≤ 1000000
  ci : ∀ p ∈ I, ∃ l : List Int, p.2 = ints l ∧ l.length ≤ 1000000
  few : T.length ≤ 250 ∧ I.length ≤ 250
def hBk (bb : Nat) (vt vx vi vy : Value) (T X I Y : List (Value × List Value)) : List Nat :=
  bb :: (vt.ownBlock.toList ++ (vx.ownBlock.toList ++ (vi.ownBlock.toList ++ (vy.ownBlock.toList ++ (blocksV (X ++ T) ++ blocksV (Y ++ I))))))
structure HasB (a w : World) (H : List Nat) (bb : Nat) : Prop where
  at_ : ∃ vt vx vi vy T X I Y, BkAt w bb vt vx vi vy T X I Y ∧ H = hBk bb vt vx vi vy T X I Y
  only : Only [] a w
  above : ∀ b ∈ H, a.heap.size ≤ b
section
variable {a w w' : World} {H H' S : List Nat} {bb : Nat} {vt vx vi vy : Value} {T X I Y : List (Value × List Value)}
theorem mem_hBk {b : Nat} : b ∈ hBk bb vt vx vi vy T X I Y ↔ b = bb ∨ vt.ownBlock = some b ∨ vx.ownBlock = some b ∨ vi.ownBlock = some b ∨ vy.ownBlock = some b ∨ b ∈ blocksV (X ++ T) ∨ b ∈ blocksV (Y ++ I) := by
  simp [hBk]
theorem BkAt.lt (h : BkAt w bb vt vx vi vy T X I Y) : ∀ b ∈ hBk bb vt vx vi vy T X I Y, b < w.heap.size := fun b hb => by
  rcases mem_hBk.1 hb with rfl | q | q | q | q | q | q
  · exact h.blk.lt
  · exact (World.ownsRow.lt h.rt b q).2
  · exact (World.ownsRow.lt h.rx b q).2
  · exact (World.ownsRow.lt h.ri b q).2
  · exact (World.ownsRow.lt h.ry b q).2
  · exact h.kt.lt b q
  · exact h.ki.lt b q
theorem BkAt.keep (h : BkAt w bb vt vx vi vy T X I Y) (k : Only S w w') (hd : ∀ b ∈ hBk bb vt vx vi vy T X I Y, b ∉ S) : BkAt w' bb vt vx vi vy T X I Y :=
  ⟨k.blk h.blk (hd bb (by simp [hBk])), own_only h.rt k (fun g q => hd g (mem_hBk.2 (.inr (.inl q)))), own_only h.rx k (fun g q => hd g (mem_hBk.2 (.inr (.inr (.inl q))))),
    own_only h.ri k (fun g q => hd g (mem_hBk.2 (.inr (.inr (.inr (.inl q)))))), own_only h.ry k (fun g q => hd g (mem_hBk.2 (.inr (.inr (.inr (.inr (.inl q))))))),
    h.nt, h.ni, h.kt.only k (fun g q => hd g (mem_hBk.2 (.inr (.inr (.inr (.inr (.inr (.inl q)))))))), h.ki.only k (fun g q => hd g (mem_hBk.2 (.inr (.inr (.inr (.inr (.inr (.inr q)))))))), h.st, h.si, h.ct, h.ci, h.few⟩
theorem HasB.lt (h : HasB a w H bb) : ∀ b ∈ H, b < w.heap.size := by
  obtain ⟨⟨vt, vx, vi, vy, T, X, I, Y, h1, rfl⟩, _⟩ := h
  exact h1.lt
theorem HasB.keep (h : HasB a w H bb) (k : Only S w w') (ha : ∀ b ∈ S, a.heap.size ≤ b) (hd : ∀ b ∈ H, b ∉ S) : HasB a w' H bb := by
  obtain ⟨⟨vt, vx, vi, vy, T, X, I, Y, h1, rfl⟩, h2, h3⟩ := h
  exact ⟨⟨vt, vx, vi, vy, T, X, I, Y, h1.keep k hd, rfl⟩, h2.step k (fun i hi => .inr (ha i hi)), h3⟩
theorem HasB.keep0 (h : HasB a w H bb) (k : Only [] w w') : HasB a w' H bb := h.keep k (by simp) (by simp)
def KTo (a w : World) (H : List Nat) (bb : Nat) (w' : World) : Prop := ∃ H', HasB a w' H' bb ∧ Stepped w w' H H'
/-- The blocks of the book are of other types than its rows. -/
theorem BkAt.ne (h : BkAt w bb vt vx vi vy T X I Y) : (∀ b, vi.ownBlock = some b → b ≠ bb ∧ vt.ownBlock ≠ some b ∧ vx.ownBlock ≠ some b ∧ b ∉ blocksV (X ++ T) ∧ b ∉ blocksV (Y ++ I)) ∧
    (∀ b, vy.ownBlock = some b → b ≠ bb ∧ vt.ownBlock ≠ some b ∧ vx.ownBlock ≠ some b ∧ b ∉ blocksV (X ++ T) ∧ b ∉ blocksV (Y ++ I)) ∧
    (∀ b, vt.ownBlock = some b → b ≠ bb ∧ vi.ownBlock ≠ some b ∧ vy.ownBlock ≠ some b ∧ b ∉ blocksV (X ++ T) ∧ b ∉ blocksV (Y ++ I)) ∧
    (∀ b, vx.ownBlock = some b → b ≠ bb ∧ vi.ownBlock ≠ some b ∧ vy.ownBlock ≠ some b ∧ b ∉ blocksV (X ++ T) ∧ b ∉ blocksV (Y ++ I)) ∧
    bb ∉ blocksV (X ++ T) ∧ bb ∉ blocksV (Y ++ I) := by
  have kts : ∀ b ∈ blocksV (X ++ T), ∃ cur, Blk w b 9 cur := fun b hb => by
    obtain ⟨p, hp, q⟩ := mem_blocksV.1 hb
    exact own_type (h.kt.own p hp) q
  have kis : ∀ b ∈ blocksV (Y ++ I), ∃ cur, Blk w b 3 cur := fun b hb => by
    obtain ⟨p, hp, q⟩ := mem_blocksV.1 hb
    exact own_type (h.ki.own p hp) q
  have one : ∀ {e : TypeId} {v : Value} {n : Nat} {xs : List Value} (ho : w.ownsRow 0 e 1 v n xs) (h1 : e ≠ 42) (h2 : e ≠ 9) (h3 : e ≠ 3) (b : Nat), v.ownBlock = some b → b ≠ bb ∧ b ∉ blocksV (X ++ T) ∧ b ∉ blocksV (Y ++ I) := fun ho h1 h2 h3 b hb => by
    obtain ⟨cur, hc⟩ := own_type ho hb
    refine ⟨hc.other h.blk h1, fun q => ?_, fun q => ?_⟩
    · obtain ⟨c2, hc2⟩ := kts b q
      exact hc.other hc2 h2 rfl
    · obtain ⟨c2, hc2⟩ := kis b q
      exact hc.other hc2 h3 rfl
  have two : ∀ {v u : Value} {n m : Nat} {xs ys : List Value} (ho : w.ownsRow 0 43 1 v n xs) (hu : w.ownsRow 0 61 1 u m ys) (b : Nat), v.ownBlock = some b → u.ownBlock ≠ some b := fun ho hu b hb q => by
    obtain ⟨c1, h1⟩ := own_type ho hb
    obtain ⟨c2, h2⟩ := own_type hu q
    exact h1.other h2 (by decide) rfl
  refine ⟨fun b hb => ?_, fun b hb => ?_, fun b hb => ?_, fun b hb => ?_, fun q => ?_, fun q => ?_⟩
  · obtain ⟨z1, z2, z3⟩ := one h.ri (by decide) (by decide) (by decide) b hb
    exact ⟨z1, two h.ri h.rt b hb, two h.ri h.rx b hb, z2, z3⟩
  · obtain ⟨z1, z2, z3⟩ := one h.ry (by decide) (by decide) (by decide) b hb
    exact ⟨z1, two h.ry h.rt b hb, two h.ry h.rx b hb, z2, z3⟩
  · obtain ⟨z1, z2, z3⟩ := one h.rt (by decide) (by decide) (by decide) b hb
    exact ⟨z1, fun y => two h.ri h.rt b y hb, fun y => two h.ry h.rt b y hb, z2, z3⟩
  · obtain ⟨z1, z2, z3⟩ := one h.rx (by decide) (by decide) (by decide) b hb
    exact ⟨z1, fun y => two h.ri h.rx b y hb, fun y => two h.ry h.rx b y hb, z2, z3⟩
  · obtain ⟨c2, hc2⟩ := kts bb q
    exact h.blk.other hc2 (by decide) rfl
  · obtain ⟨c2, hc2⟩ := kis bb q
    exact h.blk.other hc2 (by decide) rfl
end
end Go.Proofs.YthjgplgfcbhihaaGreat
/- One more list in the book: Ints, Texts. -/
set_option linter.unusedVariables false
set_option linter.unusedSimpArgs false
namespace Go.Proofs.YthjgplgfcbhihaaGreat
open Go.RowKit Go Go.Sort Go.Lib
def KpTo (a w : World) (H : List Nat) (bb : Nat) (v : Value) (w' : World) : Prop := ∃ H', HasB a w' H' bb ∧ (∃ S, Only S w w' ∧ (∀ b ∈ S, b ∈ H) ∧ ∀ b ∈ S, ∀ cur, ¬ Blk w b 3 cur ∧ ¬ Blk w b 9 cur) ∧ ∀ b ∈ H', b ∈ H ∨ v.ownBlock = some b ∨ w.heap.size ≤ b
theorem app_perm {α : Type} (x y : α) (Y I : List α) : (x :: y :: (Y ++ I)).Perm ((Y ++ [y]) ++ (I ++ [x])) := by
  have h1 : (x :: y :: (Y ++ I)).Perm (y :: (Y ++ I) ++ [x]) := (List.perm_append_singleton x (y :: (Y ++ I))).symm
  have h2 := (List.perm_middle (a := y) (l₁ := Y) (l₂ := I ++ [x])).symm
  refine h1.trans ?_
  simpa using h2
set_option maxRecDepth 100000 in
set_option maxHeartbeats 400000 in
theorem bints_any {a w : World} {H : List Nat} {bb : Nat} (h : HasB a w H bb) {A : Option Addr} {c : Nat} {l : List Int} (ho : w.ownsRow 0 3 1 (.slice A l.length c) l.length (ints l))
    (hf : ∀ b, (Value.slice A l.length c).ownBlock = some b → b ∉ H ∧ a.heap.size ≤ b) (hl : l.length ≤ 1000000) :
    Calls Tryz.prog 45 #[.pointer (some ⟨bb, 0, none⟩), .slice A l.length c] w fun e w' => e = .returned (.tuple #[]) ∧ KpTo a w H bb (.slice A l.length c) w' := by
  have hh := h
  obtain ⟨⟨vt, vx, vi, vy, T, X, I, Y, hB, rfl⟩, hoa, hab⟩ := h
  obtain ⟨Ai, ci, rfl, hni, hmi⟩ := own_form hB.ri
  obtain ⟨Ay, cy, rfl, hny, hmy⟩ := own_form hB.ry
  unfold maxLen at hmi hmy
  have g2 : w.cell? ⟨bb, 2, none⟩ = some (.slice Ai I.length ci) := hB.blk.cell 2
  have hbl := hB.blk.lt
  by_cases hlt : 250 ≤ I.length
  · have HK := Lib.hid (show KpTo a w _ bb (.slice A l.length c) w from ⟨_, hh, ⟨[], Only.refl _ _, by simp, by simp⟩, fun b hb => .inl hb⟩)
    clear hh hB hab hf
    go_enter Tryz.func45, Tryz.ntmps45
    go_wp2
    go_end0
    exact ⟨rfl, HK.out⟩
  have hYl : Y.length = I.length := by
    have := congrArg List.length hB.si
    simpa using this.symm
  obtain ⟨ni, ny, nt, nx, _, nbi⟩ := hB.ne
  -- the first list
  obtain ⟨A4, c4, w4, hr4, hown4, hO4, hf4⟩ := run_app (P := Tryz.prog) (w := w.alloc (.cells #[.slice A l.length c] 43)) 36 36 0 43 (.slice none 0 0) 1 24 Tryz.underlying36 infoIs rfl (by decide) (hB.ri.alloc _) (slc_new1 (w := w) (e := 43) (cs := [.slice A l.length c]) rfl) (by simp [Value.oneCell']) (by omega) (by unfold maxLen; omega) (Nat.zero_le _)
  have k4 : Only (Value.slice Ai I.length ci).ownBlock.toList w w4 := (((Only.refl [] w).alloc _).of_nil).trans hO4
  have hbi : bb ∉ (Value.slice Ai I.length ci).ownBlock.toList := fun q => (ni bb (by simpa using q)).1 rfl
  have hB4 := k4.blk hB.blk hbi
  have g24 : w4.cell? ⟨bb, 2, none⟩ = some (.slice Ai I.length ci) := hB4.cell 2
  have fr24 : w4.frozen? ⟨bb, 2, none⟩ = false := hB4.free 2
  obtain ⟨W5, hW5⟩ : ∃ W5, W5 = w4.setCell ⟨bb, 2, none⟩ (.slice A4 (I.length + 1) c4) := ⟨_, rfl⟩
  have k5 : Only (bb :: (Value.slice Ai I.length ci).ownBlock.toList) w W5 := by rw [hW5]; exact (k4.mono (fun b q => List.mem_cons_of_mem _ q)).setCell (.inl (by simp)) _
  have hfB : ∀ b, (Value.slice A l.length c).ownBlock = some b → b ∉ bb :: (Value.slice Ai I.length ci).ownBlock.toList := fun b q z => (hf b q).1 (by
    rcases List.mem_cons.1 z with y | y
    · exact mem_hBk.2 (.inl y)
    · exact mem_hBk.2 (.inr (.inr (.inr (.inl (by simpa using y))))))
  have hv5 : W5.ownsRow 0 3 1 (.slice A l.length c) l.length (ints l) := own_only ho k5 hfB
  have hyd : ∀ b, (Value.slice Ay Y.length cy).ownBlock = some b → b ∉ bb :: (Value.slice Ai I.length ci).ownBlock.toList := fun b q z => by
    rcases List.mem_cons.1 z with y | y
    · exact (ny b q).1 y
    · exact hB.ni b (by simpa using y) q
  have hy5 := own_only hB.ry k5 hyd
  have hBk5 : Blk W5 bb 42 #[vt, vx, .slice A4 (I.length + 1) c4, .slice Ay Y.length cy, .slice none 0 0, .slice none 0 0, .slice none 0 0, .slice none 0 0, .slice none 0 0, .slice none 0 0, .slice none 0 0, .slice none 0 0] := by rw [hW5]; exact hB4.set 2 _
  have g35 : W5.cell? ⟨bb, 3, none⟩ = some (.slice Ay Y.length cy) := hBk5.cell 3
  have d3 := Within.cell (S := (Value.slice Ay Y.length cy).ownBlock.toList) g35 (by
    intro q
    exact (ny bb (by simpa using q)).1 rfl)
  -- its copy
  have HCp := Lib.hid (copyI_any (w := W5.drew) ((Slc.of_own hv5).1.only0 (Only.refl _ _).drew) hl)
  have HAp := Lib.hid (fun (w6 : World) (A6 : Option Addr) (c6 : Nat) (k6 : Only [] W5.drew w6) => run_app (P := Tryz.prog) (w := w6.alloc (.cells #[.slice A6 l.length c6] 43)) 36 36 0 43 (.slice none 0 0) 1 24 Tryz.underlying36 infoIs rfl (by decide) ((own_only (own_only hy5 (Only.refl [] W5).drew (by simp)) k6 (by simp)).alloc _) (slc_new1 (w := w6) (e := 43) (cs := [.slice A6 l.length c6]) rfl) (by simp [Value.oneCell']) (by omega) (by unfold maxLen; omega) (Nat.zero_le _))
  have HR4 := Lib.hid hr4
  have HW5 := Lib.hid hW5
  have HYl := Lib.hid hYl
  clear hr4 hO4 hW5 hYl
  go_enter Tryz.func45, Tryz.ntmps45
  go_wp2_with (at_builtin; refine Lib.wpList_append_run _ rfl (.tmp 14) (.tmp 16) 36 36 rfl _ _ rfl rfl _ _ HR4.out ?_)
  rw [← HW5.out]
  refine wp_region_in (Value.slice Ay Y.length cy).ownBlock.toList [0, 1, 2, 3, 4, 5] [6, 7, 8] [9, 10, 11] (by kernel_rfl) (by kernel_rfl) (by intro c d u a w h; cases d <;> exact h) ?_
  show wpQuiet _ _ _ _ [_, _, _, _, _, _] _
  repeat (go_big_quiet_step (fail))
  refine wpQuiet_nil ?_
  show wpList _ _ _ [_] _ _
  go_wp2_with fail
  refine HCp.out.mono ?_
  rintro e w6 ⟨A6, c6, rfl, hown6, k6⟩
  obtain ⟨A8, c8, w8, hr8, hown8, hO8, hf8⟩ := HAp.out w6 A6 c6 k6
  have k56 : Only [] W5 w6 := (Only.refl [] W5).drew.trans k6
  have k58 : Only (Value.slice Ay Y.length cy).ownBlock.toList W5 w8 := ((k56.alloc (.cells #[.slice A6 l.length c6] 43)).of_nil).trans hO8
  have HR8 := Lib.hid hr8
  clear hr8 HAp HCp
  go_wp2_with fail
  refine check_of k56.of_nil ?_
  show wpList _ _ _ [_] _ _
  go_wp2_with fail
  refine check_of (k56.alloc _).of_nil ?_
  show wpList _ _ _ [_] _ _
  go_wp2_with (at_builtin; refine Lib.wpList_append_run _ rfl (.tmp 24) (.tmp 27) 36 36 rfl _ _ rfl rfl _ _ HR8.out ?_)
  refine check_of k58 ?_
  show wpList _ _ _ [_, _, _] _ _
  have hby : bb ∉ (Value.slice Ay Y.length cy).ownBlock.toList := fun q => (ny bb (by simpa using q)).1 rfl
  have hBk8 := k58.blk hBk5 hby
  have f38 : w8.cell? ⟨bb, 3, none⟩ = some (.slice Ay Y.length cy) := hBk8.cell 3
  have fr38 : w8.frozen? ⟨bb, 3, none⟩ = false := hBk8.free 3
  clear HR4 HR8 d3 g2 g24 fr24 g35
  go_wp2
  go_end0
  have hYl := HYl.out
  have hz5 := k5.size
  have hz4 := k4.size
  have hz6 := k56.size
  have hz8 := k58.size
  have O9 : Only (bb :: ((Value.slice Ai I.length ci).ownBlock.toList ++ (Value.slice Ay Y.length cy).ownBlock.toList)) w (w8.setCell ⟨bb, 3, none⟩ (.slice A8 (Y.length + 1) c8)) :=
    ((k5.mono (fun b q => by rcases List.mem_cons.1 q with y | y; (simp [y]); (simp at y; simp [y]))).trans (k58.mono (fun b q => by simp at q; simp [q]))).setCell (.inl (by simp)) _
  have hvl := World.ownsRow.lt hB.ri
  have hyl := World.ownsRow.lt hB.ry
  have hxl := World.ownsRow.lt ho
  have b4 : ∀ b, (Value.slice A4 (I.length + 1) c4).ownBlock = some b → (Value.slice Ai I.length ci).ownBlock = some b ∨ w.heap.size + 1 ≤ b := fun b q => (hf4 b q).imp id (fun z => by simpa using z)
  have b8 : ∀ b, (Value.slice A8 (Y.length + 1) c8).ownBlock = some b → (Value.slice Ay Y.length cy).ownBlock = some b ∨ w6.heap.size + 1 ≤ b := fun b q => (hf8 b q).imp id (fun z => by simpa using z)
  have l4 : ∀ b, (Value.slice A4 (I.length + 1) c4).ownBlock = some b → b < w4.heap.size := fun b q => (World.ownsRow.lt hown4 b q).2
  have z45 : w4.heap.size = W5.heap.size := by rw [HW5.out]; simp
  have l6 := World.ownsRow.lt hown6
  have z6 : ∀ b, (Value.slice A6 l.length c6).ownBlock = some b → w.heap.size ≤ b := fun b q => by have h1 := (l6 b q).1; have : W5.drew.heap.size = W5.heap.size := rfl; omega
  have set_ok : ∀ {v : Value} {n : Nat} {xs : List Value} {e : TypeId} {w0 : World} {u : Value} {k : Nat}, w0.ownsRow 0 e 1 v n xs → v.ownBlock ≠ some bb → (w0.setCell ⟨bb, k, none⟩ u).ownsRow 0 e 1 v n xs := fun h1 h2 => own_only h1 ((Only.refl [bb] _).setCell (.inl (by simp)) _) (fun b q => by
    simp
    intro e
    rw [e] at q
    exact h2 q)
  have hnb4 : (Value.slice A4 (I.length + 1) c4).ownBlock ≠ some bb := fun q => by
    rcases b4 bb q with z | z
    · exact (ni bb z).1 rfl
    · omega
  have hnb8 : (Value.slice A8 (Y.length + 1) c8).ownBlock ≠ some bb := fun q => by
    rcases b8 bb q with z | z
    · exact (ny bb z).1 rfl
    · omega
  have hri : (w8.setCell ⟨bb, 3, none⟩ (.slice A8 (Y.length + 1) c8)).ownsRow 0 43 1 (.slice A4 (I.length + 1) c4) (I.length + 1) (I.map (·.1) ++ [.slice A l.length c]) := by
    refine set_ok (own_only (S := (Value.slice Ay Y.length cy).ownBlock.toList) (w := W5) ?_ k58 (fun b q z => ?_)) hnb4
    · rw [HW5.out]
      exact set_ok hown4 hnb4
    · have hz := hyl b (by simpa using z)
      rcases b4 b q with y | y
      · exact hB.ni b y (by simpa using z)
      · omega
  have hry : (w8.setCell ⟨bb, 3, none⟩ (.slice A8 (Y.length + 1) c8)).ownsRow 0 43 1 (.slice A8 (Y.length + 1) c8) (Y.length + 1) (Y.map (·.1) ++ [.slice A6 l.length c6]) := set_ok hown8 hnb8
  have hS9 : ∀ b, b ∈ bb :: ((Value.slice Ai I.length ci).ownBlock.toList ++ (Value.slice Ay Y.length cy).ownBlock.toList) → b = bb ∨ (Value.slice Ai I.length ci).ownBlock = some b ∨ (Value.slice Ay Y.length cy).ownBlock = some b := fun b q => by simpa using q
  have hkiN : ∀ b ∈ blocksV (Y ++ I), b ∉ bb :: ((Value.slice Ai I.length ci).ownBlock.toList ++ (Value.slice Ay Y.length cy).ownBlock.toList) := fun b q z => by
    rcases hS9 b z with y | y | y
    · exact nbi (by rw [← y]; exact q)
    · exact (ni b y).2.2.2.2 q
    · exact (ny b y).2.2.2.2 q
  have hktN : ∀ b ∈ blocksV (X ++ T), b ∉ bb :: ((Value.slice Ai I.length ci).ownBlock.toList ++ (Value.slice Ay Y.length cy).ownBlock.toList) := fun b q z => by
    rcases hS9 b z with y | y | y
    · exact hB.ne.2.2.2.2.1 (by rw [← y]; exact q)
    · exact (ni b y).2.2.2.1 q
    · exact (ny b y).2.2.2.1 q
  have hy6 : (w8.setCell ⟨bb, 3, none⟩ (.slice A8 (Y.length + 1) c8)).ownsRow 0 3 1 (.slice A6 l.length c6) l.length (ints l) := by
    refine set_ok (own_only (S := (Value.slice Ay Y.length cy).ownBlock.toList) (own_base (World.ownsRow.alloc hown6 _) (Nat.zero_le _)) hO8 (fun b q z => ?_)) (fun q => ?_)
    · have := (hyl b (by simpa using z)).2
      have := z6 b q
      omega
    · have := z6 bb q
      omega
  have hv9 : (w8.setCell ⟨bb, 3, none⟩ (.slice A8 (Y.length + 1) c8)).ownsRow 0 3 1 (.slice A l.length c) l.length (ints l) := own_only ho O9 (fun b q z => (hf b q).1 (by
    rcases hS9 b z with y | y | y
    · exact mem_hBk.2 (.inl y)
    · exact mem_hBk.2 (.inr (.inr (.inr (.inl y))))
    · exact mem_hBk.2 (.inr (.inr (.inr (.inr (.inl y)))))))
  have hki : Kpt (w8.setCell ⟨bb, 3, none⟩ (.slice A8 (Y.length + 1) c8)) 3 ((Y ++ [(.slice A6 l.length c6, ints l)]) ++ (I ++ [(.slice A l.length c, ints l)])) := by
    have hil : (ints l).length = l.length := by simp [ints]
    refine Kpt.perm ?_ (app_perm (Value.slice A l.length c, ints l) (Value.slice A6 l.length c6, ints l) Y I)
    have e1 := (hB.ki.only O9 hkiN).cons (A := A6) (c := c6) (cs := ints l) (by rw [hil]; exact hy6) (fun b q z => by
      rw [hil] at q
      have := hB.ki.lt b z
      have := z6 b q
      omega)
    have e2 := e1.cons (A := A) (c := c) (cs := ints l) (by rw [hil]; exact hv9) (fun b q z => by
      rw [hil] at q
      obtain ⟨p, hp, hpb⟩ := mem_blocksV.1 z
      rcases List.mem_cons.1 hp with rfl | hp
      · rw [hil] at hpb
        have := z6 b hpb
        have := (hxl b q).2
        omega
      · exact (hf b q).1 (mem_hBk.2 (.inr (.inr (.inr (.inr (.inr (.inr (mem_blocksV.2 ⟨p, hp, hpb⟩)))))))))
    rw [hil] at e2
    exact e2
  have hlen1 : (I ++ [(Value.slice A l.length c, ints l)]).length = I.length + 1 := by simp
  have hlen2 : (Y ++ [(Value.slice A6 l.length c6, ints l)]).length = Y.length + 1 := by simp
  have hmem : ∀ b ∈ hBk bb vt vx (.slice A4 (I.length + 1) c4) (.slice A8 (Y.length + 1) c8) T X (I ++ [(.slice A l.length c, ints l)]) (Y ++ [(.slice A6 l.length c6, ints l)]),
      b ∈ hBk bb vt vx (.slice Ai I.length ci) (.slice Ay Y.length cy) T X I Y ∨ (Value.slice A l.length c).ownBlock = some b ∨ w.heap.size ≤ b := fun b hb => by
    rcases mem_hBk.1 hb with y | y | y | y | y | y | y
    · exact .inl (mem_hBk.2 (.inl y))
    · exact .inl (mem_hBk.2 (.inr (.inl y)))
    · exact .inl (mem_hBk.2 (.inr (.inr (.inl y))))
    · rcases b4 b y with z | z
      · exact .inl (mem_hBk.2 (.inr (.inr (.inr (.inl z)))))
      · exact .inr (.inr (by omega))
    · rcases b8 b y with z | z
      · exact .inl (mem_hBk.2 (.inr (.inr (.inr (.inr (.inl z))))))
      · exact .inr (.inr (by omega))
    · exact .inl (mem_hBk.2 (.inr (.inr (.inr (.inr (.inr (.inl y)))))))
    · obtain ⟨p, hp, hpb⟩ := mem_blocksV.1 y
      have hin : ∀ q ∈ Y ++ I, q.1.ownBlock = some b → b ∈ hBk bb vt vx (.slice Ai I.length ci) (.slice Ay Y.length cy) T X I Y := fun q hq z => mem_hBk.2 (.inr (.inr (.inr (.inr (.inr (.inr (mem_blocksV.2 ⟨q, hq, z⟩)))))))
      rcases List.mem_append.1 hp with hp | hp
      · rcases List.mem_append.1 hp with hp | hp
        · exact .inl (hin p (List.mem_append_left _ hp) hpb)
        · have e : p = (.slice A6 l.length c6, ints l) := by simpa using hp
          rw [e] at hpb
          exact .inr (.inr (z6 b hpb))
      · rcases List.mem_append.1 hp with hp | hp
        · exact .inl (hin p (List.mem_append_right _ hp) hpb)
        · have e : p = (.slice A l.length c, ints l) := by simpa using hp
          rw [e] at hpb
          exact .inr (.inl hpb)
  have hblk9 : Blk (w8.setCell ⟨bb, 3, none⟩ (.slice A8 (Y.length + 1) c8)) bb 42 #[vt, vx, .slice A4 (I.length + 1) c4, .slice A8 (Y.length + 1) c8, .slice none 0 0, .slice none 0 0, .slice none 0 0, .slice none 0 0, .slice none 0 0, .slice none 0 0, .slice none 0 0, .slice none 0 0] := hBk8.set 3 _
  obtain ⟨W9, hW9⟩ : ∃ W9, W9 = w8.setCell ⟨bb, 3, none⟩ (.slice A8 (Y.length + 1) c8) := ⟨_, rfl⟩
  rw [← hW9] at hblk9 O9 hri hry hy6 hv9 hki ⊢
  obtain ⟨S9, hS9e⟩ : ∃ S9, S9 = bb :: ((Value.slice Ai I.length ci).ownBlock.toList ++ (Value.slice Ay Y.length cy).ownBlock.toList) := ⟨_, rfl⟩
  rw [← hS9e] at O9 hS9 hkiN hktN
  have hrt9 : W9.ownsRow 0 61 1 vt T.length (T.map (·.1)) := own_only hB.rt O9 (fun b q z => by
    rcases hS9 b z with y | y | y
    · exact (nt b q).1 y
    · exact (nt b q).2.1 y
    · exact (nt b q).2.2.1 y)
  have hrx9 : W9.ownsRow 0 61 1 vx X.length (X.map (·.1)) := own_only hB.rx O9 (fun b q z => by
    rcases hS9 b z with y | y | y
    · exact (nx b q).1 y
    · exact (nx b q).2.1 y
    · exact (nx b q).2.2.1 y)
  have hni9 : ∀ b, (Value.slice A4 (I.length + 1) c4).ownBlock = some b → (Value.slice A8 (Y.length + 1) c8).ownBlock ≠ some b := fun b q z => by
    have h4 := l4 b q
    rcases b8 b z with y8 | y8
    · rcases b4 b q with y4 | y4
      · exact hB.ni b y4 y8
      · have := (hyl b y8).2
        omega
    · omega
  have hkt9 := hB.kt.only O9 hktN
  have hsH : ∀ b ∈ S9, b ∈ hBk bb vt vx (.slice Ai I.length ci) (.slice Ay Y.length cy) T X I Y := fun b z => by
    rcases hS9 b z with y | y | y
    · exact mem_hBk.2 (.inl y)
    · exact mem_hBk.2 (.inr (.inr (.inr (.inl y))))
    · exact mem_hBk.2 (.inr (.inr (.inr (.inr (.inl y)))))
  obtain ⟨I9, hI9⟩ : ∃ I9, I9 = I ++ [(Value.slice A l.length c, ints l)] := ⟨_, rfl⟩
  obtain ⟨Y9, hY9⟩ : ∃ Y9, Y9 = Y ++ [(Value.slice A6 l.length c6, ints l)] := ⟨_, rfl⟩
  have hri9 : W9.ownsRow 0 43 1 (.slice A4 (I.length + 1) c4) I9.length (I9.map (·.1)) := by
    rw [hI9, hlen1, List.map_append]
    exact hri
  have hry9 : W9.ownsRow 0 43 1 (.slice A8 (Y.length + 1) c8) Y9.length (Y9.map (·.1)) := by
    rw [hY9, hlen2, List.map_append]
    exact hry
  have hsi9 : I9.map (·.2) = Y9.map (·.2) := by
    rw [hI9, hY9, List.map_append, List.map_append, hB.si]
    rfl
  have hci9 : ∀ p ∈ I9, ∃ l : List Int, p.2 = ints l ∧ l.length ≤ 1000000 := fun p hp => by
    rw [hI9] at hp
    rcases List.mem_append.1 hp with q | q
    · exact hB.ci p q
    · have : p = (.slice A l.length c, ints l) := by simpa using q
      rw [this]
      exact ⟨l, rfl, hl⟩
  have hfw9 : I9.length ≤ 250 := by rw [hI9, hlen1]; omega
  rw [← hI9, ← hY9] at hki hmem
  have hfin : BkAt W9 bb vt vx (.slice A4 (I.length + 1) c4) (.slice A8 (Y.length + 1) c8) T X I9 Y9 := ⟨hblk9, hrt9, hrx9, hri9, hry9, hB.nt, hni9, hkt9, hki, hB.st, hsi9, hB.ct, hci9, ⟨hB.few.1, hfw9⟩⟩
  have ho9 : Only [] a W9 := hoa.step O9 (fun b z => .inr (hab b (hsH b z)))
  have hab9 : ∀ b ∈ hBk bb vt vx (.slice A4 (I.length + 1) c4) (.slice A8 (Y.length + 1) c8) T X I9 Y9, a.heap.size ≤ b := fun b hb => by
    rcases hmem b hb with y | y | y
    · exact hab b y
    · exact (hf b y).2
    · exact Nat.le_trans hoa.size y
  have hty : ∀ b ∈ S9, ∀ cur, ¬ Blk w b 3 cur ∧ ¬ Blk w b 9 cur := fun b z cur => by
    rcases hS9 b z with y | y | y
    · rw [y]
      exact ⟨fun q => q.other hB.blk (by decide) rfl, fun q => q.other hB.blk (by decide) rfl⟩
    · obtain ⟨c1, q1⟩ := own_type hB.ri y
      exact ⟨fun q => q.other q1 (by decide) rfl, fun q => q.other q1 (by decide) rfl⟩
    · obtain ⟨c1, q1⟩ := own_type hB.ry y
      exact ⟨fun q => q.other q1 (by decide) rfl, fun q => q.other q1 (by decide) rfl⟩
  exact ⟨rfl, hBk bb vt vx (.slice A4 (I.length + 1) c4) (.slice A8 (Y.length + 1) c8) T X I9 Y9, ⟨⟨vt, vx, .slice A4 (I.length + 1) c4, .slice A8 (Y.length + 1) c8, T, X, I9, Y9, hfin, rfl⟩, ho9, hab9⟩, ⟨S9, O9, hsH, hty⟩, hmem⟩
end Go.Proofs.YthjgplgfcbhihaaGreat
/- One more list in the book: Texts. -/
set_option linter.unusedVariables false
set_option linter.unusedSimpArgs false
namespace Go.Proofs.YthjgplgfcbhihaaGreat
open Go.RowKit Go Go.Sort Go.Lib
set_option maxRecDepth 100000 in
set_option maxHeartbeats 400000 in
theorem btexts_any {a w : World} {H : List Nat} {bb : Nat} (h : HasB a w H bb) {A : Option Addr} {c : Nat} {l : List ByteArray} (ho : w.ownsRow 0 9 1 (.slice A l.length c) l.length (strs l))
    (hf : ∀ b, (Value.slice A l.length c).ownBlock = some b → b ∉ H ∧ a.heap.size ≤ b) (hl : l.length ≤ 1000000) :
    Calls Tryz.prog 46 #[.pointer (some ⟨bb, 0, none⟩), .slice A l.length c] w fun e w' => e = .returned (.tuple #[]) ∧ KpTo a w H bb (.slice A l.length c) w' := by
  have hh := h
  obtain ⟨⟨vt, vx, vi, vy, T, X, I, Y, hB, rfl⟩, hoa, hab⟩ := h
  obtain ⟨At, ct0, rfl, hni, hmi⟩ := own_form hB.rt
  obtain ⟨Ax, cx, rfl, hny, hmy⟩ := own_form hB.rx
  unfold maxLen at hmi hmy
  have g2 : w.cell? ⟨bb, 0, none⟩ = some (.slice At T.length ct0) := hB.blk.cell 0
  have hbl := hB.blk.lt
  by_cases hlt : 250 ≤ T.length
  · have HK := Lib.hid (show KpTo a w _ bb (.slice A l.length c) w from ⟨_, hh, ⟨[], Only.refl _ _, by simp, by simp⟩, fun b hb => .inl hb⟩)
    clear hh hB hab hf
    go_enter Tryz.func46, Tryz.ntmps46
    go_wp2
    go_end0
    exact ⟨rfl, HK.out⟩
  have hYl : X.length = T.length := by
    have := congrArg List.length hB.st
    simpa using this.symm
  obtain ⟨ni, ny, nt, nx, nbt, _⟩ := hB.ne
  -- the first list
  obtain ⟨A4, c4, w4, hr4, hown4, hO4, hf4⟩ := run_app (P := Tryz.prog) (w := w.alloc (.cells #[.slice A l.length c] 61)) 35 35 0 61 (.slice none 0 0) 1 24 Tryz.underlying35 infoSs rfl (by decide) (hB.rt.alloc _) (slc_new1 (w := w) (e := 61) (cs := [.slice A l.length c]) rfl) (by simp [Value.oneCell']) (by omega) (by unfold maxLen; omega) (Nat.zero_le _)
  have k4 : Only (Value.slice At T.length ct0).ownBlock.toList w w4 := (((Only.refl [] w).alloc _).of_nil).trans hO4
  have hbi : bb ∉ (Value.slice At T.length ct0).ownBlock.toList := fun q => (nt bb (by simpa using q)).1 rfl
  have hB4 := k4.blk hB.blk hbi
  have g24 : w4.cell? ⟨bb, 0, none⟩ = some (.slice At T.length ct0) := hB4.cell 0
  have fr24 : w4.frozen? ⟨bb, 0, none⟩ = false := hB4.free 0
  obtain ⟨W5, hW5⟩ : ∃ W5, W5 = w4.setCell ⟨bb, 0, none⟩ (.slice A4 (T.length + 1) c4) := ⟨_, rfl⟩
  have k5 : Only (bb :: (Value.slice At T.length ct0).ownBlock.toList) w W5 := by rw [hW5]; exact (k4.mono (fun b q => List.mem_cons_of_mem _ q)).setCell (.inl (by simp)) _
  have hfB : ∀ b, (Value.slice A l.length c).ownBlock = some b → b ∉ bb :: (Value.slice At T.length ct0).ownBlock.toList := fun b q z => (hf b q).1 (by
    rcases List.mem_cons.1 z with y | y
    · exact mem_hBk.2 (.inl y)
    · exact mem_hBk.2 (.inr (.inl (by simpa using y))))
  have hv5 : W5.ownsRow 0 9 1 (.slice A l.length c) l.length (strs l) := own_only ho k5 hfB
  have hyd : ∀ b, (Value.slice Ax X.length cx).ownBlock = some b → b ∉ bb :: (Value.slice At T.length ct0).ownBlock.toList := fun b q z => by
    rcases List.mem_cons.1 z with y | y
    · exact (nx b q).1 y
    · exact hB.nt b (by simpa using y) q
  have hy5 := own_only hB.rx k5 hyd
  have hBk5 : Blk W5 bb 42 #[.slice A4 (T.length + 1) c4, .slice Ax X.length cx, vi, vy, .slice none 0 0, .slice none 0 0, .slice none 0 0, .slice none 0 0, .slice none 0 0, .slice none 0 0, .slice none 0 0, .slice none 0 0] := by rw [hW5]; exact hB4.set 0 _
  have g35 : W5.cell? ⟨bb, 1, none⟩ = some (.slice Ax X.length cx) := hBk5.cell 1
  have d3 := Within.cell (S := (Value.slice Ax X.length cx).ownBlock.toList) g35 (by
    intro q
    exact (nx bb (by simpa using q)).1 rfl)
  -- its copy
  have HCp := Lib.hid (copyT_any (w := W5.drew) ((Slc.of_own hv5).1.only0 (Only.refl _ _).drew) hl)
  have HAp := Lib.hid (fun (w6 : World) (A6 : Option Addr) (c6 : Nat) (k6 : Only [] W5.drew w6) => run_app (P := Tryz.prog) (w := w6.alloc (.cells #[.slice A6 l.length c6] 61)) 35 35 0 61 (.slice none 0 0) 1 24 Tryz.underlying35 infoSs rfl (by decide) ((own_only (own_only hy5 (Only.refl [] W5).drew (by simp)) k6 (by simp)).alloc _) (slc_new1 (w := w6) (e := 61) (cs := [.slice A6 l.length c6]) rfl) (by simp [Value.oneCell']) (by omega) (by unfold maxLen; omega) (Nat.zero_le _))
  have HR4 := Lib.hid hr4
  have HW5 := Lib.hid hW5
  have HYl := Lib.hid hYl
  clear hr4 hO4 hW5 hYl
  go_enter Tryz.func46, Tryz.ntmps46
  go_wp2_with (at_builtin; refine Lib.wpList_append_run _ rfl (.tmp 14) (.tmp 16) 35 35 rfl _ _ rfl rfl _ _ HR4.out ?_)
  rw [← HW5.out]
  refine wp_region_in (Value.slice Ax X.length cx).ownBlock.toList [0, 1, 2, 3, 4, 5] [6, 7, 8] [9, 10, 11] (by kernel_rfl) (by kernel_rfl) (by intro c d u a w h; cases d <;> exact h) ?_
  show wpQuiet _ _ _ _ [_, _, _, _, _, _] _
  repeat (go_big_quiet_step (fail))
  refine wpQuiet_nil ?_
  show wpList _ _ _ [_] _ _
  go_wp2_with fail
  refine HCp.out.mono ?_
  rintro e w6 ⟨A6, c6, rfl, hown6, k6⟩
  obtain ⟨A8, c8, w8, hr8, hown8, hO8, hf8⟩ := HAp.out w6 A6 c6 k6
  have k56 : Only [] W5 w6 := (Only.refl [] W5).drew.trans k6
  have k58 : Only (Value.slice Ax X.length cx).ownBlock.toList W5 w8 := ((k56.alloc (.cells #[.slice A6 l.length c6] 61)).of_nil).trans hO8
  have HR8 := Lib.hid hr8
  clear hr8 HAp HCp
  go_wp2_with fail
  refine check_of k56.of_nil ?_
  show wpList _ _ _ [_] _ _
  go_wp2_with fail
  refine check_of (k56.alloc _).of_nil ?_
  show wpList _ _ _ [_] _ _
  go_wp2_with (at_builtin; refine Lib.wpList_append_run _ rfl (.tmp 24) (.tmp 27) 35 35 rfl _ _ rfl rfl _ _ HR8.out ?_)
  refine check_of k58 ?_
  show wpList _ _ _ [_, _, _] _ _
  have hby : bb ∉ (Value.slice Ax X.length cx).ownBlock.toList := fun q => (nx bb (by simpa using q)).1 rfl
  have hBk8 := k58.blk hBk5 hby
  have f38 : w8.cell? ⟨bb, 1, none⟩ = some (.slice Ax X.length cx) := hBk8.cell 1
  have fr38 : w8.frozen? ⟨bb, 1, none⟩ = false := hBk8.free 1
  clear HR4 HR8 d3 g2 g24 fr24 g35
  go_wp2
  go_end0
  have hYl := HYl.out
  have hz5 := k5.size
  have hz4 := k4.size
  have hz6 := k56.size
  have hz8 := k58.size
  have O9 : Only (bb :: ((Value.slice At T.length ct0).ownBlock.toList ++ (Value.slice Ax X.length cx).ownBlock.toList)) w (w8.setCell ⟨bb, 1, none⟩ (.slice A8 (X.length + 1) c8)) :=
    ((k5.mono (fun b q => by rcases List.mem_cons.1 q with y | y; (simp [y]); (simp at y; simp [y]))).trans (k58.mono (fun b q => by simp at q; simp [q]))).setCell (.inl (by simp)) _
  have hvl := World.ownsRow.lt hB.rt
  have hyl := World.ownsRow.lt hB.rx
  have hxl := World.ownsRow.lt ho
  have b4 : ∀ b, (Value.slice A4 (T.length + 1) c4).ownBlock = some b → (Value.slice At T.length ct0).ownBlock = some b ∨ w.heap.size + 1 ≤ b := fun b q => (hf4 b q).imp id (fun z => by simpa using z)
  have b8 : ∀ b, (Value.slice A8 (X.length + 1) c8).ownBlock = some b → (Value.slice Ax X.length cx).ownBlock = some b ∨ w6.heap.size + 1 ≤ b := fun b q => (hf8 b q).imp id (fun z => by simpa using z)
  have l4 : ∀ b, (Value.slice A4 (T.length + 1) c4).ownBlock = some b → b < w4.heap.size := fun b q => (World.ownsRow.lt hown4 b q).2
  have z45 : w4.heap.size = W5.heap.size := by rw [HW5.out]; simp
  have l6 := World.ownsRow.lt hown6
  have z6 : ∀ b, (Value.slice A6 l.length c6).ownBlock = some b → w.heap.size ≤ b := fun b q => by have h1 := (l6 b q).1; have : W5.drew.heap.size = W5.heap.size := rfl; omega
  have set_ok : ∀ {v : Value} {n : Nat} {xs : List Value} {e : TypeId} {w0 : World} {u : Value} {k : Nat}, w0.ownsRow 0 e 1 v n xs → v.ownBlock ≠ some bb → (w0.setCell ⟨bb, k, none⟩ u).ownsRow 0 e 1 v n xs := fun h1 h2 => own_only h1 ((Only.refl [bb] _).setCell (.inl (by simp)) _) (fun b q => by
    simp
    intro e
    rw [e] at q
    exact h2 q)
  have hnb4 : (Value.slice A4 (T.length + 1) c4).ownBlock ≠ some bb := fun q => by
    rcases b4 bb q with z | z
    · exact (nt bb z).1 rfl
    · omega
  have hnb8 : (Value.slice A8 (X.length + 1) c8).ownBlock ≠ some bb := fun q => by
    rcases b8 bb q with z | z
    · exact (nx bb z).1 rfl
    · omega
  have hri : (w8.setCell ⟨bb, 1, none⟩ (.slice A8 (X.length + 1) c8)).ownsRow 0 61 1 (.slice A4 (T.length + 1) c4) (T.length + 1) (T.map (·.1) ++ [.slice A l.length c]) := by
    refine set_ok (own_only (S := (Value.slice Ax X.length cx).ownBlock.toList) (w := W5) ?_ k58 (fun b q z => ?_)) hnb4
    · rw [HW5.out]
      exact set_ok hown4 hnb4
    · have hz := hyl b (by simpa using z)
      rcases b4 b q with y | y
      · exact hB.nt b y (by simpa using z)
      · omega
  have hry : (w8.setCell ⟨bb, 1, none⟩ (.slice A8 (X.length + 1) c8)).ownsRow 0 61 1 (.slice A8 (X.length + 1) c8) (X.length + 1) (X.map (·.1) ++ [.slice A6 l.length c6]) := set_ok hown8 hnb8
  have hS9 : ∀ b, b ∈ bb :: ((Value.slice At T.length ct0).ownBlock.toList ++ (Value.slice Ax X.length cx).ownBlock.toList) → b = bb ∨ (Value.slice At T.length ct0).ownBlock = some b ∨ (Value.slice Ax X.length cx).ownBlock = some b := fun b q => by simpa using q
  have hkiN : ∀ b ∈ blocksV (X ++ T), b ∉ bb :: ((Value.slice At T.length ct0).ownBlock.toList ++ (Value.slice Ax X.length cx).ownBlock.toList) := fun b q z => by
    rcases hS9 b z with y | y | y
    · exact nbt (by rw [← y]; exact q)
    · exact (nt b y).2.2.2.1 q
    · exact (nx b y).2.2.2.1 q
  have hktN : ∀ b ∈ blocksV (Y ++ I), b ∉ bb :: ((Value.slice At T.length ct0).ownBlock.toList ++ (Value.slice Ax X.length cx).ownBlock.toList) := fun b q z => by
    rcases hS9 b z with y | y | y
    · exact hB.ne.2.2.2.2.2 (by rw [← y]; exact q)
    · exact (nt b y).2.2.2.2 q
    · exact (nx b y).2.2.2.2 q
  have hy6 : (w8.setCell ⟨bb, 1, none⟩ (.slice A8 (X.length + 1) c8)).ownsRow 0 9 1 (.slice A6 l.length c6) l.length (strs l) := by
    refine set_ok (own_only (S := (Value.slice Ax X.length cx).ownBlock.toList) (own_base (World.ownsRow.alloc hown6 _) (Nat.zero_le _)) hO8 (fun b q z => ?_)) (fun q => ?_)
    · have := (hyl b (by simpa using z)).2
      have := z6 b q
      omega
    · have := z6 bb q
      omega
  have hv9 : (w8.setCell ⟨bb, 1, none⟩ (.slice A8 (X.length + 1) c8)).ownsRow 0 9 1 (.slice A l.length c) l.length (strs l) := own_only ho O9 (fun b q z => (hf b q).1 (by
    rcases hS9 b z with y | y | y
    · exact mem_hBk.2 (.inl y)
    · exact mem_hBk.2 (.inr (.inl y))
    · exact mem_hBk.2 (.inr (.inr (.inl y)))))
  have hki : Kpt (w8.setCell ⟨bb, 1, none⟩ (.slice A8 (X.length + 1) c8)) 9 ((X ++ [(.slice A6 l.length c6, strs l)]) ++ (T ++ [(.slice A l.length c, strs l)])) := by
    have hil : (strs l).length = l.length := by simp [strs]
    refine Kpt.perm ?_ (app_perm (Value.slice A l.length c, strs l) (Value.slice A6 l.length c6, strs l) X T)
    have e1 := (hB.kt.only O9 hkiN).cons (A := A6) (c := c6) (cs := strs l) (by rw [hil]; exact hy6) (fun b q z => by
      rw [hil] at q
      have := hB.kt.lt b z
      have := z6 b q
      omega)
    have e2 := e1.cons (A := A) (c := c) (cs := strs l) (by rw [hil]; exact hv9) (fun b q z => by
      rw [hil] at q
      obtain ⟨p, hp, hpb⟩ := mem_blocksV.1 z
      rcases List.mem_cons.1 hp with rfl | hp
      · rw [hil] at hpb
        have := z6 b hpb
        have := (hxl b q).2
        omega
      · exact (hf b q).1 (mem_hBk.2 (.inr (.inr (.inr (.inr (.inr (.inl (mem_blocksV.2 ⟨p, hp, hpb⟩)))))))))
    rw [hil] at e2
    exact e2
  have hlen1 : (T ++ [(Value.slice A l.length c, strs l)]).length = T.length + 1 := by simp
  have hlen2 : (X ++ [(Value.slice A6 l.length c6, strs l)]).length = X.length + 1 := by simp
  have hmem : ∀ b ∈ hBk bb (.slice A4 (T.length + 1) c4) (.slice A8 (X.length + 1) c8) vi vy (T ++ [(.slice A l.length c, strs l)]) (X ++ [(.slice A6 l.length c6, strs l)]) I Y,
      b ∈ hBk bb (.slice At T.length ct0) (.slice Ax X.length cx) vi vy T X I Y ∨ (Value.slice A l.length c).ownBlock = some b ∨ w.heap.size ≤ b := fun b hb => by
    rcases mem_hBk.1 hb with y | y | y | y | y | y | y
    · exact .inl (mem_hBk.2 (.inl y))
    · rcases b4 b y with z | z
      · exact .inl (mem_hBk.2 (.inr (.inl z)))
      · exact .inr (.inr (by omega))
    · rcases b8 b y with z | z
      · exact .inl (mem_hBk.2 (.inr (.inr (.inl z))))
      · exact .inr (.inr (by omega))
    · exact .inl (mem_hBk.2 (.inr (.inr (.inr (.inl y)))))
    · exact .inl (mem_hBk.2 (.inr (.inr (.inr (.inr (.inl y))))))
    · obtain ⟨p, hp, hpb⟩ := mem_blocksV.1 y
      have hin : ∀ q ∈ X ++ T, q.1.ownBlock = some b → b ∈ hBk bb (.slice At T.length ct0) (.slice Ax X.length cx) vi vy T X I Y := fun q hq z => mem_hBk.2 (.inr (.inr (.inr (.inr (.inr (.inl (mem_blocksV.2 ⟨q, hq, z⟩)))))))
      rcases List.mem_append.1 hp with hp | hp
      · rcases List.mem_append.1 hp with hp | hp
        · exact .inl (hin p (List.mem_append_left _ hp) hpb)
        · have e : p = (.slice A6 l.length c6, strs l) := by simpa using hp
          rw [e] at hpb
          exact .inr (.inr (z6 b hpb))
      · rcases List.mem_append.1 hp with hp | hp
        · exact .inl (hin p (List.mem_append_right _ hp) hpb)
        · have e : p = (.slice A l.length c, strs l) := by simpa using hp
          rw [e] at hpb
          exact .inr (.inl hpb)
    · exact .inl (mem_hBk.2 (.inr (.inr (.inr (.inr (.inr (.inr y)))))))
  have hblk9 : Blk (w8.setCell ⟨bb, 1, none⟩ (.slice A8 (X.length + 1) c8)) bb 42 #[.slice A4 (T.length + 1) c4, .slice A8 (X.length + 1) c8, vi, vy, .slice none 0 0, .slice none 0 0, .slice none 0 0, .slice none 0 0, .slice none 0 0, .slice none 0 0, .slice none 0 0, .slice none 0 0] := hBk8.set 1 _
  obtain ⟨W9, hW9⟩ : ∃ W9, W9 = w8.setCell ⟨bb, 1, none⟩ (.slice A8 (X.length + 1) c8) := ⟨_, rfl⟩
  rw [← hW9] at hblk9 O9 hri hry hy6 hv9 hki ⊢
  obtain ⟨S9, hS9e⟩ : ∃ S9, S9 = bb :: ((Value.slice At T.length ct0).ownBlock.toList ++ (Value.slice Ax X.length cx).ownBlock.toList) := ⟨_, rfl⟩
  rw [← hS9e] at O9 hS9 hkiN hktN
  have hrt9 : W9.ownsRow 0 43 1 vi I.length (I.map (·.1)) := own_only hB.ri O9 (fun b q z => by
    rcases hS9 b z with y | y | y
    · exact (ni b q).1 y
    · exact (ni b q).2.1 y
    · exact (ni b q).2.2.1 y)
  have hrx9 : W9.ownsRow 0 43 1 vy Y.length (Y.map (·.1)) := own_only hB.ry O9 (fun b q z => by
    rcases hS9 b z with y | y | y
    · exact (ny b q).1 y
    · exact (ny b q).2.1 y
    · exact (ny b q).2.2.1 y)
  have hni9 : ∀ b, (Value.slice A4 (T.length + 1) c4).ownBlock = some b → (Value.slice A8 (X.length + 1) c8).ownBlock ≠ some b := fun b q z => by
    have h4 := l4 b q
    rcases b8 b z with y8 | y8
    · rcases b4 b q with y4 | y4
      · exact hB.nt b y4 y8
      · have := (hyl b y8).2
        omega
    · omega
  have hkt9 := hB.ki.only O9 hktN
  have hsH : ∀ b ∈ S9, b ∈ hBk bb (.slice At T.length ct0) (.slice Ax X.length cx) vi vy T X I Y := fun b z => by
    rcases hS9 b z with y | y | y
    · exact mem_hBk.2 (.inl y)
    · exact mem_hBk.2 (.inr (.inl y))
    · exact mem_hBk.2 (.inr (.inr (.inl y)))
  obtain ⟨T9, hT9⟩ : ∃ T9, T9 = T ++ [(Value.slice A l.length c, strs l)] := ⟨_, rfl⟩
  obtain ⟨X9, hX9⟩ : ∃ X9, X9 = X ++ [(Value.slice A6 l.length c6, strs l)] := ⟨_, rfl⟩
  have hri9 : W9.ownsRow 0 61 1 (.slice A4 (T.length + 1) c4) T9.length (T9.map (·.1)) := by
    rw [hT9, hlen1, List.map_append]
    exact hri
  have hry9 : W9.ownsRow 0 61 1 (.slice A8 (X.length + 1) c8) X9.length (X9.map (·.1)) := by
    rw [hX9, hlen2, List.map_append]
    exact hry
  have hsi9 : T9.map (·.2) = X9.map (·.2) := by
    rw [hT9, hX9, List.map_append, List.map_append, hB.st]
    rfl
  have hci9 : ∀ p ∈ T9, ∃ l : List ByteArray, p.2 = strs l ∧ l.length ≤ 1000000 := fun p hp => by
    rw [hT9] at hp
    rcases List.mem_append.1 hp with q | q
    · exact hB.ct p q
    · have : p = (.slice A l.length c, strs l) := by simpa using q
      rw [this]
      exact ⟨l, rfl, hl⟩
  have hfw9 : T9.length ≤ 250 := by rw [hT9, hlen1]; omega
  rw [← hT9, ← hX9] at hki hmem
  have hfin : BkAt W9 bb (.slice A4 (T.length + 1) c4) (.slice A8 (X.length + 1) c8) vi vy T9 X9 I Y := ⟨hblk9, hri9, hry9, hrt9, hrx9, hni9, hB.ni, hki, hkt9, hsi9, hB.si, hci9, hB.ci, ⟨hfw9, hB.few.2⟩⟩
  have ho9 : Only [] a W9 := hoa.step O9 (fun b z => .inr (hab b (hsH b z)))
  have hab9 : ∀ b ∈ hBk bb (.slice A4 (T.length + 1) c4) (.slice A8 (X.length + 1) c8) vi vy T9 X9 I Y, a.heap.size ≤ b := fun b hb => by
    rcases hmem b hb with y | y | y
    · exact hab b y
    · exact (hf b y).2
    · exact Nat.le_trans hoa.size y
  have hty : ∀ b ∈ S9, ∀ cur, ¬ Blk w b 3 cur ∧ ¬ Blk w b 9 cur := fun b z cur => by
    rcases hS9 b z with y | y | y
    · rw [y]
      exact ⟨fun q => q.other hB.blk (by decide) rfl, fun q => q.other hB.blk (by decide) rfl⟩
    · obtain ⟨c1, q1⟩ := own_type hB.rt y
      exact ⟨fun q => q.other q1 (by decide) rfl, fun q => q.other q1 (by decide) rfl⟩
    · obtain ⟨c1, q1⟩ := own_type hB.rx y
      exact ⟨fun q => q.other q1 (by decide) rfl, fun q => q.other q1 (by decide) rfl⟩
  exact ⟨rfl, hBk bb (.slice A4 (T.length + 1) c4) (.slice A8 (X.length + 1) c8) vi vy T9 X9 I Y, ⟨⟨.slice A4 (T.length + 1) c4, .slice A8 (X.length + 1) c8, vi, vy, T9, X9, I, Y, hfin, rfl⟩, ho9, hab9⟩, ⟨S9, O9, hsH, hty⟩, hmem⟩
end Go.Proofs.YthjgplgfcbhihaaGreat
/- An append leaves the old slice readable, as it was. -/
set_option linter.unusedVariables false
set_option linter.unusedSimpArgs false
namespace Go.Proofs.YthjgplgfcbhihaaGreat
open Go.RowKit Go
theorem run_app_old {P : Program} {w : World} (t ty : TypeId) (base : Nat) (e : TypeId) (z : Value) (size bytes : Nat) (ht : P.underlying t = some (.slice e)) (hi : (P.info? e).map (fun i => (i.zero, i.size, i.bytes)) = some (some z, size, bytes))
    (hzs : z.cells.size = size) (hsz : 0 < size) {v : Value} {n : Nat} {xs : List Value} (hown : w.ownsRow base e size v n xs) {u : Value} {m : Nat} {cells : List Value} (hsl : Slc w size u m cells)
    (h1 : ∀ u ∈ cells, u.oneCell' = true) (hb : (n + m) * bytes ≤ 140737488355328) (hm : n + m ≤ maxLen) (hbase : base ≤ w.heap.size) {v' : Value} {w' : World} (hr : (Builtin.append_ #[t, t] ty #[v, u]).run P w = .ok v' w')
    (hown' : w'.ownsRow base e size v' (n + m) (xs ++ cells)) : Slc w' size v n xs := by
  have hold := (Slc.of_own hown).1
  have hm2 := hm
  unfold maxLen at hm2
  obtain ⟨i, hi1, hi2, hi3, hi4⟩ := info_parts hi
  obtain ⟨B, c, rfl, hl, hc1, hc2, hc⟩ := hsl
  by_cases h0 : m = 0
  · subst h0
    obtain ⟨A, cap, rfl, hnc, _⟩ := own_form hown
    have hs : (Go.sizeOf e).run P w = .ok size w := by simp [Go.sizeOf, typeInfo, hi1, hi3]
    rw [run_append_zero w t e ty A B size n cap c ht hs hnc] at hr
    injection hr with _ e2
    rw [← e2]
    exact hold
  · obtain ⟨b, off, rfl, hb1, hcc⟩ := hc (by omega)
    have hnews : ∀ j x, cells[j]? = some x → w.cell? ((⟨b, off, none⟩ : Addr).add j) = some x := fun j x hx => by
      have hj : j < cells.length := (List.getElem?_eq_some_iff.1 hx).1
      rw [show ((⟨b, off, none⟩ : Addr).add j) = ⟨b, off + j, none⟩ by simp [Addr.add], hcc j hj, hx]
    rcases hown.2 with ⟨rfl, rfl⟩ | ⟨g, cap, cur, rfl, hbg, hg, hnc, hcm, hcs, htake⟩
    · have hx : xs = [] := List.eq_nil_of_length_eq_zero (by simpa using hown.1)
      subst hx
      exact Slc.nil _ _
    · subst hi3 hi4
      by_cases hroom : n + m ≤ cap
      · have hfit : n * i.size + cells.length ≤ cur.size := by rw [hl, hcs, ← Nat.add_mul]; exact Nat.mul_le_mul_right _ hroom
        have hr2 := run_append_room (P := P) w t ty e i ht hi1 g n cap cur hg ⟨b, off, none⟩ m c cells hl hnews h1 hroom hfit
        rw [hr2] at hr
        injection hr with e1 e2
        subst e1
        have hs := slc_take (Slc.of_own hown').1 (Nat.le_add_right n m)
        rwa [← hown.1, List.take_left] at hs
      · have holds : ∀ j u, xs[j]? = some u → w.cell? ((⟨g, 0, none⟩ : Addr).add j) = some u := hown.cells (g := g) rfl
        have hr2 := run_append_grow (P := P) w t ty e i z ht hi1 hi2 ⟨g, 0, none⟩ n cap xs hown.1 holds ⟨b, off, none⟩ m c cells hl hnews (by omega) (by omega) (growslice_fits (by omega) hb)
        rw [hr2] at hr
        injection hr with e1 e2
        rw [← e2]
        exact hold.only ((Only.refl [] w).drew.alloc _) (by simp)
end Go.Proofs.YthjgplgfcbhihaaGreat
/- The book's marks for numbers; what is still as it was. -/
set_option linter.unusedVariables false
set_option linter.unusedSimpArgs false
namespace Go.Proofs.YthjgplgfcbhihaaGreat
open Go.RowKit Go Go.Sort Go.Lib
def mkF (i f n : Nat) : List Int := (List.range n).map (fun k : Nat => -1000000 * (i : Int) - ((f : Int) + (k : Int)) - 7)
theorem mkF_len (i f n : Nat) : (mkF i f n).length = n := by simp [mkF]
theorem mkF_succ (i f n : Nat) : mkF i f (n + 1) = mkF i f n ++ [-1000000 * (i : Int) - ((f : Int) + (n : Int)) - 7] := by simp [mkF, List.range_succ]
theorem mkF_app (i f n m : Nat) : mkF i f n ++ mkF i (f + n) m = mkF i f (n + m) := by
  induction m with
  | zero => simp [mkF]
  | succ m ih =>
    rw [mkF_succ, ← List.append_assoc, ih, ← Nat.add_assoc, mkF_succ]
    congr 3
    omega
theorem mkF_get (i f n k : Nat) (h : k < (mkF i f n).length) : (mkF i f n)[k] = -1000000 * (i : Int) - ((f : Int) + (k : Int)) - 7 := by simp [mkF]
set_option maxRecDepth 100000 in
set_option maxHeartbeats 500000 in
theorem markI_any (w : World) (i f n : Nat) (hi : i ≤ 1000) (hf : f + n ≤ 2000000) :
    Calls Tryz.prog 98 #[.int .i64 i, .int .i64 f, .int .i64 n] w fun e w' => ∃ A c, e = .returned (.slice A n c) ∧ w'.ownsRow w.heap.size 3 1 (.slice A n c) n (ints (mkF i f n)) ∧ Only [] w w' := by
  have hfn := IntWalk.i64_in ((f : Int) + (n : Int)) ⟨by omega, by omega⟩
  have hmul := IntWalk.i64_in (-1000000 * (i : Int)) ⟨by omega, by omega⟩
  go_enter Tryz.func98, Tryz.ntmps98
  go_wp2
  go_loopw [7, 8] (fun ov kv wr => ∃ (j : Nat) (A : Option Addr) (c : Nat), j ≤ n ∧ ov = .slice A j c ∧ kv = .int .i64 ((f : Int) + (j : Int)) ∧ wr.ownsRow w.heap.size 3 1 (.slice A j c) j (ints (mkF i f j)) ∧ Only [] w wr) (fun _ kv _ => f + n - (intOf kv).toNat)
  case atStart => exact ⟨0, none, 0, Nat.zero_le _, rfl, by simp, World.ownsRow_nil _ _ _ _, Only.refl _ _⟩
  case round =>
    obtain ⟨j, A, c, hj, rfl, rfl, hown, hO⟩ := hrel
    by_cases hlt : j < n
    · have hlt' : (f : Int) + (j : Int) < (f : Int) + (n : Int) := by omega
      have h1 := IntWalk.i64_in (-1000000 * (i : Int) - ((f : Int) + (j : Int))) ⟨by omega, by omega⟩
      have h2 := IntWalk.i64_in (-1000000 * (i : Int) - ((f : Int) + (j : Int)) - 7) ⟨by omega, by omega⟩
      have h3 := IntWalk.i64_in ((f : Int) + (j : Int) + 1) ⟨by omega, by omega⟩
      obtain ⟨A4, c4, w4, hr, hown4, hO4, _⟩ := run_app (P := Tryz.prog) (w := wr.alloc (.cells #[.int .i64 (-1000000 * (i : Int) - ((f : Int) + (j : Int)) - 7)] 3)) 43 43 w.heap.size 3 (.int .i64 0) 1 8 Tryz.underlying43 infoI rfl (by decide) (hown.alloc _) (slc_new1 (w := wr) (e := 3) (cs := [.int .i64 (-1000000 * (i : Int) - ((f : Int) + (j : Int)) - 7)]) rfl) (by simp [Value.oneCell']) (by omega) (by unfold maxLen; omega) (Nat.le_trans hO.size (by simp))
      have k4 : Only [] w w4 := (hO.alloc (.cells #[.int .i64 (-1000000 * (i : Int) - ((f : Int) + (j : Int)) - 7)] 3)).step hO4 (fun b hb => .inr (World.ownsRow.lt hown b (by simpa using hb)).1)
      have ho4 : w4.ownsRow w.heap.size 3 1 (.slice A4 (j + 1) c4) (j + 1) (ints (mkF i f (j + 1))) := by
        rw [mkF_succ, show ints (mkF i f j ++ [-1000000 * (i : Int) - ((f : Int) + (j : Int)) - 7]) = ints (mkF i f j) ++ [.int .i64 (-1000000 * (i : Int) - ((f : Int) + (j : Int)) - 7)] by simp [ints]]
        exact hown4
      have HR := Lib.hid hr
      have HO := Lib.hid ho4
      clear hr hown4 hO4 ho4 hown
      go_wp2_with (at_builtin; refine Lib.wpList_append_run _ rfl (.tmp 17) (.tmp 23) 43 43 rfl _ _ rfl rfl _ _ HR.out ?_)
      exact ⟨⟨j + 1, A4, c4, hlt, rfl, by simp [Int.add_assoc], HO.out, k4⟩, by simp [intOf]; omega⟩
    · have hjn : j = n := by omega
      have hlt' : ¬ (f : Int) + (j : Int) < (f : Int) + (n : Int) := by omega
      subst hjn
      have HO := Lib.hid hown
      clear hown hlt
      go_wp2
      go_ret
      exact ⟨_, _, rfl, HO.out, hO⟩
/-- A row of rows: what lies at place j. -/
theorem row_at {w : World} {A : Option Addr} {n c : Nat} {e : TypeId} {xs : List Value} {base : Nat} (h : w.ownsRow base e 1 (.slice A n c) n xs) (j : Nat) (hj : j < n) : ∃ b, A = some ⟨b, 0, none⟩ ∧ b < w.heap.size ∧ w.cell? ⟨b, j, none⟩ = xs[j]? := by
  obtain ⟨g, cap, e1, _, hlt⟩ := h.form (by omega)
  injection e1 with q1 _ _
  refine ⟨g, q1, hlt, ?_⟩
  have h' := h
  rw [q1] at h'
  exact h'.cellAt j (by omega)
set_option maxRecDepth 100000 in
set_option maxHeartbeats 500000 in
theorem stillI_any {w : World} {bb : Nat} {vt vx vi vy : Value} {T X I Y : List (Value × List Value)} (h : BkAt w bb vt vx vi vy T X I Y) :
    Calls Tryz.prog 54 #[.pointer (some ⟨bb, 0, none⟩)] w fun e w' => e = .returned (.bool true) ∧ Only [] w w' := by
  obtain ⟨Ai, ci, rfl, hni, hmi⟩ := own_form h.ri
  obtain ⟨Ay, cy, rfl, hny, hmy⟩ := own_form h.ry
  unfold maxLen at hmi hmy
  have g2 : w.cell? ⟨bb, 2, none⟩ = some (.slice Ai I.length ci) := h.blk.cell 2
  have g3 : w.cell? ⟨bb, 3, none⟩ = some (.slice Ay Y.length cy) := h.blk.cell 3
  have hbl := h.blk.lt
  have hYl : Y.length = I.length := by
    have := congrArg List.length h.si
    simpa using this.symm
  have HYl := Lib.hid hYl
  have HB := Lib.hid h
  clear hYl h
  go_enter Tryz.func54, Tryz.ntmps54
  go_wp2
  go_loopw [3] (fun iv wr => ∃ j : Nat, j ≤ I.length ∧ iv = .int .i64 j ∧ Only [] w wr) (fun iv _ => I.length - (intOf iv).toNat)
  case atStart => exact ⟨0, Nat.zero_le _, rfl, Only.refl _ _⟩
  case round =>
    obtain ⟨j, hj, rfl, hO⟩ := hrel
    have k2 : wr.cell? ⟨bb, 2, none⟩ = some (.slice Ai I.length ci) := (hO.cell hbl (by simp)).trans g2
    have k3 : wr.cell? ⟨bb, 3, none⟩ = some (.slice Ay Y.length cy) := (hO.cell hbl (by simp)).trans g3
    by_cases hlt : j < I.length
    · have hltY : j < Y.length := by rw [HYl.out]; exact hlt
      obtain ⟨bi, rfl, hbi, hci⟩ := row_at HB.out.ri j hlt
      obtain ⟨by', rfl, hby, hcy⟩ := row_at HB.out.ry j hltY
      rw [List.getElem?_map, List.getElem?_eq_getElem hlt] at hci
      rw [List.getElem?_map, List.getElem?_eq_getElem hltY] at hcy
      obtain ⟨p, hp⟩ : ∃ p, p = I[j] := ⟨_, rfl⟩
      obtain ⟨q, hq⟩ : ∃ q, q = Y[j] := ⟨_, rfl⟩
      have hpm : p ∈ I := by rw [hp]; exact List.getElem_mem hlt
      have hqm : q ∈ Y := by rw [hq]; exact List.getElem_mem hltY
      have hpq : p.2 = q.2 := by
        have := congrArg (fun l => l[j]?) HB.out.si
        simp only [List.getElem?_map, List.getElem?_eq_getElem hlt, List.getElem?_eq_getElem hltY, Option.map_some] at this
        rw [hp, hq]
        injection this
      rw [← hp] at hci
      rw [← hq] at hcy
      obtain ⟨l, hl, _⟩ := HB.out.ci p hpm
      obtain ⟨A1, c1, e1⟩ := HB.out.ki.lit p (List.mem_append_right _ hpm)
      obtain ⟨A2, c2, e2⟩ := HB.out.ki.lit q (List.mem_append_left _ hqm)
      have o1 := HB.out.ki.own p (List.mem_append_right _ hpm)
      have o2 := HB.out.ki.own q (List.mem_append_left _ hqm)
      have hil : (ints l).length = l.length := by simp [ints]
      rw [hl, hil] at o1 e1
      rw [← hpq, hl, hil] at o2 e2
      have HSm := Lib.hid (fun (W : World) (hW : Only [] w W) => sameI_refl (l := l) ((Slc.of_own o1).1.only0 hW) ((Slc.of_own o2).1.only0 hW))
      have hci' : w.cell? ⟨bi, j, none⟩ = some (.slice A1 l.length c1) := by rw [hci, ← e1]; rfl
      have hcy' : w.cell? ⟨by', j, none⟩ = some (.slice A2 l.length c2) := by rw [hcy, ← e2]; rfl
      rw [e1] at HSm
      rw [e2] at HSm
      have d2 := Within.cell (S := []) k2 (by simp)
      have d3 := Within.cell (S := []) k3 (by simp)
      have d4 := Within.cell (S := []) ((hO.cell hbi (by simp)).trans hci') (by simp)
      have d5 := Within.cell (S := []) ((hO.cell hby (by simp)).trans hcy') (by simp)
      clear hci hcy hci' hcy' hp hq hpq hl e1 e2 o1 o2 hpm hqm
      go_wp2_with fail
      refine wp_region_in [] [0, 1, 2, 3, 4, 5, 6, 7, 8, 9, 10, 11, 12, 13] [14, 15] [] (by kernel_rfl) (by kernel_rfl) (by intro c d u a w h; cases d <;> exact h) ?_
      show wpQuiet _ _ _ _ [_, _, _, _, _, _, _, _, _, _, _, _, _, _] _
      repeat (go_big_quiet_step (fail))
      refine wpQuiet_nil ?_
      clear d2 d3 d4 d5
      show wpList _ _ _ [_] _ _
      go_wp2_with fail
      refine (HSm.out _ hO.drew).mono ?_
      rintro e w1 ⟨rfl, k1⟩
      have k1' := (Only.refl [] wr).drew.trans k1
      go_wp2_with fail
      refine check_of (S := []) k1' ?_
      show wpList _ _ _ [_] _ _
      go_wp2_with fail
      refine check_last (S := []) k1' (fun _ _ q => q) ?_
      clear HSm k1
      go_wp2
      exact ⟨⟨j + 1, hlt, by simp, hO.trans k1'⟩, by simp [intOf]; omega⟩
    · clear HB HYl k3
      go_wp2
      go_ret
      exact ⟨rfl, hO⟩
end Go.Proofs.YthjgplgfcbhihaaGreat
/- The book: all lists of numbers are marked. -/
set_option linter.unusedVariables false
set_option linter.unusedSimpArgs false
namespace Go.Proofs.YthjgplgfcbhihaaGreat
open Go.RowKit Go Go.Sort Go.Lib
/-- The lists of numbers of a book, behind what was still. -/
structure PI (w : World) (bb : Nat) (cs : Array Value) (A : Option Addr) (c : Nat) (I : List (Value × List Value)) : Prop where
  blk : Blk w bb 42 cs
  at2 : cs[2]? = some (.slice A I.length c)
  cap : I.length ≤ c ∧ c ≤ maxLen
  ri : w.ownsRow 0 43 1 (.slice A I.length c) I.length (I.map (·.1))
  k : Kpt w 3 I
  ci : ∀ p ∈ I, ∃ l : List Int, p.2 = ints l ∧ l.length ≤ 1000000
  few : I.length ≤ 250
theorem Kpt.set {w w' : World} {e : TypeId} {L : List (Value × List Value)} (h : Kpt w e L) {i : Nat} (hi : i < L.length) {cs : List Value} (hl : cs.length = L[i].2.length) (k : Only (L[i].1.ownBlock.toList) w w') (ho : w'.ownsRow 0 e 1 L[i].1 cs.length cs) : Kpt w' e (L.set i (L[i].1, cs)) := by
  have hsp : L = L.take i ++ L[i] :: L.drop (i + 1) := by
    conv => lhs; rw [← List.take_append_drop i L, List.drop_eq_getElem_cons hi]
  obtain ⟨p, hp⟩ : ∃ p, p = L[i] := ⟨_, rfl⟩
  rw [← hp] at hl k ho hsp ⊢
  have h1 := h.perm (M := p :: (L.take i ++ L.drop (i + 1))) (by
    conv => lhs; rw [hsp]
    exact List.perm_middle)
  have hn := h1.nod
  have hrest : Kpt w e (L.take i ++ L.drop (i + 1)) := ⟨fun q hq => h1.own q (List.mem_cons_of_mem _ hq), (List.nodup_append.1 (show (p.1.ownBlock.toList ++ blocksV (L.take i ++ L.drop (i + 1))).Nodup from hn)).2.1, fun q hq => h1.lit q (List.mem_cons_of_mem _ hq)⟩
  have hdis : ∀ b ∈ blocksV (L.take i ++ L.drop (i + 1)), b ∉ p.1.ownBlock.toList := fun b hb q => (List.nodup_append.1 (show (p.1.ownBlock.toList ++ blocksV (L.take i ++ L.drop (i + 1))).Nodup from hn)).2.2 b q b hb rfl
  obtain ⟨A, c, e1⟩ := h1.lit p (by simp)
  rw [← hl] at e1
  have h2 := (hrest.only k hdis).cons (A := A) (c := c) (cs := cs) (by rw [← e1]; exact ho) (fun b q z => hdis b z (by rw [e1]; simpa using q))
  rw [← e1] at h2
  refine h2.perm ?_
  have hst : L.set i (p.1, cs) = L.take i ++ (p.1, cs) :: L.drop (i + 1) := by rw [List.set_eq_take_append_cons_drop, if_pos hi]
  rw [hst]
  exact List.perm_middle.symm
/-- The first i rows marked. -/
def pmI (i : Nat) (I : List (Value × List Value)) : List (Value × List Value) := I.mapIdx (fun k p => if k < i then (p.1, ints (mkF k 0 p.2.length)) else p)
theorem pmI_len (i : Nat) (I : List (Value × List Value)) : (pmI i I).length = I.length := by simp [pmI]
theorem pmI_get (i : Nat) (I : List (Value × List Value)) (k : Nat) (h : k < I.length) (h' : k < (pmI i I).length) : (pmI i I)[k] = if k < i then (I[k].1, ints (mkF k 0 I[k].2.length)) else I[k] := by simp [pmI]
theorem pmI_zero (I : List (Value × List Value)) : pmI 0 I = I := by
  apply List.ext_getElem
  · simp [pmI]
  · intro k h1 h2
    rw [pmI_get 0 I k h2]
    simp
theorem pmI_fst (i : Nat) (I : List (Value × List Value)) : (pmI i I).map (·.1) = I.map (·.1) := by
  apply List.ext_getElem
  · simp [pmI]
  · intro k h1 h2
    have hk : k < I.length := by simpa using h2
    rw [List.getElem_map, List.getElem_map, pmI_get i I k hk]
    split <;> rfl
theorem pmI_set (i : Nat) (I : List (Value × List Value)) (h : i < I.length) : (pmI i I).set i (I[i].1, ints (mkF i 0 I[i].2.length)) = pmI (i + 1) I := by
  apply List.ext_getElem
  · simp [pmI]
  · intro k h1 h2
    have hk : k < I.length := by rw [pmI_len] at h2; exact h2
    rw [List.getElem_set, pmI_get (i + 1) I k hk]
    by_cases e : i = k
    · subst e
      rw [if_pos rfl, if_pos (by omega)]
    · rw [if_neg e, pmI_get i I k hk]
      by_cases q : k < i
      · rw [if_pos q, if_pos (by omega)]
      · rw [if_neg q, if_neg (by omega)]
theorem marks_set (i k : Nat) (xs : List Value) (hk : k < xs.length) : (ints (mkF i 0 k) ++ xs.drop k).set k (.int .i64 (-1000000 * (i : Int) - (((0 : Nat) : Int) + (k : Int)) - 7)) = ints (mkF i 0 (k + 1)) ++ xs.drop (k + 1) := by
  have hl : (ints (mkF i 0 k)).length = k := by simp [ints, mkF_len]
  rw [List.drop_eq_getElem_cons hk, List.set_append_right _ _ (by omega), hl, mkF_succ]
  simp only [Nat.sub_self, List.set_cons_zero]
  simp [ints]
end Go.Proofs.YthjgplgfcbhihaaGreat
