/- Contract: Late. -/
import Derived.Test.YthjgplgfcbhihaaGc14
set_option linter.unusedVariables false
set_option linter.unusedSimpArgs false
namespace Go.Proofs.Ythjgplgfcbhihaa
open Go.RowKit Go Go.Sort Go.Lib
/-- A row of texts that lies beside the group. -/
structure BesideS (w : World) (v : Value) (xs : List ByteArray) (H : List Nat) : Prop where
  own : w.ownsRow 0 9 1 v xs.length (strs xs)
  out : ∀ b, v.ownBlock = some b → b ∉ H
theorem BesideS.step {w w' : World} {v : Value} {xs : List ByteArray} {H H' : List Nat} (h : BesideS w v xs H) (k : Stepped w w' H H') : BesideS w' v xs H' := by
  obtain ⟨⟨S, k1, k2⟩, k3⟩ := k
  refine ⟨own_only h.own k1 (fun b hb q => h.out b hb (k2 b q)), fun b hb q => ?_⟩
  rcases k3 b q with q2 | q2
  · exact h.out b hb q2
  · have := (World.ownsRow.lt h.own b hb).2
    omega
theorem lateGo_snoc : ∀ (l : List ByteArray) (x : ByteArray) (n : Int) (g : GS), GS.lateGo (l ++ [x]) n g = ((GS.lateGo l n g).1 + ((GS.lateGo l n g).2.nak x 2 ((GS.lateGo l n g).2.fl x)).1, ((GS.lateGo l n g).2.nak x 2 ((GS.lateGo l n g).2.fl x)).2)
  | [], x, n, g => rfl
  | y :: l, x, n, g => by
    rw [List.cons_append, GS.lateGo, GS.lateGo]
    exact lateGo_snoc l x _ _
theorem nak_num (g : GS) (who : ByteArray) (how : Int) (l : List Int) : 0 ≤ (g.nak who how l).1 ∧ (g.nak who how l).1 ≤ l.length := by
  unfold GS.nak
  split
  · simp
  · have := take_len (g := g) who l
    dsimp only
    omega
theorem lateGo_num {N : Nat} : ∀ (l : List ByteArray) (n : Int) (g : GS), g.Ok N → n ≤ (GS.lateGo l n g).1 ∧ (GS.lateGo l n g).1 ≤ n + l.length * (1000 * N : Nat)
  | [], n, g, _ => by simp [GS.lateGo]
  | y :: l, n, g, h => by
    rw [GS.lateGo]
    have ih := lateGo_num l (n + (g.nak y 2 (g.fl y)).1) _ (GS.nak_ok h y 2 (g.fl y))
    have hn := nak_num g y 2 (g.fl y)
    have hl := h.len (h.flOf y)
    have e : (((y :: l).length : Nat) : Int) * ((1000 * N : Nat) : Int) = (l.length : Int) * ((1000 * N : Nat) : Int) + ((1000 * N : Nat) : Int) := by
      rw [List.length_cons, Int.natCast_add, Int.add_mul]
      simp
    rw [e]
    omega
section
variable {w : World} {gb fb tb N : Nat} {vw vp va vs : Value} {pf : ByteArray → Value} {g : GS}
set_option maxRecDepth 100000 in
set_option maxHeartbeats 2000000 in
theorem late_any (h : GAt w gb fb tb vw vp va vs pf g) (hok : g.Ok N) (hnm : g.Nm) (hN : N ≤ 1000) :
    Calls Try.prog 19 #[.pointer (some ⟨gb, 0, none⟩)] w fun e w' => e = .returned (.int .i64 g.late.1) ∧ GOut w (hG gb fb tb (rowsOf vw vp va vs pf g)) gb fb tb g.late.2 w' := by
  have HW := Lib.hid (who_any h hok hnm)
  have hwl := who_len g
  have hfew := hok.few
  have hlth := h.lt
  obtain ⟨H, hH⟩ : ∃ H, H = hG gb fb tb (rowsOf vw vp va vs pf g) := ⟨_, rfl⟩
  have HSt0 := Lib.hid (fun (w1 : World) (k : Only [] w w1) => (show Stepped w w1 H (hG gb fb tb (rowsOf vw vp va vs pf g)) by rw [hH]; exact Stepped.first0 k (Stepped.refl _ _)))
  rw [← hH]
  obtain ⟨L, hL⟩ : ∃ L, L = g.who := ⟨_, rfl⟩
  rw [← hL] at HW hwl
  have hlate : g.late = GS.lateGo L 0 g := by unfold GS.late; rw [hL]
  rw [hlate]
  obtain ⟨Z, hZ⟩ : ∃ Z, Z = GS.lateGo L 0 g := ⟨_, rfl⟩
  rw [← hZ]
  have HZ := Lib.hid hZ
  have hLl : L.length ≤ 20 := by omega
  have HA := Lib.hid h
  clear hlate hL hH h hwl hZ
  go_enter Try.func19, Try.ntmps19
  go_wp2_with (go_at_call 28; refine HW.out.mono ?_; rintro e w1 ⟨ov, rfl, hO1, ho1⟩; obtain ⟨Ao, co, rfl, _, _⟩ := own_form hO1)
  go_loopw [3, 9] (fun nv iv wr => ∃ (i : Nat) (vw' vp' va' vs' : Value) (pf' : ByteArray → Value), i ≤ L.length ∧ iv = .int .i64 i ∧ nv = .int .i64 (GS.lateGo (L.take i) 0 g).1 ∧ GAt wr gb fb tb vw' vp' va' vs' pf' (GS.lateGo (L.take i) 0 g).2 ∧ Stepped w wr H (hG gb fb tb (rowsOf vw' vp' va' vs' pf' (GS.lateGo (L.take i) 0 g).2)) ∧ BesideS wr (.slice Ao L.length co) L (hG gb fb tb (rowsOf vw' vp' va' vs' pf' (GS.lateGo (L.take i) 0 g).2))) (fun _ iv _ => L.length - (intOf iv).toNat)
  case atStart =>
    refine ⟨0, vw, vp, va, vs, pf, Nat.zero_le _, rfl, rfl, HA.out.only0 ho1, HSt0.out _ ho1, own_base hO1 (Nat.zero_le _), fun b hb q => ?_⟩
    have := hlth b q
    have := (World.ownsRow.lt hO1 b hb).1
    omega
  case round =>
    obtain ⟨i, vw', vp', va', vs', pf', hil, rfl, rfl, hA, hSt, hBs⟩ := hrel
    have hGok := GS.lateGo_ok (L.take i) 0 hok
    have hnum := lateGo_num (L.take i) 0 g hok
    have hnum2 : ((L.take i).length : Int) * ((1000 * N : Nat) : Int) ≤ 200000000 := by
      have : (L.take i).length * (1000 * N) ≤ 20 * 10000000 := Nat.mul_le_mul (by simp; omega) (by omega)
      rw [← Int.natCast_mul]
      omega
    by_cases hlt : i < L.length
    · have hsn := lateGo_snoc (L.take i) L[i] 0 g
      rw [← List.take_succ_eq_append_getElem hlt] at hsn
      obtain ⟨A2, c2, e2, _, _, hel⟩ := (Slc.of_own hBs.own).1.openS
      cases e2
      obtain ⟨bl, ol, rfl, hbl, hcl⟩ := hel i hlt
      obtain ⟨x, hx⟩ : ∃ x, x = L[i] := ⟨_, rfl⟩
      rw [← hx] at hsn hcl
      obtain ⟨R, hR⟩ : ∃ R, R = GS.lateGo (L.take i) 0 g := ⟨_, rfl⟩
      rw [← hR] at hsn hA hSt hBs hGok hnum ⊢
      obtain ⟨n, G⟩ := R
      dsimp only at hsn hA hSt hBs hGok hnum ⊢
      have hfl := hGok.len (hGok.flOf x)
      have HF := Lib.hid (flight_any hA x (by omega))
      have hna := nak_num G x 2 (G.fl x)
      have hnk := fun (w2 : World) (v2 : Value) (ho2 : Own w2 v2 (G.fl x)) (hf2 : ∀ b, v2.ownBlock = some b → wr.heap.size ≤ b) (hk2 : Only [] wr w2) =>
        nak_any (hA.only0 hk2) hGok (by omega) x 2 ho2.slc (fun b hb => .inl (fun q => by have := hf2 b hb; have := hA.lt b q; omega)) (by omega)
      obtain ⟨M, hM⟩ : ∃ M, M = G.nak x 2 (G.fl x) := ⟨_, rfl⟩
      rw [← hM] at hsn hna hnk
      have hadd := IntWalk.i64_in (n + M.1) ⟨by omega, by omega⟩
      have HSn := Lib.hid hsn
      have HNk := Lib.hid hnk
      clear hsn hel hx hR hM hnk
      go_wp2_with (first
        | (go_at_call 12; refine HF.out.mono ?_; rintro e w2 ⟨v2, rfl, ho2, hf2, hk2⟩)
        | (go_at_call 20; refine (HNk.out _ _ ho2 hf2 hk2).mono ?_; rintro e w3 ⟨rfl, hout⟩))
      obtain ⟨a1, a2, a3, a4, a5, k1, k2⟩ := hout
      refine ⟨⟨i + 1, a1, a2, a3, a4, a5, hlt, by simp, ?_⟩, by simp [intOf]; omega⟩
      rw [HSn.out]
      have k3 := Stepped.first0 hk2 k2
      exact ⟨rfl, k1, hSt.trans k3, hBs.step k3⟩
    · have hie : i = L.length := by omega
      subst hie
      rw [List.take_length] at hA hSt hBs hnum ⊢
      have hz := HZ.out
      obtain ⟨R, hR⟩ : ∃ R, R = GS.lateGo L 0 g := ⟨_, rfl⟩
      rw [← hR] at hA hSt hBs hnum hz ⊢
      have HZ2 := Lib.hid hz
      clear hz hR
      obtain ⟨n, G⟩ := R
      go_wp2
      go_ret
      rw [HZ2.out]
      exact ⟨rfl, _, _, _, _, _, hA, hSt⟩
end
end Go.Proofs.Ythjgplgfcbhihaa
