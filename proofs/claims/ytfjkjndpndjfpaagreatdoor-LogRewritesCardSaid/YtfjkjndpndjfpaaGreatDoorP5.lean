/- Proved here: contracts of functions and plain laws, part 5 of one proof. Conditions: each theorem names its own. -/
import Derived.Test.YtfjkjndpndjfpaaGreatDoorP4
import Derived.Handy
/- Contracts: one record is put into a log (chunklog append). -/
set_option linter.unusedVariables false
set_option linter.unusedSimpArgs false
namespace Go.Proofs.YtfjkjndpndjfpaaGreatDoor
open Go Go.RowKit Go.Sort
section
variable {a w w1 w' : World} {lb db mb M N : Nat} {d : DS} {L : LogS} {kv pv : Value} {xs : List (Value × PartL)}
theorem append1_some (L : LogS) (d : DS) (body : ByteArray) {L1 : LogS} {d1 : DS} (h : L.next d body = (0, L1, d1)) {m : Nat} {p : PartL} (hm : L1.ps.length = m + 1) (hp : L1.ps[m]? = some p) :
    L.append1 d body = if (L1.file d1 ((m : Int)) (putF (1 :: body.data.toList)).1).1 ≠ 0 then L1.file d1 (m : Int) (putF (1 :: body.data.toList)).1 else
      (0, (L1.file d1 (m : Int) (putF (1 :: body.data.toList)).1).2.1.setPart m { p with bodies := p.bodies ++ [body], used := p.used + (body.size + 13) }, (L1.file d1 (m : Int) (putF (1 :: body.data.toList)).1).2.2) := by
  unfold LogS.append1
  rw [h]
  dsimp only
  rw [if_neg (by simp), hm, show (((m + 1 : Nat) : Int) - 1) = (m : Int) by omega]
  have hps := (LogS.file_eq L1 d1 (m : Int) (putF (1 :: body.data.toList)).1).1
  have hl : (L1.file d1 (m : Int) (putF (1 :: body.data.toList)).1).2.1.ps.getLast? = some p := by
    rw [hps, List.getLast?_eq_getElem?, hm]
    exact hp
  rw [hl]
  dsimp only
  have : (L1.file d1 (m : Int) (putF (1 :: body.data.toList)).1).2.1.ps.length - 1 = m := by rw [hps, hm]; rfl
  rw [this]
theorem append1_err (L : LogS) (d : DS) (body : ByteArray) (h : (L.next d body).1 ≠ 0) : L.append1 d body = L.next d body := by
  unfold LogS.append1
  dsimp only
  rw [if_pos h]
set_option maxRecDepth 100000 in
set_option maxHeartbeats 8000000 in
theorem jappend1_any (h : LogAt a w lb db mb d L kv pv xs) (hs : L.SmN N) (hN : N ≤ 900000) (hk : d.Ok M) (hM : M ≤ 1125899000000000) (body : ByteArray) (hb : body.size ≤ 1000000) :
    Calls Tryz.prog 39 #[.pointer (some ⟨lb, 0, none⟩), .string body] w fun e w' => e = .returned (.int .i64 (L.append1 d body).1) ∧ LTo a lb db mb (lblk lb db mb kv pv xs) w w' (L.append1 d body).2 := by
  have HNx := Lib.hid (jnext_any h (hs.sm (by omega)) hk (by omega) body)
  have hnl := LogS.next_last L d body
  have hns := LogS.SmN.next hs d body
  have hno := LogS.next_ok (L := L) hk body
  have HO := Lib.hid (LogOn.refl h)
  obtain ⟨R, hR⟩ : ∃ R, lblk lb db mb kv pv xs = R := ⟨_, rfl⟩
  rw [hR] at HO HNx ⊢
  have herr := append1_err L d body
  have hsome := fun L1 d1 => append1_some L d body (L1 := L1) (d1 := d1)
  obtain ⟨⟨e, L1, d1⟩, hn⟩ : ∃ q, L.next d body = q := ⟨_, rfl⟩
  rw [hn] at HNx hnl hns hno herr
  rw [hn] at hsome
  dsimp only at HNx hnl hns hno herr
  clear hR hn h hs hk
  by_cases he : e = 0
  · subst he
    obtain ⟨m, p, hm, hp, hpd⟩ := hnl rfl
    have hA := hsome L1 d1 rfl hm hp
    have HRc := Lib.hid fun (w1 : World) => record_any (w := w1) body (by omega)
    have hpl := putF_le body
    obtain ⟨⟨rb, re⟩, hrb⟩ : ∃ q, putF (1 :: body.data.toList) = q := ⟨_, rfl⟩
    rw [hrb] at hA HRc hpl
    dsimp only at hA HRc hpl
    have hps2 : (L1.file d1 (m : Int) rb).2.1.ps = L1.ps := (LogS.told_ps _ _).1
    have HJF := Lib.hid fun (W : World) (kv1 pv1 : Value) (xs1 : List (Value × PartL)) (h1 : LogAt a W lb db mb d1 L1 kv1 pv1 xs1) => jfile_at h1 hns.pre hno (k := (m : Int)) (by omega) (by have := hns.few; omega) rb (by omega)
    obtain ⟨⟨e2, L2, d2⟩, h2⟩ : ∃ q, L1.file d1 (m : Int) rb = q := ⟨_, rfl⟩
    rw [h2] at hA HJF hps2
    dsimp only at hA HJF hps2
    have HA := Lib.hid hA
    have hml : m + 1 ≤ 900001 := by have := hns.few; omega
    have hpu := hns.used p (List.mem_of_getElem? hp)
    have HP := Lib.hid hp
    have HM := Lib.hid hm
    have HP2 := Lib.hid hps2
    have hpb : p.bodies.length ≤ 900001 := by
      have h1 := hns.len
      have h2 := sum_take_le L1.ps (m + 1)
      have hmlt : m < L1.ps.length := by omega
      rw [sum_take_succ L1.ps hmlt, (List.getElem?_eq_some_iff.1 hp).2] at h2
      have h3 := sum_take_le L1.ps m
      unfold LogS.len at h1
      omega
    clear hA hps2 h2 hrb hsome hnl hns hno herr hp hm hM
    have e1 := IntWalk.i64_in (((m + 1 : Nat) : Int) - 1) ⟨by omega, by omega⟩
    have e3 := IntWalk.i64_in (p.used + ((body.size : Int) + 13)) ⟨by omega, by omega⟩
    go_enter Tryz.func39, Tryz.ntmps39
    go_wp2_with fail
    refine HNx.out.mono ?_
    rintro e5 w2 ⟨rfl, k2⟩
    obtain ⟨kv2, pv2, xs2, h2⟩ := k2.on
    have hxl : xs2.length = m + 1 := by have h9 := congrArg List.length h2.at_.ps; rw [List.length_map] at h9; have := HM.out; exact h9.symm.trans this
    have HO2 := Lib.hid h2
    have HXL := Lib.hid hxl
    obtain ⟨x, hx1, hx2, hx3⟩ := h2.at_.last hxl
    have hxp : x.2 = p := by
      have h9 := HP.out
      have h8 : L1.ps = xs2.map (·.2) := h2.at_.ps
      rw [h8, List.getElem?_map, hx1] at h9
      exact Option.some.inj h9
    obtain ⟨g, bc, hpv, hgb, g0, g1, g2⟩ := h2.at_.at (k := m) (by omega)
    rw [hxl] at hpv
    subst hpv
    clear h2 k2 hgb g0 g1 g2 hx2 hx3
    go_wp2_with (go_at_call 69; refine (HRc.out _).mono ?_; rintro e6 w3 ⟨rfl, k3⟩; have HO3 := Lib.hid (HO2.out.only0 k3); have c3 := HO3.out.at_.cell3)
    have HJ3 := Lib.hid (HJF.out _ _ _ _ HO3.out.at_)
    by_cases he2 : e2 = 0
    · subst he2
      have HA2 := Lib.hid (HA.out.trans (if_neg (by simp)))
      have HXx := Lib.hid hx1
      have HCl := Lib.hid (fun (W : World) => strClone_any body W (by omega))
      have HBy := Lib.hid (fun (W : World) => jbytes_any (w := W) body (by omega))
      obtain ⟨v0, p0⟩ := x
      dsimp only at hxp
      subst hxp
      go_wp2_with fail
      refine HJ3.out.mono ?_
      rintro e8 w4 ⟨rfl, k4⟩
      obtain ⟨kv4, h4⟩ := HO3.out.to k4
      have HO4 := Lib.hid h4
      have HLst := Lib.hid (jlast_some (w := w4) (n := m) (g := g) (cap := bc) h4.at_.blk (by omega))
      clear k4 h4
      go_wp2_with (go_at_call 71; refine HLst.out.mono ?_; rintro e9 w5 ⟨rfl, k5⟩)
      have h5 := HO4.out.only0 k5
      have HO5 := Lib.hid h5
      obtain ⟨c0, c1, c2, fz⟩ := h5.at_.atg HXx.out
      have hpart := h5.at_.part _ (List.mem_of_getElem? HXx.out)
      have hne := h5.at_.rowne HXx.out
      have hgr : Grows w5 v0 p0.bodies := hpart.2.resolve_left (by rw [hpd]; simp)
      have hsl := hpart.1
      dsimp only at hsl hne c0 c1 c2
      obtain ⟨VA, vc, rfl⟩ := slc_len hsl
      have HSL := Lib.hid hsl
      have HGR := Lib.hid hgr
      have HNE := Lib.hid hne
      have hgl : g < w5.heap.size := block_lt_of_cell c1
      obtain ⟨cur, hcur⟩ := own_type h5.at_.row (g := g) rfl
      have HCU := Lib.hid hcur
      clear h5 hpart hne hgr hsl c3 hx1 hcur HO4 HLst HNx HJ3 HJF HRc HO3
      obtain ⟨F, hF⟩ : ∃ F : List (Addr × Value), F = [(⟨g, m * 3 + 1, none⟩, .int .i64 p0.used)] := ⟨_, rfl⟩
      have hFW : ∀ W : World, W.cell? ⟨g, m * 3 + 1, none⟩ = some (.int .i64 p0.used) → ∀ x ∈ F, W.cell? x.1 = some x.2 := fun W h => by rw [hF]; exact hold1 h
      have d1 : ∀ p : Hold F, p.W.cell? ⟨g, m * 3 + 1, none⟩ = some (.int .i64 p0.used) := fun p => p.h (_, _) (by rw [hF]; simp)
      have HF := Lib.hid hFW
      clear hF hFW
      go_wp2_with fail
      refine wp_region_fork3 F [0, 1, 2, 3, 4, 6, 10, 11, 12, 13, 14] 5 7 8 [9, 15] [16, 17, 18] [19] [20, 21, 22] (HF.out _ c1) (by kernel_rfl) (by kernel_rfl) (by intro c d u a w h; cases d <;> exact h) ?_
      intro hne
      show wpQuiet _ _ _ _ [_, _, _, _, _, _, _, _, _, _, _] _
      repeat (go_big_quiet_step (fail))
      refine wpQuiet_nil ?_
      have kd : ∀ W, Only [] w5.drew W → Only [] w5 W := fun W k => (Only.refl [] w5).drew.trans k
      have C0 : ∀ W, Only [] w5 W → W.cell? ⟨g, m * 3, none⟩ = some (.slice VA p0.bodies.length vc) := fun W k => (k.cell (p := ⟨g, m * 3, none⟩) hgl (by simp)).trans c0
      have C1 : ∀ W, Only [] w5 W → W.cell? ⟨g, m * 3 + 1, none⟩ = some (.int .i64 p0.used) := fun W k => (k.cell (p := ⟨g, m * 3 + 1, none⟩) hgl (by simp)).trans c1
      have C0d := C0 _ (Only.refl [] w5).drew
      refine fork3_intro (fun a0 a1 W => ∃ w7, Only [] w5 w7 ∧ a1 = ((a0.put (some 40) (.slice VA p0.bodies.length vc)).put (some 42) (.string body)).put (some 43) (.slice (some ⟨w7.heap.size, 0, none⟩) 1 1) ∧ W = w7.alloc (.cells #[.string body] 9)) ?_ ?_ ?_
      · show wpList _ _ _ [_] _ _
        go_wp2_with fail
        refine check_hold (HF.out _ (C1 _ (Only.refl [] w5).drew)) ?_
        show wpList _ _ _ [_] _ _
        go_wp2_with (go_at_call 32; refine (HCl.out _).mono ?_; rintro e7 w7 ⟨rfl, k7⟩)
        refine check_hold (HF.out _ (C1 _ (kd _ k7))) ?_
        show wpList _ _ _ [_] _ _
        go_wp2_with fail
        exact check_hold (HF.out _ (C1 _ ((kd _ k7).alloc _))) ⟨w7, kd _ k7, rfl, rfl⟩
      · show wpList _ _ _ [_] _ _
        go_wp2_with (go_at_call 32; refine (HCl.out _).mono ?_; rintro e7 w7 ⟨rfl, k7⟩)
        refine check_hold (HF.out _ (C1 _ (kd _ k7))) ?_
        have C07 := C0 _ (kd _ k7)
        have C08 := fun o => C0 _ ((kd _ k7).alloc o)
        refine ⟨?_, ?_⟩
        · show wpList _ _ _ [_] _ _
          go_wp2_with fail
          refine check_hold (HF.out _ (C1 _ (kd _ k7))) ?_
          show wpList _ _ _ [_] _ _
          go_wp2_with fail
          exact check_hold (HF.out _ (C1 _ ((kd _ k7).alloc _))) ⟨w7, kd _ k7, rfl, rfl⟩
        · show wpList _ _ _ [_] _ _
          go_wp2_with fail
          refine check_hold (HF.out _ (C1 _ ((kd _ k7).alloc _))) ?_
          show wpList _ _ _ [_] _ _
          go_wp2_with fail
          exact check_hold (HF.out _ (C1 _ ((kd _ k7).alloc _))) ⟨w7, kd _ k7, rfl, rfl⟩
      · rintro _ W ⟨w7, k7, rfl, rfl⟩
        obtain ⟨A8, cap8, w8, hr8, hs8, hg8, hO8, hf8⟩ := grows_app (HSL.out.only0 k7) (HGR.out.only k7 (by simp)) (by omega) body
        have hgn : g ∉ (Value.slice VA p0.bodies.length vc).ownBlock.toList := fun hq => HNE.out g (by simpa using hq) rfl
        have hO58 : Only (Value.slice VA p0.bodies.length vc).ownBlock.toList w5 w8 := k7.of_nil.trans hO8
        have hb8 := hO58.blk HCU.out hgn
        have C18 : w8.cell? ⟨g, m * 3 + 1, none⟩ = some (.int .i64 p0.used) := (hO58.cell (p := ⟨g, m * 3 + 1, none⟩) hgl hgn).trans c1
        have C08 : w8.cell? ⟨g, m * 3, none⟩ = some (.slice VA p0.bodies.length vc) := (hO58.cell (p := ⟨g, m * 3, none⟩) hgl hgn).trans c0
        have f80 := hb8.free (m * 3)
        have hb9 := hb8.set (m * 3) (.slice A8 (p0.bodies.length + 1) cap8)
        have C19 : (w8.setCell ⟨g, m * 3, none⟩ (.slice A8 (p0.bodies.length + 1) cap8)).cell? ⟨g, m * 3 + 1, none⟩ = some (.int .i64 p0.used) := by
          rw [← C18, hb9.cell, hb8.cell, Array.getElem?_setIfInBounds, if_neg (by omega)]
        have f91 := hb9.free (m * 3 + 1)
        have HR8 := Lib.hid hr8
        have HS8 := Lib.hid hs8
        have HG8 := Lib.hid hg8
        have HF8 := Lib.hid hf8
        clear hr8 hs8 hg8 hO8 hf8 hb8 hb9
        show wpList _ _ _ [_] _ _
        go_wp2_with (at_builtin; refine Lib.wpList_append_run _ rfl (.tmp 40) (.tmp 43) 22 22 rfl _ _ rfl rfl _ _ HR8.out ?_)
        refine check_hold (HF.out _ C18) ?_
        show wpList _ _ _ [_] _ _
        go_wp2_with (go_at_call 53; refine (HBy.out _).mono ?_; rintro e10 w10 ⟨rfl, rfl⟩)
        refine check_hold (HF.out _ C18) ?_
        show wpQuiet _ _ _ _ [_, _, _] _
        repeat (go_big_quiet_step (fail))
        refine wpQuiet_nil ?_
        show wpList _ _ _ [_] _ _
        go_wp2_with fail
        refine check_hold (HF.out _ C19) ?_
        show wpList _ _ _ [_, _, _] _ _
        go_wp2
        go_ret
        have hpush := HO5.out.push (by rw [HXL.out]) HXx.out (l := p0.bodies ++ [body]) (u := p0.used + ((body.size : Int) + 13)) hO58 HS8.out HG8.out (fun q hq => ⟨(HF8.out q hq).1.imp id (fun r => by have := k7.size; omega), (HF8.out q hq).2⟩)
        rw [HA2.out]
        exact ⟨rfl, hpush.lto⟩
    · have HA2 := Lib.hid (HA.out.trans (if_pos he2))
      go_wp2_with (go_at_call 70; refine HJ3.out.mono ?_; rintro e8 w4 ⟨rfl, k4⟩)
      go_ret
      obtain ⟨kv4, h4⟩ := HO3.out.to k4
      rw [HA2.out]
      exact ⟨rfl, h4.lto⟩
  · have HA := Lib.hid (herr he)
    go_enter Tryz.func39, Tryz.ntmps39
    go_wp2_with (go_at_call 68; refine HNx.out.mono ?_; rintro e2 w2 ⟨rfl, k2⟩)
    go_ret
    rw [HA.out]
    exact ⟨rfl, k2⟩
end
end Go.Proofs.YtfjkjndpndjfpaaGreatDoor
/- Contracts: records are put into a log (chunklog Append). -/
set_option linter.unusedVariables false
set_option linter.unusedSimpArgs false
namespace Go.Proofs.YtfjkjndpndjfpaaGreatDoor
open Go Go.RowKit Go.Sort
section
variable {a w w1 w' : World} {lb db mb M N : Nat} {d : DS} {L : LogS} {kv pv : Value} {xs : List (Value × PartL)} {R : List Nat}
theorem LogS.SmN.push (h : L.SmN N) {m : Nat} {p : PartL} (hp : L.ps[m]? = some p) (body : ByteArray) : (L.setPart m { p with bodies := p.bodies ++ [body], used := p.used + (body.size + 13) }).SmN (N + body.size + 13) := by
  obtain ⟨hl, he⟩ := List.getElem?_eq_some_iff.1 hp
  refine ⟨h.pre, h.size, by show (L.ps.set m _).length ≤ _; rw [List.length_set]; have := h.few; omega, ?_, fun q hq => ?_⟩
  · have h1 := h.len
    unfold LogS.len at h1 ⊢
    show ((L.ps.set m _).map _).sum ≤ _
    have hs : ∀ (l : List PartL) (k : Nat) (hk : k < l.length) (q : PartL), ((l.set k q).map fun p => (p.bodies.length : Int)).sum + (l[k].bodies.length : Int) = (l.map fun p => (p.bodies.length : Int)).sum + (q.bodies.length : Int) := by
      intro l
      induction l with
      | nil => intro k hk; simp at hk
      | cons y l ih =>
        intro k hk q
        cases k with
        | zero => simp only [List.set_cons_zero, List.map_cons, List.sum_cons, List.getElem_cons_zero]; omega
        | succ k =>
          have := ih k (by simpa using hk) q
          simp only [List.set_cons_succ, List.map_cons, List.sum_cons, List.getElem_cons_succ]
          omega
    have h2 := hs L.ps m hl { p with bodies := p.bodies ++ [body], used := p.used + (body.size + 13) }
    rw [he] at h2
    simp only [List.length_append, List.length_cons, List.length_nil] at h2
    omega
  · rcases List.mem_or_eq_of_mem_set hq with e | e
    · have := h.used q e
      omega
    · subst e
      have := h.used p (List.mem_of_getElem? hp)
      show 0 ≤ p.used + (body.size + 13) ∧ p.used + (body.size + 13) ≤ _
      omega
theorem LogS.SmN.append1 (h : L.SmN N) (d : DS) (body : ByteArray) : (L.append1 d body).2.1.SmN (N + body.size + 100) := by
  have hn := h.next d body
  by_cases he : (L.next d body).1 = 0
  · obtain ⟨m, p, hm, hp, -⟩ := LogS.next_last L d body he
    obtain ⟨⟨e, L1, d1⟩, hq⟩ : ∃ q, L.next d body = q := ⟨_, rfl⟩
    rw [hq] at he hm hp hn
    dsimp only at he hm hp hn
    subst he
    rw [append1_some L d body hq hm hp]
    have hf := LogS.file_eq L1 d1 (m : Int) (putF (1 :: body.data.toList)).1
    split
    · exact (hn.eq hf).mono (by omega)
    · have h2 := hn.eq hf
      exact (h2.push (by rw [hf.1]; exact hp) body).mono (by omega)
  · rw [append1_err L d body he]
    exact hn.mono (by omega)
theorem slc_only_or {w w' : World} {S : List Nat} {v : Value} {l : List ByteArray} (h : Slc w 1 v l.length (strs l)) (k : Only S w w') (hn : ∀ g, v.ownBlock = some g → g ∉ S ∨ l = []) : Slc w' 1 v l.length (strs l) := by
  by_cases hl : l = []
  · subst hl
    exact h.empty
  · exact h.only k (fun g hg => (hn g hg).resolve_right hl)
def wtS (l : List ByteArray) : Nat := (l.map fun s => s.size + 100).sum
theorem wtS_cons (s : ByteArray) (l : List ByteArray) : wtS (s :: l) = s.size + 100 + wtS l := by simp [wtS]
set_option maxRecDepth 100000 in
set_option maxHeartbeats 4000000 in
theorem jappend_any (h : LogAt a w lb db mb d L kv pv xs) (hs : L.SmN N) (hk : d.Ok M) {v : Value} {l : List ByteArray} (hv : Slc w 1 v l.length (strs l)) (hvb : ∀ g, v.ownBlock = some g → g ∉ lblk lb db mb kv pv xs ∨ l = []) (hll : l.length ≤ 1000000)
    (hN : N + wtS l ≤ 900000) (hM : M + wtS l ≤ 1125899000000000) :
    Calls Tryz.prog 12 #[.pointer (some ⟨lb, 0, none⟩), v] w fun e w' => e = .returned (.tuple #[.int .i64 (L.append d l).1.1, .int .i64 (L.append d l).1.2]) ∧ LTo a lb db mb (lblk lb db mb kv pv xs) w w' (L.append d l).2 := by
  have HMy := Lib.hid (fun (W : World) (k : Only [] w W) => jmay_any (h.only0 k).blk)
  have HO := Lib.hid (LogOn.refl h)
  have hsm := hs.sm (by omega)
  have hps : L.ps.length = xs.length := by rw [h.ps, List.length_map]
  have HLn := Lib.hid (fun (W : World) (k : Only [] w W) => jlen_any (h.only0 k) (by have := hs.few; omega) (by have := hs.len; omega))
  have c2 := h.cell2
  obtain ⟨VA, vc, rfl, -, -, hvc⟩ := hv.openS
  have hone : ∀ j, j < l.length → l[j]!.size ≤ 1000000 := fun j hj => by
    have hmem : l[j] ∈ l := List.getElem_mem hj
    have : ∀ (l : List ByteArray) s, s ∈ l → s.size + 100 ≤ wtS l := by
      intro l
      induction l with
      | nil => intro s hs; cases hs
      | cons y l ih =>
        intro s hs
        rw [wtS_cons]
        rcases List.mem_cons.1 hs with rfl | hs
        · omega
        · have := ih s hs; omega
    have := this l l[j] hmem
    rw [getElem!_pos l j hj]
    omega
  have HCr := Lib.hid (fun (W : World) => croom_any (w := W) L.size 0 hsm.size (by omega))
  obtain ⟨R, hR⟩ : ∃ R, lblk lb db mb kv pv xs = R := ⟨_, rfl⟩
  rw [hR] at HO hvb ⊢
  by_cases hb : L.bad = 0
  · have happ : L.append d l = if l.any (fun s => decide (roomC L.size 0 < (s.size : Int))) then ((0, 2), L, d) else if (L.appendGo d l).1 ≠ 0 then ((0, (L.appendGo d l).1), (L.appendGo d l).2) else ((L.len, 0), (L.appendGo d l).2) := by
      unfold LogS.append
      rw [if_neg (by simp [hb])]
    obtain ⟨rm, hrm⟩ : ∃ rm, roomC L.size 0 = rm := ⟨_, rfl⟩
    rw [hrm] at happ HCr
    have HA := Lib.hid happ
    have HV := Lib.hid hv
    have HS := Lib.hid hs
    have HK := Lib.hid hk
    have HB := Lib.hid hb
    rw [hb] at HMy
    clear happ hrm hR h hs hk hsm hps hb hv
    go_enter Tryz.func12, Tryz.ntmps12
    go_wp2_with (go_at_call 37; refine (HMy.out _ (Only.refl _ _)).mono ?_; rintro e1 w1 ⟨rfl, rfl⟩)
    go_loopw [20] (fun i wr => ∃ k : Nat, k ≤ l.length ∧ i = .int .i64 k ∧ wr = w1 ∧ Hid ((l.take k).any (fun s => decide (rm < (s.size : Int))) = false)) (fun i _ => l.length - (intOf i).toNat)
    case atStart => exact ⟨0, Nat.zero_le _, rfl, rfl, rfl⟩
    case round =>
      obtain ⟨k, hk, rfl, rfl, hany⟩ := hrel
      by_cases hlt : k < l.length
      · obtain ⟨b, off, rfl, hbl, hbc⟩ := hvc k hlt
        have hdec : decide ((k : Int) < (l.length : Int)) = true := decide_eq_true (by omega)
        have htk : l.take (k + 1) = l.take k ++ [l[k]] := List.take_succ_eq_append_getElem hlt
        have hmem : l[k] ∈ l := List.getElem_mem hlt
        obtain ⟨s, hs⟩ : ∃ s, l[k] = s := ⟨_, rfl⟩
        rw [hs] at hbc htk hmem
        have HT := Lib.hid htk
        by_cases hgt : rm < (s.size : Int)
        · have hd2 : decide ((s.size : Int) > rm) = true := decide_eq_true hgt
          have HA2 : Hid (L.append d l = ((0, 2), L, d)) := by
            have := HA.out
            rw [if_pos (List.any_eq_true.2 ⟨s, hmem, decide_eq_true hgt⟩)] at this
            exact this
          clear hs htk hmem hvc
          go_wp2_with (go_at_call 38; refine (HCr.out _).mono ?_; rintro e2 w2 ⟨rfl, rfl⟩)
          go_ret2
          rw [HA2.out]
          exact ⟨rfl, HO.out.lto⟩
        · have hd2 : decide ((s.size : Int) > rm) = false := decide_eq_false hgt
          have hany2 : Hid ((l.take (k + 1)).any (fun s => decide (rm < (s.size : Int))) = false) := by
            have := hany.out
            unfold Hid
            rw [HT.out, List.any_append, this]
            simp [hgt]
          clear hs htk hmem hvc
          go_wp2_with (go_at_call 38; refine (HCr.out _).mono ?_; rintro e2 w2 ⟨rfl, rfl⟩)
          exact ⟨⟨k + 1, hlt, by simp, by trivial, hany2⟩, by simp [intOf]; omega⟩
      · have hke : k = l.length := by omega
        subst hke
        have hdec : decide ((l.length : Int) < (l.length : Int)) = false := decide_eq_false (by omega)
        have HA2 : Hid (L.append d l = if (L.appendGo d l).1 ≠ 0 then ((0, (L.appendGo d l).1), (L.appendGo d l).2) else ((L.len, 0), (L.appendGo d l).2)) := by
          have := HA.out
          have h2 := hany.out
          rw [List.take_length] at h2
          rw [if_neg (by rw [h2]; simp)] at this
          exact this
        obtain ⟨res, hres⟩ : ∃ res, L.appendGo d l = res := ⟨_, rfl⟩
        rw [hres] at HA2
        have HRs := Lib.hid hres
        clear hres hany HA hvc
        obtain ⟨W0, rfl⟩ : ∃ W0, W0 = wr := ⟨wr, rfl⟩
        go_wp2_with (go_at_call 13; refine (HLn.out _ (Only.refl _ _)).mono ?_; rintro e3 w3 ⟨rfl, k3⟩)
        have HO3 := Lib.hid (HO.out.only0 k3)
        have HV3 := Lib.hid (HV.out.only0 k3)
        go_loopw [37] (fun i wr => ∃ (k : Nat) (Lk : LogS) (dk : DS) (kvk pvk : Value) (xsk : List (Value × PartL)) (Nk Mk : Nat), k ≤ l.length ∧ i = .int .i64 k ∧ Hid (LogOn a R W0 wr lb db mb dk Lk kvk pvk xsk) ∧ Hid (Lk.SmN Nk) ∧ Hid (dk.Ok Mk) ∧ Nk + wtS (l.drop k) ≤ 900000 ∧ Mk + wtS (l.drop k) ≤ 1125899000000000 ∧ Hid (Lk.appendGo dk (l.drop k) = res)) (fun i _ => l.length - (intOf i).toNat)
        case atStart => exact ⟨0, L, d, kv, pv, xs, N, M, Nat.zero_le _, rfl, HO3, HS, HK, hN, hM, HRs⟩
        case round =>
          obtain ⟨k, Lk, dk, kvk, pvk, xsk, Nk, Mk, hk, rfl, HOk, HSk, HKk, hNk, hMk, HRk⟩ := hrel
          have hVk : Slc wr 1 (.slice VA l.length vc) l.length (strs l) := slc_only_or HV.out HOk.out.only hvb
          by_cases hlt : k < l.length
          · obtain ⟨VA', vc', hvv, -, -, hvc⟩ := hVk.openS
            injection hvv with q1 q2 q3
            subst q1 q3
            obtain ⟨b, off, rfl, hbl, hbc⟩ := hvc k hlt
            have hdec : decide ((k : Int) < (l.length : Int)) = true := decide_eq_true (by omega)
            have hdk : l.drop k = l[k] :: l.drop (k + 1) := List.drop_eq_getElem_cons hlt
            obtain ⟨s, hs⟩ : ∃ s, l[k] = s := ⟨_, rfl⟩
            rw [hs] at hbc hdk
            rw [hdk, wtS_cons] at hNk hMk
            have hrk := HRk.out
            rw [hdk] at hrk
            unfold LogS.appendGo at hrk
            dsimp only at hrk
            have HC1 := jappend1_any HOk.out.at_ HSk.out (by omega) HKk.out (by omega) s (by omega)
            have hs1 := HSk.out.append1 dk s
            have hk1 := LogS.append1_ok (L := Lk) HKk.out s
            obtain ⟨⟨e1, L1, d1⟩, h1⟩ : ∃ q, Lk.append1 dk s = q := ⟨_, rfl⟩
            rw [h1] at hrk HC1 hs1 hk1
            dsimp only at hrk HC1 hs1 hk1
            have HC1 := Lib.hid HC1
            have HS1 := Lib.hid hs1
            have HK1 := Lib.hid hk1
            have HRr := Lib.hid hrk
            clear hvc hs hdk hrk h1 hs1 hk1 hVk q2
            by_cases he : e1 = 0
            · subst he
              have HR1 : Hid (L1.appendGo d1 (l.drop (k + 1)) = res) := by
                have := HRr.out
                rw [if_neg (by simp)] at this
                exact this
              clear HRr
              go_wp2_with fail
              refine HC1.out.mono ?_
              rintro e5 w5 ⟨rfl, k5⟩
              obtain ⟨kv5, pv5, xs5, h5⟩ := HOk.out.next k5
              have HO5 := Lib.hid h5
              clear k5 h5
              go_wp2
              exact ⟨⟨k + 1, L1, d1, kv5, pv5, xs5, Nk + s.size + 100, Mk + s.size + 100, hlt, by simp, HO5, HS1, HK1, by omega, by omega, HR1⟩, by simp [intOf]; omega⟩
            · have HR1 : Hid ((e1, L1, d1) = res) := by
                have := HRr.out
                rw [if_pos he] at this
                exact this
              clear HRr
              go_wp2_with fail
              refine HC1.out.mono ?_
              rintro e5 w5 ⟨rfl, k5⟩
              obtain ⟨kv5, pv5, xs5, h5⟩ := HOk.out.next k5
              have HO5 := Lib.hid h5
              clear k5 h5
              go_wp2
              go_ret2
              rw [HA2.out, ← HR1.out, if_pos he]
              exact ⟨rfl, HO5.out.lto⟩
          · have hke : k = l.length := by omega
            subst hke
            have hdec : decide ((l.length : Int) < (l.length : Int)) = false := decide_eq_false (by omega)
            have hrk := HRk.out
            rw [List.drop_length] at hrk
            unfold LogS.appendGo at hrk
            have HR1 := Lib.hid hrk
            clear hrk hVk
            go_wp2
            go_ret2
            rw [HA2.out, ← HR1.out, if_neg (by simp)]
            exact ⟨rfl, HOk.out.lto⟩
  · have happ : L.append d l = ((0, L.bad), L, d) := by unfold LogS.append; rw [if_pos hb]
    have HA := Lib.hid happ
    obtain ⟨bd, hbd⟩ : ∃ bd, L.bad = bd := ⟨_, rfl⟩
    rw [hbd] at HA HMy hb
    have hne : (bd != 0) = true := by simpa using hb
    clear happ hR h hs hk hsm hps hv hvc c2
    go_enter Tryz.func12, Tryz.ntmps12
    go_wp2_with (go_at_call 37; refine (HMy.out _ (Only.refl _ _)).mono ?_; rintro e1 w1 ⟨rfl, rfl⟩)
    go_ret2
    rw [HA.out]
    exact ⟨rfl, HO.out.lto⟩
end
end Go.Proofs.YtfjkjndpndjfpaaGreatDoor
/- Logs, plain: the names of chunks. No program is named. -/
set_option linter.unusedVariables false
set_option linter.unusedSimpArgs false
namespace Go.Proofs.YtfjkjndpndjfpaaGreatDoor
open Go.RowKit
theorem val10_from (l : List UInt8) (n : Int) : l.foldl (fun n b => 10 * n + ((b.toNat : Int) - 48)) n = n * 10 ^ l.length + val10 l := by
  induction l generalizing n with
  | nil => simp [val10]
  | cons b l ih =>
    unfold val10
    rw [List.foldl_cons, ih, List.foldl_cons, ih (10 * 0 + ((b.toNat : Int) - 48)), List.length_cons, Int.pow_succ]
    have e : (10 * n + ((b.toNat : Int) - 48)) * 10 ^ l.length = n * (10 ^ l.length * 10) + ((b.toNat : Int) - 48) * 10 ^ l.length := by
      rw [Int.add_mul, Int.mul_assoc 10 n, Int.mul_comm 10, Int.mul_assoc n]
    have e0 : 10 * 0 + ((b.toNat : Int) - 48) = (b.toNat : Int) - 48 := by omega
    rw [e, e0]
    omega
theorem val10_app (a b : List UInt8) : val10 (a ++ b) = val10 a * 10 ^ b.length + val10 b := by
  unfold val10
  rw [List.foldl_append, val10_from]
  rfl
theorem val10_zeros (m : Nat) : val10 (List.replicate m 48) = 0 := by
  induction m with
  | zero => rfl
  | succ m ih =>
    rw [List.replicate_succ]
    have : (48 : UInt8) :: List.replicate m 48 = [48] ++ List.replicate m 48 := rfl
    rw [this, val10_app, ih]
    have : val10 [48] = 0 := rfl
    rw [this]
    omega
theorem name_list (p : ByteArray) (k : Nat) : (nameK p k).data.toList = p.data.toList ++ (List.replicate (6 - (Lib.decDigits k).length) 48 ++ Lib.decDigits k) := by
  unfold nameK
  rw [Lib.itoa_nonneg]
  simp [baL]
theorem chunkOf_name (p : ByteArray) {k : Nat} (hk : k ≤ 999999) : chunkOf p (nameK p k) = some (k : Int) := by
  have hd : (nameK p k).data.toList.drop p.size = List.replicate (6 - (Lib.decDigits k).length) 48 ++ Lib.decDigits k := by
    rw [name_list]
    exact drop_pre (by simp)
  have hl : (Lib.decDigits k).length ≤ 6 := dec_len 5 k (by omega)
  have hn : numB (49 :: (List.replicate (6 - (Lib.decDigits k).length) 48 ++ Lib.decDigits k)) = some (1000000 + (k : Int)) := by
    obtain ⟨t, ht⟩ : ∃ t, t = List.replicate (6 - (Lib.decDigits k).length) 48 ++ Lib.decDigits k := ⟨_, rfl⟩
    have htl : t.length = 6 := by rw [ht, List.length_append, List.length_replicate]; omega
    have hv : val10 t = k := by rw [ht, val10_app, val10_zeros, val10_dec]; omega
    have hall : t.all digitB = true := by
      rw [ht, List.all_append, List.all_replicate]
      have : (Lib.decDigits k).all digitB = true := by
        rw [List.all_eq_true]
        intro b hb
        have := dec_all k b hb
        unfold digitB
        rw [decide_eq_false (by omega), decide_eq_false (by omega)]
        rfl
      rw [this]
      have : digitB 48 = true := rfl
      rw [this]
      simp
    rw [← ht]
    have hng : negB (49 :: t) = false := rfl
    have hm : magB (49 :: t) = 49 :: t := rfl
    have hs : shapeB (49 :: t) = true := by
      unfold shapeB
      rw [hm, hng]
      simp [htl]
    have hva : val10 (49 :: t) = 1000000 + (k : Int) := by
      have : (49 : UInt8) :: t = [49] ++ t := rfl
      rw [this, val10_app, hv, htl]
      rfl
    unfold numB
    rw [hs, hm, hng, List.all_cons, hall, hva]
    rfl
  unfold chunkOf
  rw [hd, hn]
  dsimp only
  have e : 1000000 + (k : Int) - 1000000 = k := by omega
  rw [e, if_pos ⟨by omega, rfl⟩]
theorem chunkOf_some {p s : ByteArray} {k : Int} (h : chunkOf p s = some k) : 0 ≤ k ∧ nameK p k = s := by
  unfold chunkOf at h
  split at h
  · split at h
    · rename_i q
      injection h with h
      subst h
      exact q
    · cases h
  · cases h
theorem name_inj {p : ByteArray} {j k : Nat} (hj : j ≤ 999999) (hk : k ≤ 999999) (h : nameK p j = nameK p k) : j = k := by
  have h1 := chunkOf_name p hj
  rw [h, chunkOf_name p hk] at h1
  injection h1 with h1
  omega
theorem name_size (p : ByteArray) {k : Nat} (hk : k ≤ 999999) : (nameK p k).size = p.size + 6 := by
  have hl : (Lib.decDigits k).length ≤ 6 := dec_len 5 k (by omega)
  have : (nameK p k).size = (nameK p k).data.toList.length := by simp
  rw [this, name_list]
  simp
  omega
theorem chunkOf_new (p : ByteArray) : chunkOf p (newN p) = none := by
  have hd : (newN p).data.toList.drop p.size = [110, 101, 119] := by
    have : (newN p).data.toList = p.data.toList ++ [110, 101, 119] := by simp [newN]
    rw [this]
    exact drop_pre (by simp)
  unfold chunkOf
  rw [hd]
  rfl
theorem chunkOf_mark (p : ByteArray) : chunkOf p (markN p) = none := by
  have hd : (markN p).data.toList.drop p.size = [109, 97, 114, 107] := by
    have : (markN p).data.toList = p.data.toList ++ [109, 97, 114, 107] := by simp [markN]
    rw [this]
    exact drop_pre (by simp)
  unfold chunkOf
  rw [hd]
  rfl
theorem name_ne_new (p : ByteArray) {k : Nat} (hk : k ≤ 999999) : nameK p k ≠ newN p := fun e => by
  have := chunkOf_name p hk
  rw [e, chunkOf_new] at this
  cases this
theorem name_ne_mark (p : ByteArray) {k : Nat} (hk : k ≤ 999999) : nameK p k ≠ markN p := fun e => by
  have := chunkOf_name p hk
  rw [e, chunkOf_mark] at this
  cases this
theorem new_ne_mark (p : ByteArray) : newN p ≠ markN p := fun e => by
  have := congrArg ByteArray.size e
  simp [newN, markN, ByteArray.size_append] at this
  revert this
  decide
/-- The names of files: how many chunks, and the greatest one. -/
theorem chunksGo_spec (p : ByteArray) : ∀ (l : List ByteArray) (r : Int × Int), chunksGo p l r = (r.1 + (l.filterMap (chunkOf p)).length, (l.filterMap (chunkOf p)).foldl max r.2)
  | [], r => by simp [chunksGo]
  | s :: l, r => by
    unfold chunksGo
    cases h : chunkOf p s with
    | none =>
      rw [List.filterMap_cons_none h]
      exact chunksGo_spec p l r
    | some k =>
      rw [List.filterMap_cons_some h]
      dsimp only
      rw [chunksGo_spec p l (r.1 + 1, max r.2 k)]
      simp only [List.length_cons, List.foldl_cons]
      congr 1
      omega
theorem foldl_max_ge (l : List Int) (a : Int) : a ≤ l.foldl max a ∧ ∀ x ∈ l, x ≤ l.foldl max a := by
  induction l generalizing a with
  | nil => simp
  | cons b l ih =>
    rw [List.foldl_cons]
    obtain ⟨h1, h2⟩ := ih (max a b)
    refine ⟨by omega, fun x hx => ?_⟩
    rcases List.mem_cons.1 hx with rfl | hx
    · omega
    · exact h2 x hx
theorem foldl_max_mem (l : List Int) (a : Int) : l.foldl max a = a ∨ l.foldl max a ∈ l := by
  induction l generalizing a with
  | nil => simp
  | cons b l ih =>
    rw [List.foldl_cons]
    rcases ih (max a b) with h | h
    · rw [h]
      by_cases q : a ≤ b
      · right
        have : max a b = b := by omega
        rw [this]; simp
      · left; omega
    · right
      simp [h]
/-- A list without doubles of just 0 .. m - 1 has m of them. -/
theorem count_range : ∀ (m : Nat) (l : List Int), l.Nodup → (∀ x, x ∈ l ↔ 0 ≤ x ∧ x < (m : Int)) → l.length = m
  | 0, l, _, h => by
    cases l with
    | nil => rfl
    | cons x l =>
      have := (h x).1 (by simp)
      omega
  | m + 1, l, hn, h => by
    have hm : (m : Int) ∈ l := (h m).2 ⟨by omega, by omega⟩
    have hn2 : (l.erase (m : Int)).Nodup := hn.erase _
    have h2 : ∀ x, x ∈ l.erase (m : Int) ↔ 0 ≤ x ∧ x < (m : Int) := fun x => by
      rw [hn.mem_erase_iff, h]
      omega
    have := count_range m _ hn2 h2
    rw [List.length_erase_of_mem hm] at this
    have := List.length_pos_of_mem hm
    omega
theorem chunks_whole {p : ByteArray} {l : List ByteArray} {m : Nat} (hn : l.Nodup) (hm : m ≤ 999999) (h : ∀ s, s ∈ l → ∀ k, chunkOf p s = some k → k < m) (h2 : ∀ k : Nat, k < m → nameK p k ∈ l) : chunksGo p l (0, -1) = ((m : Int), (m : Int) - 1) := by
  rw [chunksGo_spec]
  have hmem : ∀ x, x ∈ l.filterMap (chunkOf p) ↔ 0 ≤ x ∧ x < (m : Int) := fun x => by
    rw [List.mem_filterMap]
    constructor
    · rintro ⟨s, hs, hk⟩
      exact ⟨(chunkOf_some hk).1, h s hs x hk⟩
    · rintro ⟨q1, q2⟩
      obtain ⟨k, rfl⟩ : ∃ k : Nat, x = k := ⟨x.toNat, by omega⟩
      exact ⟨nameK p k, h2 k (by omega), chunkOf_name p (by omega)⟩
  have hnd : (l.filterMap (chunkOf p)).Nodup := by
    have hp : l.Pairwise (fun a b => a ≠ b) := hn
    show (l.filterMap (chunkOf p)).Pairwise _
    rw [List.pairwise_filterMap]
    refine hp.imp fun {a b} hab x hx y hy e => ?_
    subst e
    exact hab ((chunkOf_some hx).2.symm.trans (chunkOf_some hy).2)
  have hlen := count_range m _ hnd hmem
  rw [hlen]
  congr 1
  · omega
  · obtain ⟨q1, q2⟩ := foldl_max_ge (l.filterMap (chunkOf p)) (-1)
    dsimp only
    by_cases h0 : m = 0
    · subst h0
      have : l.filterMap (chunkOf p) = [] := List.length_eq_zero_iff.1 hlen
      rw [this]
      rfl
    · have q3 := q2 ((m : Int) - 1) ((hmem _).2 ⟨by omega, by omega⟩)
      rcases foldl_max_mem (l.filterMap (chunkOf p)) (-1) with q | q
      · omega
      · have := (hmem _).1 q
        omega
end Go.Proofs.YtfjkjndpndjfpaaGreatDoor
/- Logs, plain: a disk with power and room; a log that fits its files; one more record. No program is named. -/
set_option linter.unusedVariables false
set_option linter.unusedSimpArgs false
namespace Go.Proofs.YtfjkjndpndjfpaaGreatDoor
open Go.RowKit
/-- A disk with power, that is not armed, with room. -/
structure Fine (D : DS) : Prop where
  on : D.on = true
  arm : D.armed = false
  room : D.room ≤ 0
  nd : ANodup D.fs
section
variable {D : DS} {n m : ByteArray} {f : File}
theorem Fine.doneE (h : Fine D) (fs : Files) : ({ D with fs := fs } : DS).doneE = 0 := by
  unfold DS.doneE DS.goes
  rw [h.arm]
  rfl
theorem Fine.done (h : Fine D) (fs : Files) : ({ D with fs := fs } : DS).done = { D with fs := fs } := by
  unfold DS.done DS.goes DS.tick
  rw [h.arm]
  rfl
theorem Fine.doneE0 (h : Fine D) : D.doneE = 0 := h.doneE D.fs
theorem Fine.done0 (h : Fine D) : D.done = D := h.done D.fs
def okName (n : ByteArray) : Prop := 1 ≤ n.size ∧ n.size ≤ 40
theorem ok_bad (h : okName n) : badName n = false := by
  unfold badName
  rw [decide_eq_false (by have := h.1; omega), decide_eq_false (by have := h.2; omega)]
  rfl
theorem Fine.may1 (h : Fine D) (hn : okName n) : D.may [n] = 0 := by
  unfold DS.may
  rw [h.on, if_pos rfl]
  simp [mayAll, ok_bad hn]
theorem Fine.may2 (h : Fine D) (hm : okName m) (hn : okName n) : D.may [m, n] = 0 := by
  unfold DS.may
  rw [h.on, if_pos rfl]
  simp [mayAll, ok_bad hn, ok_bad hm]
theorem Fine.find_some (h : Fine D) (hn : okName n) (hf : aget D.fs n = some f) : D.find n = (f, 0) := by
  unfold DS.find DS.get
  rw [h.may1 hn, if_pos rfl, hf]
  rfl
theorem Fine.find_none (h : Fine D) (hn : okName n) (hf : aget D.fs n = none) : D.find n = (File.zero, 8) := by
  unfold DS.find
  rw [h.may1 hn, if_pos rfl, hf]
  rfl
theorem Fine.append (h : Fine D) (hn : okName n) (hc : (aget D.fs n).isSome = true ∨ D.fs.length < 200) (data : ByteArray) :
    D.append n data = (0, { D with fs := aput D.fs n { D.get n with b := (D.get n).b ++ data } }) := by
  have hfull : D.full n data.size = false := by
    unfold DS.full
    rw [decide_eq_false (by have := h.room; omega : ¬0 < D.room)]
    rcases hc with q | q
    · rw [q]; rfl
    · rw [decide_eq_false (by omega : ¬200 ≤ D.fs.length)]; simp
  unfold DS.append
  rw [h.may1 hn, if_neg (by simp), hfull, if_neg (by simp)]
  dsimp only
  rw [h.doneE, h.done]
theorem Fine.sync (h : Fine D) (hn : okName n) (hf : aget D.fs n = some f) : D.sync n = (0, { D with fs := aput D.fs n ⟨f.b, f.b.size, true⟩ }) := by
  unfold DS.sync
  rw [h.find_some hn hf, if_neg (by simp), h.doneE0, if_neg (by simp), h.done0]
  have : D.get n = f := by unfold DS.get; rw [hf]; rfl
  rw [this]
theorem Fine.truncate (h : Fine D) (hn : okName n) (hf : aget D.fs n = some f) {k : Int} (hk : 0 ≤ k ∧ k ≤ f.b.size) : D.truncate n k = (0, { D with fs := aput D.fs n ⟨f.b.extract 0 k.toNat, min f.lasts k, f.known⟩ }) := by
  have : D.get n = f := by unfold DS.get; rw [hf]; rfl
  unfold DS.truncate
  rw [h.find_some hn hf, if_neg (by simp), this, if_neg (by omega), h.doneE0, if_neg (by simp), h.done0]
theorem Fine.remove (h : Fine D) (hn : okName n) (hf : aget D.fs n = some f) : D.remove n = (0, { D with fs := adel D.fs n }) := by
  unfold DS.remove
  rw [h.find_some hn hf, if_neg (by simp), h.doneE0, if_neg (by simp), h.done0]
theorem Fine.remove_none (h : Fine D) (hn : okName n) (hf : aget D.fs n = none) : D.remove n = (8, D) := by
  unfold DS.remove
  rw [h.find_none hn hf, if_pos (by simp)]
theorem Fine.bytes (h : Fine D) (hn : okName n) (hf : aget D.fs n = some f) : LogS.bytes D n = (f.b, 0) := by
  have hg : D.get n = f := by unfold DS.get; rw [hf]; rfl
  have hs : D.size n = ((f.b.size : Int), (0 : Int)) := by unfold DS.size; rw [h.find_some hn hf]
  unfold LogS.bytes
  rw [hs, if_neg (by simp)]
  unfold DS.read
  rw [h.find_some hn hf, if_neg (by simp), hg, if_neg (by simp)]
  have e : (0 + (f.b.size : Int)).toNat = f.b.size := by omega
  simp only [e]
  congr 1
  simp
theorem Fine.bytes_none (h : Fine D) (hn : okName n) (hf : aget D.fs n = none) : LogS.bytes D n = (⟨#[]⟩, 8) := by
  have hs : D.size n = ((0 : Int), (8 : Int)) := by unfold DS.size; rw [h.find_none hn hf]; rfl
  unfold LogS.bytes
  rw [hs, if_pos (by simp)]
theorem Fine.put (h : Fine D) (n : ByteArray) (f : File) : Fine { D with fs := aput D.fs n f } := ⟨h.on, h.arm, h.room, aput_nodup h.nd n f⟩
theorem Fine.del (h : Fine D) (n : ByteArray) : Fine { D with fs := adel D.fs n } := ⟨h.on, h.arm, h.room, adel_nodup h.nd n⟩
end
/-- A log that fits its files; b: whether the last chunk is done too. -/
structure Good (L : LogS) (D : DS) (b : Bool) (c : Nat) : Prop where
  fine : Fine D
  pre : 1 ≤ L.pre.size ∧ L.pre.size ≤ 20
  size : 100 ≤ L.size ∧ L.size ≤ 1000000
  bad : L.bad = 0
  few : L.ps.length ≤ 150
  cnt : D.fs.length ≤ L.ps.length + c
  cle : c ≤ 40
  used : ∀ p ∈ L.ps, p.used = usedOf p.bodies
  short : ∀ p ∈ L.ps, ∀ s ∈ p.bodies, s.size ≤ 3999
  done : ∀ (k : Nat) p, L.ps[k]? = some p → p.done = (decide (k + 1 < L.ps.length) || b)
  file : ∀ (k : Nat) p, L.ps[k]? = some p → ∃ f, aget D.fs (nameK L.pre k) = some f ∧ f.b = baL (imageB k L.size p.bodies p.done)
  onl : ∀ n f k, aget D.fs n = some f → chunkOf L.pre n = some k → k < L.ps.length
section
variable {L : LogS} {D : DS} {b : Bool} {c : Nat}
theorem Good.name (h : Good L D b c) {k : Nat} (hk : k ≤ 999999) : okName (nameK L.pre k) := by
  have := h.pre
  unfold okName
  rw [name_size L.pre hk]
  omega
theorem Good.noChunk (h : Good L D b c) {k : Nat} (hk : L.ps.length ≤ k) (hk2 : k ≤ 999999) : aget D.fs (nameK L.pre k) = .none := by
  cases hq : aget D.fs (nameK L.pre k) with
  | none => rfl
  | some f =>
    have := h.onl _ f k hq (chunkOf_name L.pre hk2)
    omega
theorem told_zero (L : LogS) : L.told 0 = L := by
  unfold LogS.told
  rw [if_neg (by simp)]
theorem usedOf_app (l m : List ByteArray) : usedOf (l ++ m) = usedOf l + usedOf m := by
  unfold usedOf
  rw [List.map_append, List.sum_append]
theorem usedOf_one (s : ByteArray) : usedOf [s] = s.size + 13 := by simp [usedOf]
theorem recsB_used (l : List ByteArray) : ((recsB l).length : Int) = usedOf l := by
  induction l with
  | nil => rfl
  | cons s l ih =>
    have e1 : recsB (s :: l) = recB s ++ recsB l := by simp [recsB]
    have e2 : usedOf (s :: l) = usedOf [s] + usedOf l := usedOf_app [s] l
    rw [e1, e2, List.length_append, recB_len, usedOf_one, ← ih]
    omega
theorem image_open (k size : Int) (l m : List ByteArray) : imageB k size (l ++ m) false = imageB k size l false ++ recsB m := by
  unfold imageB
  rw [recsB_app]
  simp
theorem image_close (k size : Int) (l : List ByteArray) : imageB k size l true = imageB k size l false ++ finB k l.length := by
  unfold imageB
  simp
theorem putF_rec {s : ByteArray} (h : s.size ≤ 3999) : putF (1 :: s.data.toList) = (recB s, 0) := by
  unfold putF recB
  rw [if_neg (by simp; omega)]
/-- Bytes are put behind the last chunk's. -/
theorem Good.fileLast (h : Good L D b c) {k : Nat} {p : PartL} (hp : L.ps[k]? = some p) (bs : List UInt8) :
    ∃ f, aget D.fs (nameK L.pre k) = some f ∧ f.b = baL (imageB k L.size p.bodies p.done) ∧ L.file D k bs = (0, L, { D with fs := aput D.fs (nameK L.pre k) { f with b := f.b ++ baL bs } }) := by
  obtain ⟨f, h1, h2⟩ := h.file k p hp
  have hk : k < L.ps.length := (List.getElem?_eq_some_iff.1 hp).1
  have hg : D.get (nameK L.pre k) = f := by unfold DS.get; rw [h1]; rfl
  have := h.fine.append (h.name (k := k) (by have := h.few; omega)) (.inl (by rw [h1]; rfl)) (baL bs)
  refine ⟨f, h1, h2, ?_⟩
  unfold LogS.file
  rw [this, hg, told_zero]
/-- The last chunk turns, with its file. -/
theorem Good.turn (h : Good L D b c) {k : Nat} (hk : k + 1 = L.ps.length) {p : PartL} {b' : Bool} (hu : p.used = usedOf p.bodies) (hs : ∀ s ∈ p.bodies, s.size ≤ 3999) (hd : p.done = b') {f : File} (hf : f.b = baL (imageB k L.size p.bodies p.done)) (s' m' : Int) :
    Good ⟨L.pre, L.size, L.ps.set k p, s', m', L.bad⟩ { D with fs := aput D.fs (nameK L.pre k) f } b' c := by
  have hkl : k < L.ps.length := by omega
  have hk9 : k ≤ 999999 := by have := h.few; omega
  have hset : ∀ q ∈ L.ps.set k p, q = p ∨ q ∈ L.ps := fun q hq => by
    rcases List.mem_or_eq_of_mem_set hq with e | e
    · exact .inr e
    · exact .inl e
  obtain ⟨f0, hf0, _⟩ := h.file k _ (List.getElem?_eq_getElem hkl)
  refine ⟨h.fine.put _ _, h.pre, h.size, h.bad, ?_, ?_, h.cle, fun q hq => ?_, fun q hq => ?_, fun j q hj => ?_, fun j q hj => ?_, fun n g j hg hj => ?_⟩
  · show (L.ps.set k p).length ≤ 150
    rw [List.length_set]
    exact h.few
  · show (aput D.fs (nameK L.pre k) f).length ≤ (L.ps.set k p).length + c
    rw [length_aput, hf0, List.length_set]
    exact h.cnt
  · rcases hset q hq with rfl | e
    · exact hu
    · exact h.used q e
  · rcases hset q hq with rfl | e
    · exact hs
    · exact h.short q e
  · have hj : (L.ps.set k p)[j]? = some q := hj
    show q.done = (decide (j + 1 < (L.ps.set k p).length) || b')
    rw [List.getElem?_set] at hj
    rw [List.length_set]
    by_cases e : k = j
    · subst e
      rw [if_pos rfl, if_pos hkl] at hj
      injection hj with hj
      rw [← hj, hd, decide_eq_false (by omega)]
      rfl
    · rw [if_neg e] at hj
      rw [h.done j q hj, decide_eq_true (by have := (List.getElem?_eq_some_iff.1 hj).1; omega)]
      rfl
  · have hj : (L.ps.set k p)[j]? = some q := hj
    show ∃ g, aget (aput D.fs (nameK L.pre k) f) (nameK L.pre j) = some g ∧ g.b = baL (imageB j L.size q.bodies q.done)
    rw [List.getElem?_set] at hj
    rw [aget_aput]
    by_cases e : k = j
    · subst e
      rw [if_pos rfl, if_pos hkl] at hj
      injection hj with hj
      subst hj
      rw [if_pos rfl]
      exact ⟨f, rfl, hf⟩
    · rw [if_neg e] at hj
      have hj2 := (List.getElem?_eq_some_iff.1 hj).1
      rw [if_neg (fun q => e (name_inj hk9 (by have := h.few; omega) q))]
      exact h.file j q hj
  · show j < ((L.ps.set k p).length : Int)
    rw [List.length_set]
    have hg : aget (aput D.fs (nameK L.pre k) f) n = some g := hg
    rw [aget_aput] at hg
    by_cases e : nameK L.pre k = n
    · have hj : chunkOf L.pre n = some j := hj
      rw [← e, chunkOf_name L.pre hk9] at hj
      injection hj with hj
      omega
    · rw [if_neg e] at hg
      exact h.onl n g j hg hj
/-- A new chunk. -/
theorem Good.fresh (h : Good L D true c) (hf : L.ps.length < 150) :
    ∃ f, L.fresh D = (0, ⟨L.pre, L.size, L.ps ++ [PartL.zero], L.synced, L.mark, L.bad⟩, { D with fs := aput D.fs (nameK L.pre L.ps.length) f }) ∧ Good ⟨L.pre, L.size, L.ps ++ [PartL.zero], L.synced, L.mark, L.bad⟩ { D with fs := aput D.fs (nameK L.pre L.ps.length) f } false c := by
  have hk9 : L.ps.length ≤ 999999 := by omega
  have hno := h.noChunk (Nat.le_refl _) hk9
  have hg : D.get (nameK L.pre L.ps.length) = File.zero := by unfold DS.get; rw [hno]; rfl
  have hst := startE_ok (k := (L.ps.length : Int)) ⟨by omega, by omega⟩ h.size
  have hap := h.fine.append (h.name hk9) (.inr (by have := h.cnt; have := h.cle; omega)) (baL (startB L.ps.length L.size))
  rw [hg] at hap
  obtain ⟨f, hff⟩ : ∃ f : File, f = { File.zero with b := File.zero.b ++ baL (startB L.ps.length L.size) } := ⟨_, rfl⟩
  rw [← hff] at hap
  have hfb : f.b = baL (imageB L.ps.length L.size [] false) := by
    have e1 : imageB L.ps.length L.size [] false = startB L.ps.length L.size := by simp [imageB, recsB]
    rw [e1, hff]
    apply ByteArray.ext
    simp [File.zero]
  refine ⟨f, ?_, ?_⟩
  · unfold LogS.fresh
    rw [hst]
    dsimp only
    rw [if_neg (by simp)]
    unfold LogS.file
    rw [hap]
    dsimp only
    rw [if_neg (by simp), told_zero]
  · refine ⟨h.fine.put _ _, h.pre, h.size, h.bad, ?_, ?_, h.cle, fun q hq => ?_, fun q hq => ?_, fun j q hj => ?_, fun j q hj => ?_, fun n g j hg2 hj => ?_⟩
    · show (L.ps ++ [PartL.zero]).length ≤ 150
      rw [List.length_append]
      simp
      omega
    · show (aput D.fs (nameK L.pre L.ps.length) _).length ≤ (L.ps ++ [PartL.zero]).length + c
      rw [length_aput, hno, List.length_append]
      have := h.cnt
      simp
      omega
    · rcases List.mem_append.1 hq with e | e
      · exact h.used q e
      · rw [List.mem_singleton] at e
        subst e
        rfl
    · rcases List.mem_append.1 hq with e | e
      · exact h.short q e
      · rw [List.mem_singleton] at e
        subst e
        intro s hs
        cases hs
    · have hj : (L.ps ++ [PartL.zero])[j]? = some q := hj
      show q.done = (decide (j + 1 < (L.ps ++ [PartL.zero]).length) || false)
      have hj2 := (List.getElem?_eq_some_iff.1 hj).1
      rw [List.length_append] at hj2
      rw [List.length_append, Bool.or_false]
      by_cases e : j < L.ps.length
      · rw [List.getElem?_append_left e] at hj
        rw [h.done j q hj, Bool.or_true, decide_eq_true (by simp; omega)]
      · rw [List.getElem?_append_right (by omega)] at hj
        have : j = L.ps.length := by simp at hj2; omega
        subst this
        rw [Nat.sub_self] at hj
        injection hj with hj
        rw [← hj, decide_eq_false (by simp)]
        rfl
    · have hj : (L.ps ++ [PartL.zero])[j]? = some q := hj
      have hj2 := (List.getElem?_eq_some_iff.1 hj).1
      rw [List.length_append] at hj2
      show ∃ g, aget (aput D.fs (nameK L.pre L.ps.length) f) (nameK L.pre j) = some g ∧ g.b = baL (imageB j L.size q.bodies q.done)
      rw [aget_aput]
      by_cases e : j < L.ps.length
      · rw [List.getElem?_append_left e] at hj
        rw [if_neg (fun q => by have := name_inj hk9 (by omega) q; omega)]
        exact h.file j q hj
      · rw [List.getElem?_append_right (by omega)] at hj
        have : j = L.ps.length := by simp at hj2; omega
        subst this
        rw [Nat.sub_self] at hj
        injection hj with hj
        subst hj
        rw [if_pos rfl]
        exact ⟨f, rfl, hfb⟩
    · have hg2 : aget (aput D.fs (nameK L.pre L.ps.length) f) n = some g := hg2
      show j < (((L.ps ++ [PartL.zero]).length : Nat) : Int)
      rw [List.length_append]
      rw [aget_aput] at hg2
      by_cases e : nameK L.pre L.ps.length = n
      · have hj : chunkOf L.pre n = some j := hj
        rw [← e, chunkOf_name L.pre hk9] at hj
        injection hj with hj
        simp
        omega
      · rw [if_neg e] at hg2
        have := h.onl n g j hg2 hj
        simp
        omega
end
end Go.Proofs.YtfjkjndpndjfpaaGreatDoor
/- Logs, plain: records are appended. No program is named. -/
set_option linter.unusedVariables false
set_option linter.unusedSimpArgs false
namespace Go.Proofs.YtfjkjndpndjfpaaGreatDoor
open Go.RowKit
theorem aput_aput {κ ν : Type} [DecidableEq κ] (l : List (κ × ν)) (k : κ) (v u : ν) : aput (aput l k v) k u = aput l k u := by
  induction l with
  | nil => simp [aput]
  | cons p l ih =>
    obtain ⟨a, b⟩ := p
    unfold aput
    by_cases h : a = k
    · rw [if_pos h]
      simp [aput, h]
    · rw [if_neg h]
      simp only [aput, if_neg h, ih]
/-- What no call on chunks touches. -/
def Same4 (L L' : LogS) (D D' : DS) : Prop := L'.pre = L.pre ∧ L'.size = L.size ∧ L'.mark = L.mark ∧ ∀ n, chunkOf L.pre n = none → aget D'.fs n = aget D.fs n
theorem Same4.refl (L : LogS) (D : DS) : Same4 L L D D := ⟨rfl, rfl, rfl, fun _ _ => rfl⟩
theorem Same4.trans {L L' L'' : LogS} {D D' D'' : DS} (h : Same4 L L' D D') (k : Same4 L' L'' D' D'') : Same4 L L'' D D'' :=
  ⟨k.1.trans h.1, k.2.1.trans h.2.1, k.2.2.1.trans h.2.2.1, fun n hn => (k.2.2.2 n (by rw [h.1]; exact hn)).trans (h.2.2.2 n hn)⟩
/-- All files but the last chunk's last. -/
def Firm4 (L : LogS) (D : DS) : Prop := ∀ n f, aget D.fs n = some f → (∀ k : Nat, k + 1 = L.ps.length → n ≠ nameK L.pre k) → f.lasts = f.b.size ∧ f.known = true
theorem roomC_le (size used : Int) : roomC size used ≤ 3999 := by
  unfold roomC
  split <;> omega
section
variable {L : LogS} {D : DS} {b : Bool} {c : Nat}
theorem Good.empty (h : Good L D b c) (he : L.ps = []) (b' : Bool) : Good L D b' c := ⟨h.fine, h.pre, h.size, h.bad, h.few, h.cnt, h.cle, h.used, h.short, fun k p hp => by rw [he] at hp; simp at hp, h.file, h.onl⟩
theorem put_other {L : LogS} {D : DS} {k : Nat} (hk : k ≤ 999999) (f : File) {n : ByteArray} (hn : chunkOf L.pre n = none) : aget (aput D.fs (nameK L.pre k) f) n = aget D.fs n := by
  rw [aget_aput, if_neg (fun q => by rw [← q, chunkOf_name L.pre hk] at hn; cases hn)]
theorem last_get {l : List PartL} {p : PartL} (h : l.getLast? = some p) : ∃ k, k + 1 = l.length ∧ l[k]? = some p ∧ ((l.length : Int) - 1 = (k : Nat)) ∧ l.length - 1 = k := by
  rw [List.getLast?_eq_getElem?] at h
  have := (List.getElem?_eq_some_iff.1 h).1
  exact ⟨l.length - 1, by omega, h, by omega, rfl⟩
theorem all_set {ps : List PartL} {k : Nat} {p q : PartL} (hp : ps[k]? = some p) (hk : k + 1 = ps.length) : (ps.set k q).flatMap (·.bodies) = (ps.dropLast).flatMap (·.bodies) ++ q.bodies ∧ ps.flatMap (·.bodies) = (ps.dropLast).flatMap (·.bodies) ++ p.bodies := by
  have hne : ps ≠ [] := fun e => by rw [e] at hk; simp at hk
  have hl := List.dropLast_concat_getLast hne
  have hlast : ps.getLast hne = p := by
    rw [List.getLast_eq_getElem]
    have := (List.getElem?_eq_some_iff.1 hp).2
    have e : ps.length - 1 = k := by omega
    simp only [e]
    exact this
  rw [hlast] at hl
  have hdl : ps.dropLast.length = k := by rw [List.length_dropLast]; omega
  constructor
  · rw [← hl, List.set_append_right _ _ (by omega), hdl]
    simp
  · conv => lhs; rw [← hl]
    simp
theorem Good.next (h : Good L D false c) (hf : L.ps.length < 149) (s : ByteArray) :
    ∃ L' D', L.next D s = (0, L', D') ∧ Good L' D' false c ∧ 0 < L'.ps.length ∧ L'.ps.length ≤ L.ps.length + 1 ∧ L'.all = L.all ∧ Same4 L L' D D' ∧ (Firm4 L D → Firm4 L' D') := by
  cases hl : L.ps.getLast? with
  | none =>
    have he : L.ps = [] := List.getLast?_eq_none_iff.1 hl
    obtain ⟨f, h1, h2⟩ := (h.empty he true).fresh (by omega)
    refine ⟨_, _, by unfold LogS.next; rw [hl]; exact h1, h2, ?_, ?_, ?_, ⟨rfl, rfl, rfl, fun n hn => put_other (by omega) f hn⟩, fun hfm n g hg hne => ?_⟩
    · simp
    · simp
    · simp [LogS.all, PartL.zero]
    · have hg : aget (aput D.fs (nameK L.pre L.ps.length) f) n = some g := hg
      have hne : n ≠ nameK L.pre L.ps.length := hne L.ps.length (by simp)
      rw [aget_aput, if_neg (fun q => hne q.symm)] at hg
      exact hfm n g hg (fun k hk => by rw [he] at hk; simp at hk)
  | some p =>
    obtain ⟨k, hk, hp, hki, hkn⟩ := last_get hl
    have hd : p.done = false := by rw [h.done k p hp, decide_eq_false (by omega)]; rfl
    have hk9 : k ≤ 999999 := by omega
    unfold LogS.next
    rw [hl]
    dsimp only
    rw [hd, if_neg (by simp)]
    by_cases hr : (s.size : Int) ≤ roomC L.size p.used
    · rw [if_pos hr]
      exact ⟨L, D, rfl, h, by omega, by omega, rfl, Same4.refl _ _, fun h => h⟩
    · rw [if_neg hr, hki, finE_ok ⟨by omega, by omega⟩ (by omega)]
      dsimp only
      obtain ⟨f, hf1, hf2, hf3⟩ := h.fileLast hp (finB k p.bodies.length)
      rw [hf3]
      dsimp only
      rw [if_neg (by simp), hkn]
      obtain ⟨f2, hf2e⟩ : ∃ f2 : File, f2 = { f with b := f.b ++ baL (finB k p.bodies.length) } := ⟨_, rfl⟩
      rw [← hf2e]
      have hfine := h.fine.put (nameK L.pre k) f2
      have hsy := hfine.sync (n := nameK L.pre k) (f := f2) (h.name hk9) (by show aget (aput D.fs (nameK L.pre k) f2) _ = _; rw [aget_aput, if_pos rfl])
      have hsyn : (L.setPart k { p with done := true }).sync { D with fs := aput D.fs (nameK L.pre k) f2 } = (0, ⟨L.pre, L.size, L.ps.set k { p with done := true }, (L.setPart k { p with done := true }).len, L.mark, L.bad⟩, { D with fs := aput D.fs (nameK L.pre k) ⟨f2.b, f2.b.size, true⟩ }) := by
        unfold LogS.sync
        have e1 : (L.setPart k { p with done := true }).ps.length = L.ps.length := List.length_set
        rw [e1, if_neg (by omega), hki]
        have e2 : (L.setPart k { p with done := true }).pre = L.pre := rfl
        rw [e2, hsy]
        dsimp only
        rw [if_neg (by simp), told_zero, aput_aput]
        rfl
      rw [hsyn]
      dsimp only
      rw [if_neg (by simp)]
      have hg := h.turn hk (p := { p with done := true }) (b' := true) (h.used p (List.mem_of_getElem? hp)) (h.short p (List.mem_of_getElem? hp)) rfl (f := ⟨f2.b, f2.b.size, true⟩) (by
        show f2.b = baL (imageB k L.size p.bodies true)
        rw [image_close, ← baL_append, hf2e]
        show f.b ++ _ = _
        rw [hf2, hd]) (L.setPart k { p with done := true }).len L.mark
      obtain ⟨f3, g1, g2⟩ := hg.fresh (by show (L.ps.set k _).length < 150; rw [List.length_set]; omega)
      obtain ⟨a1, a2⟩ := all_set (q := { p with done := true }) hp hk
      refine ⟨_, _, g1, g2, ?_, ?_, ?_, ⟨rfl, rfl, rfl, fun n hn => ?_⟩, fun hfm n g hg hne => ?_⟩
      · simp
      · simp
      · show ((L.ps.set k { p with done := true }) ++ [PartL.zero]).flatMap (·.bodies) = L.ps.flatMap (·.bodies)
        rw [List.flatMap_append, a1, a2]
        simp [PartL.zero]
      · show aget (aput (aput D.fs (nameK L.pre k) _) (nameK L.pre _) f3) n = _
        rw [aget_aput, if_neg (fun q => by rw [← q, chunkOf_name L.pre (by rw [List.length_set]; omega)] at hn; cases hn)]
        exact put_other hk9 _ hn
      · have hg : aget (aput (aput D.fs (nameK L.pre k) (⟨f2.b, f2.b.size, true⟩ : File)) (nameK L.pre (L.ps.set k { p with done := true }).length) f3) n = some g := hg
        have hne : n ≠ nameK L.pre (L.ps.set k { p with done := true }).length := hne (L.ps.set k { p with done := true }).length (by simp)
        rw [aget_aput, if_neg (fun q => hne q.symm), aget_aput] at hg
        by_cases e : nameK L.pre k = n
        · rw [if_pos e] at hg
          injection hg with hg
          subst hg
          exact ⟨rfl, rfl⟩
        · rw [if_neg e] at hg
          exact hfm n g hg (fun j hj => by
            have : j = k := by omega
            rw [this]
            exact fun q => e q.symm)
theorem Good.append1 (h : Good L D false c) (hf : L.ps.length < 149) {s : ByteArray} (hs : (s.size : Int) ≤ roomC L.size 0) :
    ∃ L' D', L.append1 D s = (0, L', D') ∧ Good L' D' false c ∧ L'.ps.length ≤ L.ps.length + 1 ∧ L'.all = L.all ++ [s] ∧ Same4 L L' D D' ∧ (Firm4 L D → Firm4 L' D') := by
  have hs9 : s.size ≤ 3999 := by have := roomC_le L.size 0; omega
  obtain ⟨L1, D1, h1, h2, h3, h4, h5, h6, h7⟩ := h.next hf s
  obtain ⟨p, hl⟩ : ∃ p, L1.ps.getLast? = some p := by
    cases hq : L1.ps.getLast? with
    | none => rw [List.getLast?_eq_none_iff.1 hq] at h3; simp at h3
    | some p => exact ⟨p, rfl⟩
  obtain ⟨k, hk, hp, hki, hkn⟩ := last_get hl
  have hd : p.done = false := by rw [h2.done k p hp, decide_eq_false (by omega)]; rfl
  obtain ⟨f, g1, g2, g3⟩ := h2.fileLast hp (recB s)
  have hg := h2.turn hk (p := { p with bodies := p.bodies ++ [s], used := p.used + (s.size + 13) }) (b' := false)
    (by show p.used + _ = usedOf (p.bodies ++ [s]); rw [usedOf_app, usedOf_one, h2.used p (List.mem_of_getElem? hp)])
    (fun t ht => by
      rcases List.mem_append.1 ht with q | q
      · exact h2.short p (List.mem_of_getElem? hp) t q
      · rw [List.mem_singleton] at q
        subst q
        exact hs9) hd (f := { f with b := f.b ++ baL (recB s) }) (by
      show f.b ++ baL (recB s) = baL (imageB k L1.size (p.bodies ++ [s]) p.done)
      rw [hd, image_open, recsB_one, ← baL_append, g2, hd]) L1.synced L1.mark
  obtain ⟨a1, a2⟩ := all_set (q := { p with bodies := p.bodies ++ [s], used := p.used + (s.size + 13) }) hp hk
  refine ⟨_, _, ?_, hg, ?_, ?_, h6.trans ⟨rfl, rfl, rfl, fun n hn => put_other (by have := h2.few; omega) _ hn⟩, fun hfm n g hgn hne => ?_⟩
  · unfold LogS.append1
    rw [h1]
    dsimp only
    rw [if_neg (by simp), putF_rec hs9, hki]
    dsimp only
    rw [g3]
    dsimp only
    rw [if_neg (by simp), hl]
    dsimp only
    rw [hkn]
    rfl
  · show (L1.ps.set k _).length ≤ _
    rw [List.length_set]
    exact h4
  · show (L1.ps.set k _).flatMap (·.bodies) = _
    rw [a1, ← h5]
    show _ = L1.ps.flatMap (·.bodies) ++ [s]
    rw [a2]
    simp
  · have hgn : aget (aput D1.fs (nameK L1.pre k) _) n = some g := hgn
    have hne : n ≠ nameK L1.pre k := hne k (by show k + 1 = (L1.ps.set k _).length; rw [List.length_set]; exact hk)
    rw [aget_aput, if_neg (fun q => hne q.symm)] at hgn
    exact h7 hfm n g hgn (fun j hj => by
      have : j = k := by omega
      rw [this]
      exact hne)
theorem Good.appendGo : ∀ (l : List ByteArray) {L : LogS} {D : DS}, Good L D false c → L.ps.length + l.length < 150 → (∀ s ∈ l, (s.size : Int) ≤ roomC L.size 0) →
    ∃ L' D', L.appendGo D l = (0, L', D') ∧ Good L' D' false c ∧ L'.ps.length ≤ L.ps.length + l.length ∧ L'.all = L.all ++ l ∧ Same4 L L' D D' ∧ (Firm4 L D → Firm4 L' D')
  | [], L, D, h, hf, hs => ⟨L, D, rfl, h, by simp, by simp, Same4.refl _ _, fun h => h⟩
  | s :: l, L, D, h, hf, hs => by
    simp only [List.length_cons] at hf
    obtain ⟨L1, D1, h1, h2, h3, h4, h5, h6⟩ := h.append1 (by omega) (hs s (by simp))
    obtain ⟨L2, D2, g1, g2, g3, g4, g5, g6⟩ := Good.appendGo l h2 (by omega) (fun t ht => by rw [h5.2.1]; exact hs t (by simp [ht]))
    refine ⟨L2, D2, ?_, g2, by simp; omega, by rw [g4, h4]; simp, h5.trans g5, fun q => g6 (h6 q)⟩
    unfold LogS.appendGo
    rw [h1]
    dsimp only
    rw [if_neg (by simp), g1]
theorem len_all (L : LogS) : L.len = L.all.length := by
  unfold LogS.len LogS.all
  induction L.ps with
  | nil => rfl
  | cons p l ih =>
    simp only [List.map_cons, List.sum_cons, List.flatMap_cons, List.length_append, ih]
    omega
/-- Append: all fit, and are there; or one is too long, and nothing is there. -/
theorem Good.append (h : Good L D false c) {l : List ByteArray} (hf : L.ps.length + l.length < 150) :
    ((∀ s ∈ l, (s.size : Int) ≤ roomC L.size 0) ∧ ∃ L' D', L.append D l = (((L.all.length : Int), (0 : Int)), L', D') ∧ Good L' D' false c ∧ L'.all = L.all ++ l ∧ Same4 L L' D D' ∧ L'.ps.length ≤ L.ps.length + l.length ∧ (Firm4 L D → Firm4 L' D')) ∨
    ((¬∀ s ∈ l, (s.size : Int) ≤ roomC L.size 0) ∧ L.append D l = ((0, 2), L, D)) := by
  by_cases hs : ∀ s ∈ l, (s.size : Int) ≤ roomC L.size 0
  · left
    obtain ⟨L', D', h1, h2, h3, h4, h5, h6⟩ := h.appendGo l hf hs
    refine ⟨hs, L', D', ?_, h2, h4, h5, h3, h6⟩
    unfold LogS.append
    rw [h.bad, if_neg (by simp), if_neg, h1]
    · dsimp only
      rw [if_neg (by simp), len_all]
    · simp only [List.any_eq_true, decide_eq_true_eq, not_exists, not_and]
      intro s hm
      have := hs s hm
      omega
  · right
    refine ⟨hs, ?_⟩
    unfold LogS.append
    rw [h.bad, if_neg (by simp), if_pos]
    simp only [List.any_eq_true, decide_eq_true_eq]
    simp only [Classical.not_forall] at hs
    obtain ⟨s, hm, hq⟩ := hs
    exact ⟨s, hm, by omega⟩
end
end Go.Proofs.YtfjkjndpndjfpaaGreatDoor
/- Logs, plain: a log is opened. No program is named. -/
set_option linter.unusedVariables false
set_option linter.unusedSimpArgs false
namespace Go.Proofs.YtfjkjndpndjfpaaGreatDoor
open Go.RowKit
theorem bts_injL {a b : ByteArray} (h : a.data.toList = b.data.toList) : a = b := by rw [← baL_bts a, h, baL_bts]
theorem mem_names (D : DS) (n : ByteArray) : n ∈ D.names ↔ (aget D.fs n).isSome = true := by
  have h1 : (aget D.fs n).isSome = true ↔ n ∈ D.fs.map (·.1) := by
    have := aget_none (l := D.fs) (k := n)
    constructor
    · intro h
      apply Classical.byContradiction
      intro q
      rw [this.2 q] at h
      cases h
    · intro h
      cases hq : aget D.fs n with
      | none => exact absurd h (this.1 hq)
      | some _ => rfl
  rw [h1]
  unfold DS.names
  rw [List.mem_map]
  constructor
  · rintro ⟨l, hl, rfl⟩
    rw [List.mem_mergeSort, List.mem_map] at hl
    obtain ⟨p, hp, rfl⟩ := hl
    exact List.mem_map.2 ⟨p, hp, rfl⟩
  · intro h
    obtain ⟨p, hp, rfl⟩ := List.mem_map.1 h
    exact ⟨p.1.data.toList, by rw [List.mem_mergeSort, List.mem_map]; exact ⟨p, hp, rfl⟩, rfl⟩
theorem names_nodup {D : DS} (h : ANodup D.fs) : D.names.Nodup := by
  unfold DS.names
  have h1 : (D.fs.map fun p => p.1.data.toList).Nodup := by
    have h0 : (D.fs.map (·.1)).Nodup := h
    have : (D.fs.map fun p => p.1.data.toList) = (D.fs.map (·.1)).map (fun s => s.data.toList) := by rw [List.map_map]; rfl
    rw [this]
    show List.Pairwise _ _
    rw [List.pairwise_map]
    exact List.Pairwise.imp (fun {a b} hab e => hab (bts_injL e)) h0
  have h2 : ((D.fs.map fun p => p.1.data.toList).mergeSort fun x y => decide (x ≤ y)).Nodup := (List.mergeSort_perm _ _).nodup_iff.2 h1
  show List.Pairwise _ _
  rw [List.pairwise_map]
  exact List.Pairwise.imp (fun {a b} hab e => hab (baL_inj e)) h2
/-! ## the chaser's file -/
theorem framesGo_all {b : List UInt8} : ∀ (l : List (List UInt8)) (f : Nat) (out : List (List UInt8)) (at_ : Nat), b.drop at_ = l.flatMap frameB → (∀ s ∈ l, s.length ≤ 4000) → l.length < f →
    LogS.framesGo b f out at_ = (out ++ l, at_ + (l.flatMap frameB).length)
  | [], f + 1, out, at_, hb, hs, hf => by
    unfold LogS.framesGo
    rw [hb]
    simp [firstF_nil]
  | s :: l, f + 1, out, at_, hb, hs, hf => by
    have hff : firstF (b.drop at_) = (s, s.length + 12, 0) := by
      rw [hb, List.flatMap_cons]
      exact first_frame (hs s (by simp)) _
    have hb2 : b.drop (at_ + (s.length + 12)) = l.flatMap frameB := by
      rw [← List.drop_drop, hb, List.flatMap_cons, drop_pre (frameB_len s)]
    unfold LogS.framesGo
    dsimp only
    rw [hff]
    dsimp only
    rw [if_neg (by simp), framesGo_all l f _ _ hb2 (fun t ht => hs t (by simp [ht])) (by simpa using hf), List.flatMap_cons, List.length_append, frameB_len]
    simp [Nat.add_assoc]
theorem flat_ge (l : List (List UInt8)) : l.length ≤ (l.flatMap frameB).length := by
  induction l with
  | nil => simp
  | cons s l ih =>
    rw [List.flatMap_cons, List.length_append, frameB_len, List.length_cons]
    omega
theorem frames_all (l : List (List UInt8)) (hs : ∀ s ∈ l, s.length ≤ 4000) : LogS.frames (l.flatMap frameB) = (l, (l.flatMap frameB).length) := by
  unfold LogS.frames
  rw [framesGo_all (b := l.flatMap frameB) l _ [] 0 List.drop_zero hs (by have := flat_ge l; omega)]
  simp
def fitsI (m : Int) : Prop := -9223372036854775808 ≤ m ∧ m ≤ 9223372036854775807
theorem headI_i64 {m : Int} (h : fitsI m) : LogS.headI (i64B m) = m := by
  unfold LogS.headI
  rw [if_neg (by rw [i64B_len]; omega), List.take_of_length_le (by rw [i64B_len]; omega)]
  exact ofBe_i64 h
def markF (l : List Int) : List UInt8 := (l.map i64B).flatMap frameB
/-- A log, all of its files, and the chaser's. -/
structure Whole (L : LogS) (D : DS) : Prop where
  good : Good L D false 1
  new : aget D.fs (newN L.pre) = none
  mark : (aget D.fs (markN L.pre) = none ∧ L.mark = 0 ∧ D.fs.length ≤ L.ps.length) ∨ ∃ f ms, aget D.fs (markN L.pre) = some f ∧ f.b = baL (markF (ms ++ [L.mark])) ∧ ∀ m ∈ ms ++ [L.mark], fitsI m
section
variable {L : LogS} {D : DS} {b : Bool} {c : Nat}
theorem Good.okNew (h : Good L D b c) : okName (newN L.pre) := by
  have := h.pre
  unfold okName newN
  rw [ByteArray.size_append]
  have : (⟨#[110, 101, 119]⟩ : ByteArray).size = 3 := rfl
  omega
theorem Good.okMark (h : Good L D b c) : okName (markN L.pre) := by
  have := h.pre
  unfold okName markN
  rw [ByteArray.size_append]
  have : (⟨#[109, 97, 114, 107]⟩ : ByteArray).size = 4 := rfl
  omega
theorem Good.zero_part (h : Good L D b c) {k : Nat} {p : PartL} (hp : L.ps[k]? = some p) : p = ⟨p.bodies, usedOf p.bodies, p.done⟩ := by
  rw [← h.used p (List.mem_of_getElem? hp)]
/-- The disk behind the last chunk's being read. -/
def lastD (L : LogS) (D : DS) (f : File) : DS := { D with fs := aput D.fs (nameK L.pre ((L.ps.length : Int) - 1)) ⟨f.b, f.b.size, true⟩ }
theorem Good.open_mid (h : Good L D false c) {k : Nat} {p : PartL} (hp : L.ps[k]? = some p) (hk : k + 1 < L.ps.length) (s m x : Int) :
    LogS.open1 ⟨L.pre, L.size, L.ps.take k, s, m, x⟩ D k false = (0, ⟨L.pre, L.size, L.ps.take (k + 1), s, m, x⟩, D) := by
  obtain ⟨f, h1, h2⟩ := h.file k p hp
  have hk9 : k ≤ 999999 := by have := h.few; omega
  have hd : p.done = true := by rw [h.done k p hp, decide_eq_true hk]; rfl
  have hb := h.fine.bytes (h.name hk9) h1
  have hr := read_image (k := k) ⟨by omega, by omega⟩ h.size (h.short p (List.mem_of_getElem? hp)) p.done
  have ht : L.ps.take (k + 1) = L.ps.take k ++ [⟨p.bodies, usedOf p.bodies, p.done⟩] := by
    rw [← h.zero_part hp, List.take_succ_eq_append_getElem (by omega), (List.getElem?_eq_some_iff.1 hp).2]
  unfold LogS.open1
  dsimp only
  rw [hb]
  dsimp only
  rw [if_neg (by simp), h2, bts_baL, hr]
  dsimp only
  rw [if_neg (by simp [hd])]
  simp only [Bool.false_eq_true, if_false]
  rw [if_neg (by simp), ht]
theorem Good.open_last (h : Good L D false c) {k : Nat} {p : PartL} (hp : L.ps[k]? = some p) (hk : k + 1 = L.ps.length) {f : File} (h1 : aget D.fs (nameK L.pre k) = some f) (s m x : Int) :
    LogS.open1 ⟨L.pre, L.size, L.ps.take k, s, m, x⟩ D k true = (0, ⟨L.pre, L.size, L.ps, s, m, x⟩, lastD L D f) := by
  obtain ⟨f', h1', h2⟩ := h.file k p hp
  rw [h1] at h1'
  injection h1' with h1'
  subst h1'
  have hk9 : k ≤ 999999 := by have := h.few; omega
  have hb := h.fine.bytes (h.name hk9) h1
  have hr := read_image (k := k) ⟨by omega, by omega⟩ h.size (h.short p (List.mem_of_getElem? hp)) p.done
  have ht : L.ps = L.ps.take k ++ [⟨p.bodies, usedOf p.bodies, p.done⟩] := by
    rw [← h.zero_part hp, ← (List.getElem?_eq_some_iff.1 hp).2, ← List.take_succ_eq_append_getElem (by omega), List.take_of_length_le (by omega)]
  have hfs : f.b.size = (imageB k L.size p.bodies p.done).length := by rw [h2, baL_size]
  have htr := h.fine.truncate (h.name hk9) h1 (k := ((imageB k L.size p.bodies p.done).length : Int)) ⟨by omega, by omega⟩
  have hx : f.b.extract 0 (((imageB k L.size p.bodies p.done).length : Int)).toNat = f.b := by
    rw [Int.toNat_natCast, ← hfs]
    simp
  rw [hx] at htr
  have hsy := (h.fine.put (nameK L.pre k) ⟨f.b, min f.lasts ((imageB k L.size p.bodies p.done).length : Int), f.known⟩).sync (n := nameK L.pre k) (f := ⟨f.b, min f.lasts ((imageB k L.size p.bodies p.done).length : Int), f.known⟩) (h.name hk9) (by show aget (aput D.fs _ _) _ = _; rw [aget_aput, if_pos rfl])
  have hcut : LogS.cut D (nameK L.pre k) ((imageB k L.size p.bodies p.done).length : Int) = (0, { D with fs := aput D.fs (nameK L.pre k) ⟨f.b, f.b.size, true⟩ }) := by
    unfold LogS.cut
    rw [htr, if_neg (by simp), hsy]
    dsimp only
    rw [aput_aput]
  unfold LogS.open1
  dsimp only
  rw [hb]
  dsimp only
  rw [if_neg (by simp), h2, bts_baL, hr]
  dsimp only
  rw [if_neg (by simp)]
  simp only [if_true]
  rw [hcut]
  dsimp only
  rw [if_neg (by simp)]
  unfold lastD
  have e : (L.ps.length : Int) - 1 = k := by omega
  rw [e, ← ht]
theorem Good.openGo (h : Good L D false c) {kl : Nat} (hkl : kl + 1 = L.ps.length) {f : File} (h1 : aget D.fs (nameK L.pre kl) = some f) (s m x : Int) : ∀ (j k : Nat), k + j + 1 = L.ps.length →
    LogS.openGo ⟨L.pre, L.size, L.ps.take k, s, m, x⟩ D L.ps.length (j + 1) k = (0, ⟨L.pre, L.size, L.ps, s, m, x⟩, lastD L D f)
  | 0, k, hj => by
    have hk : k = kl := by omega
    subst hk
    unfold LogS.openGo
    rw [decide_eq_true (by omega : (k : Int) = (L.ps.length : Int) - 1), h.open_last (List.getElem?_eq_getElem (by omega)) hkl h1 s m x]
    dsimp only
    rw [if_neg (by simp)]
    rfl
  | j + 1, k, hj => by
    have ih := h.openGo hkl h1 s m x j (k + 1) (by omega)
    have e : ((k : Int) + 1) = ((k + 1 : Nat) : Int) := by omega
    rw [LogS.openGo]
    rw [decide_eq_false (by omega : ¬(k : Int) = (L.ps.length : Int) - 1), h.open_mid (List.getElem?_eq_getElem (by omega)) (by omega) s m x]
    dsimp only
    rw [if_neg (by simp), e]
    exact ih
theorem Good.chunks (h : Good L D b c) (s m x : Int) (ps : List PartL) : LogS.chunks ⟨L.pre, L.size, ps, s, m, x⟩ D = ((L.ps.length : Int), (L.ps.length : Int) - 1) := by
  unfold LogS.chunks DS.list
  dsimp only
  rw [h.fine.on, if_pos rfl]
  have hmem : ∀ n, n ∈ D.names.filter (fun s => L.pre.data.toList.isPrefixOf s.data.toList) ↔ (aget D.fs n).isSome = true ∧ L.pre.data.toList.isPrefixOf n.data.toList = true := fun n => by
    rw [List.mem_filter, mem_names]
  refine chunks_whole ((names_nodup h.fine.nd).filter _) (by have := h.few; omega) (fun n hn k hk => ?_) (fun k hk => ?_)
  · have := ((hmem n).1 hn).1
    obtain ⟨f, hf⟩ := Option.isSome_iff_exists.1 this
    exact h.onl n f k hf hk
  · rw [hmem]
    obtain ⟨f, hf, _⟩ := h.file k _ (List.getElem?_eq_getElem hk)
    refine ⟨by rw [hf]; rfl, ?_⟩
    rw [name_list]
    rw [List.isPrefixOf_iff_prefix]
    exact List.prefix_append _ _
/-- A whole log is opened: it is as it was. -/
theorem Whole.openL (h : Whole L D) : ∃ D', LogS.openL D L.pre L.size = (0, ⟨L.pre, L.size, L.ps, L.len, L.mark, 0⟩, D') ∧ Whole ⟨L.pre, L.size, L.ps, L.len, L.mark, 0⟩ D' := by
  have hg := h.good
  have harg : LogS.openArg L.pre L.size = true := by
    unfold LogS.openArg
    rw [decide_eq_true hg.pre.1, decide_eq_true hg.pre.2, decide_eq_true hg.size.1, decide_eq_true hg.size.2]
    rfl
  have hdrop : LogS.drop D (newN L.pre) = (0, D) := by
    unfold LogS.drop
    rw [hg.fine.remove_none hg.okNew h.new]
    rfl
  have hch := hg.chunks 0 0 0 []
  -- the chunks are read
  have hgo : ∃ D1, LogS.openGo (LogS.new L.pre L.size) D L.ps.length L.ps.length 0 = (0, ⟨L.pre, L.size, L.ps, 0, 0, 0⟩, D1) ∧ (∀ s m, Good ⟨L.pre, L.size, L.ps, s, m, L.bad⟩ D1 false 1) ∧ (∀ n, chunkOf L.pre n = none → aget D1.fs n = aget D.fs n) ∧ D1.fs.length = D.fs.length := by
    by_cases h0 : L.ps.length = 0
    · have hps : L.ps = [] := List.length_eq_zero_iff.1 h0
      refine ⟨D, ?_, fun s m => ⟨hg.fine, hg.pre, hg.size, hg.bad, hg.few, hg.cnt, hg.cle, hg.used, hg.short, hg.done, hg.file, hg.onl⟩, fun _ _ => rfl, rfl⟩
      rw [hps]
      rfl
    · obtain ⟨kl, hkl⟩ : ∃ kl, kl + 1 = L.ps.length := ⟨L.ps.length - 1, by omega⟩
      obtain ⟨f, h1, h2⟩ := hg.file kl _ (List.getElem?_eq_getElem (by omega))
      have hk9 : kl ≤ 999999 := by have := hg.few; omega
      have e : (L.ps.length : Int) - 1 = kl := by omega
      refine ⟨lastD L D f, ?_, fun s m => ?_, fun n hn => ?_, ?_⟩
      · have := hg.openGo hkl h1 0 0 0 kl 0 (by omega)
        rw [List.take_zero, hkl] at this
        exact this
      · have hp : L.ps[kl]? = some L.ps[kl] := List.getElem?_eq_getElem (by omega)
        have := hg.turn hkl (p := L.ps[kl]) (b' := false) (hg.used _ (List.mem_of_getElem? hp)) (hg.short _ (List.mem_of_getElem? hp)) (by rw [hg.done kl _ hp, decide_eq_false (by omega)]; rfl) (f := ⟨f.b, f.b.size, true⟩) h2 s m
        rw [List.set_getElem_self] at this
        unfold lastD
        rw [e]
        exact this
      · unfold lastD
        rw [e]
        exact put_other hk9 _ hn
      · unfold lastD
        rw [e]
        show (aput D.fs _ _).length = _
        rw [length_aput, h1]
        rfl
  obtain ⟨D1, g1, g2, g3, g4⟩ := hgo
  have hg1 := g2 0 0
  have hnew1 : aget D1.fs (newN L.pre) = none := (g3 _ (chunkOf_new L.pre)).trans h.new
  have hm1 : aget D1.fs (markN L.pre) = aget D.fs (markN L.pre) := g3 _ (chunkOf_mark L.pre)
  unfold LogS.openL
  rw [harg, if_neg (by simp), hdrop]
  dsimp only
  rw [if_neg (by simp)]
  have hch' : (LogS.new L.pre L.size).chunks D = ((L.ps.length : Int), (L.ps.length : Int) - 1) := hch
  rw [hch']
  dsimp only
  rw [if_neg (by simp), Int.toNat_natCast, g1]
  dsimp only
  rw [if_neg (by simp)]
  rcases h.mark with ⟨q1, q2, q4⟩ | ⟨f, ms, q1, q2, q3⟩
  · have hmk : LogS.marked1 ⟨L.pre, L.size, L.ps, 0, 0, 0⟩ D1 = (0, ⟨L.pre, L.size, L.ps, 0, 0, 0⟩, D1) := by
      unfold LogS.marked1
      dsimp only
      rw [hg1.fine.bytes_none hg1.okMark (hm1.trans q1)]
      dsimp only
      rw [if_pos rfl]
    rw [hmk]
    dsimp only
    rw [if_neg (by simp)]
    refine ⟨D1, by rw [q2]; rfl, ?_, hnew1, .inl ⟨hm1.trans q1, q2, by rw [g4]; exact q4⟩⟩
    have := g2 L.len L.mark
    rw [hg.bad] at this
    exact this
  · have hb := hg1.fine.bytes hg1.okMark (hm1.trans q1)
    obtain ⟨fl, hfl⟩ : ∃ fl, fl = (ms ++ [L.mark]).map i64B := ⟨_, rfl⟩
    have hfb : f.b = baL (fl.flatMap frameB) := by rw [q2, hfl]; rfl
    have hfr := frames_all fl (fun s hs => by
      rw [hfl] at hs
      obtain ⟨m, _, rfl⟩ := List.mem_map.1 hs
      rw [i64B_len]
      omega)
    have hlast : fl.getLast? = some (i64B L.mark) := by rw [hfl, List.map_append]; simp
    have hfs : f.b.size = (fl.flatMap frameB).length := by rw [hfb, baL_size]
    have htr := hg1.fine.truncate hg1.okMark (hm1.trans q1) (k := ((fl.flatMap frameB).length : Int)) ⟨by omega, by omega⟩
    have hx : f.b.extract 0 (((fl.flatMap frameB).length : Int)).toNat = f.b := by
      rw [Int.toNat_natCast, ← hfs]
      simp
    rw [hx] at htr
    have hsy := (hg1.fine.put (markN L.pre) ⟨f.b, min f.lasts ((fl.flatMap frameB).length : Int), f.known⟩).sync (n := markN L.pre) (f := ⟨f.b, min f.lasts ((fl.flatMap frameB).length : Int), f.known⟩) hg1.okMark (by show aget (aput D1.fs _ _) _ = _; rw [aget_aput, if_pos rfl])
    have hcut : LogS.cut D1 (markN L.pre) ((fl.flatMap frameB).length : Int) = (0, { D1 with fs := aput D1.fs (markN L.pre) ⟨f.b, f.b.size, true⟩ }) := by
      unfold LogS.cut
      rw [htr, if_neg (by simp), hsy]
      dsimp only
      rw [aput_aput]
    have hmk : LogS.marked1 ⟨L.pre, L.size, L.ps, 0, 0, 0⟩ D1 = (0, ⟨L.pre, L.size, L.ps, 0, L.mark, 0⟩, { D1 with fs := aput D1.fs (markN L.pre) ⟨f.b, f.b.size, true⟩ }) := by
      unfold LogS.marked1
      dsimp only
      rw [hb]
      dsimp only
      rw [if_neg (by simp), if_neg (by simp), hfb, bts_baL, hfr]
      dsimp only
      rw [hlast, hcut, hfb]
      dsimp only
      rw [headI_i64 (q3 L.mark (by simp))]
    rw [hmk]
    dsimp only
    rw [if_neg (by simp)]
    refine ⟨_, rfl, ?_, ?_, .inr ⟨⟨f.b, f.b.size, true⟩, ms, ?_, q2, q3⟩⟩
    · have hg2 := g2 L.len L.mark
      rw [hg.bad] at hg2
      have hlen : (aput D1.fs (markN L.pre) (⟨f.b, f.b.size, true⟩ : File)).length = D1.fs.length := by rw [length_aput, hm1, q1]; rfl
      refine ⟨hg2.fine.put _ _, hg2.pre, hg2.size, hg2.bad, hg2.few, ?_, hg2.cle, hg2.used, hg2.short, hg2.done, fun k p hp => ?_, fun n g k hn hk => ?_⟩
      · show (aput D1.fs (markN L.pre) _).length ≤ _
        rw [hlen]
        exact hg2.cnt
      · obtain ⟨f', a1, a2⟩ := hg2.file k p hp
        refine ⟨f', ?_, a2⟩
        show aget (aput D1.fs (markN L.pre) _) _ = _
        have hk : k < L.ps.length := (List.getElem?_eq_some_iff.1 hp).1
        rw [aget_aput, if_neg (fun q => name_ne_mark L.pre (k := k) (by have := hg.few; omega) q.symm)]
        exact a1
      · have hn : aget (aput D1.fs (markN L.pre) _) n = some g := hn
        rw [aget_aput] at hn
        by_cases e : markN L.pre = n
        · have hk : chunkOf L.pre n = some k := hk
          rw [← e, chunkOf_mark] at hk
          cases hk
        · rw [if_neg e] at hn
          exact hg2.onl n g k hn hk
    · show aget (aput D1.fs (markN L.pre) _) _ = _
      rw [aget_aput, if_neg (fun q => new_ne_mark L.pre q.symm)]
      exact hnew1
    · show aget (aput D1.fs (markN L.pre) (⟨f.b, f.b.size, true⟩ : File)) (markN L.pre) = _
      rw [aget_aput, if_pos rfl]
end
end Go.Proofs.YtfjkjndpndjfpaaGreatDoor
/- Contracts: how many chunks stand on the disk (chunklog chunks). -/
set_option linter.unusedVariables false
set_option linter.unusedSimpArgs false
namespace Go.Proofs.YtfjkjndpndjfpaaGreatDoor
open Go Go.RowKit Go.Sort
theorem numRet_bd (s : ByteArray) : -1000000000000000000 < (numRet s).1 ∧ (numRet s).1 < 1000000000000000000 := by
  by_cases h1 : shapeB s.data.toList = true
  · by_cases h2 : (magB s.data.toList).all digitB = true
    · have h3 : (magB s.data.toList).length ≤ 18 := by
        unfold shapeB at h1
        simp only [Bool.not_eq_true', Bool.or_eq_false_iff, decide_eq_false_iff_not] at h1
        omega
      have := valN_small h2 h3
      rw [numRet_ok h1 h2]
      dsimp only
      split <;> omega
    · rw [numRet_bad (.inr (by simpa using h2))]
      simp
  · rw [numRet_bad (.inl (by simpa using h1))]
    simp
def tailB (p s : ByteArray) : ByteArray := ⟨#[49]⟩ ++ s.extract p.size s.size
theorem chunkOf_num {p s : ByteArray} : chunkOf p s = if (numRet (tailB p s)).2 = 0 ∧ 0 ≤ (numRet (tailB p s)).1 - 1000000 ∧ nameK p ((numRet (tailB p s)).1 - 1000000) = s then some ((numRet (tailB p s)).1 - 1000000) else none := by
  have e : (tailB p s).data.toList = 49 :: s.data.toList.drop p.size := by
    unfold tailB
    rw [ByteArray.data_append, Array.toList_append, ext_drop]
    rfl
  unfold chunkOf numRet
  rw [e]
  cases numB (49 :: s.data.toList.drop p.size) with
  | none => simp
  | some v => simp
section
variable {a w w1 w' : World} {lb db mb M : Nat} {d : DS} {L : LogS} {kv pv : Value} {xs : List (Value × PartL)}
theorem pre_size {p s : ByteArray} (h : p.data.toList.isPrefixOf s.data.toList = true) : p.size ≤ s.size := by
  have := (List.isPrefixOf_iff_prefix.1 h).length_le
  simpa using this
theorem list_mem {D : DS} {p : ByteArray} (hk : Fs D.fs M) {s : ByteArray} (h : s ∈ D.list p) : p.size ≤ s.size ∧ s.size ≤ 40 := by
  unfold DS.list at h
  split at h
  · rw [List.mem_filter] at h
    refine ⟨pre_size h.2, ?_⟩
    obtain ⟨f, hf⟩ := Option.isSome_iff_exists.1 ((mem_names D s).1 h.1)
    exact hk.short _ (aget_mem hf)
  · cases h
set_option maxRecDepth 100000 in
set_option maxHeartbeats 4000000 in
theorem jchunks_any (h : LogAt a w lb db mb d L kv pv xs) (hp : L.pre.size ≤ 20) (hk : Fs d.fs M) :
    Calls Tryz.prog 34 #[.pointer (some ⟨lb, 0, none⟩)] w fun e w' => e = .returned (.tuple #[.int .i64 (L.chunks d).1, .bool (decide ((L.chunks d).2 = (L.chunks d).1 - 1))]) ∧ Only [] w w' := by
  have hmem := fun s hs => list_mem (p := L.pre) hk (s := s) hs
  have hlen : (d.list L.pre).length ≤ 200 := by
    have h1 : (d.list L.pre).length ≤ d.names.length := by
      unfold DS.list
      split
      · exact List.length_filter_le _ _
      · simp
    have h2 : d.names.length = d.fs.length := by simp [DS.names]
    have := hk.few
    omega
  have HL := Lib.hid fun (w1 : World) (k1 : Only [] w w1) => list_any (h.only0 k1).disk hk L.pre
  have d0 : ∀ W, Only [] w W → W.cell? ⟨lb, 0, none⟩ = some (.pointer (some ⟨db, 0, none⟩)) := fun W k => (h.only0 k).cell0
  have d1 : ∀ W, Only [] w W → W.cell? ⟨lb, 1, none⟩ = some (.string L.pre) := fun W k => (h.only0 k).blk.cell 1
  have e0 := Within.cell (S := []) (d0 w (Only.refl _ _)) (by simp)
  have e1 := Within.cell (S := []) (d1 w (Only.refl _ _)) (by simp)
  unfold LogS.chunks
  obtain ⟨R, hR⟩ : ∃ R, chunksGo L.pre (d.list L.pre) (0, -1) = R := ⟨_, rfl⟩
  rw [hR]
  obtain ⟨ls, hls⟩ : ∃ ls, d.list L.pre = ls := ⟨_, rfl⟩
  rw [hls] at HL hmem hlen hR
  have HR := Lib.hid hR
  have HB := Lib.hid h
  have HM := Lib.hid hmem
  have D1 := Lib.hid d1
  clear hR hls h hk hmem d0 d1
  go_enter Tryz.func34, Tryz.ntmps34
  go_wp2_with fail
  refine wp_region_in [] [0, 1, 2, 3, 4, 5, 6, 7, 10] [8, 9] [] (by kernel_rfl) (by kernel_rfl) (by intro c d u a w h; cases d <;> exact h) ?_
  show wpQuiet _ _ _ _ [_, _, _, _, _, _, _, _, _] _
  repeat (go_big_quiet_step (fail))
  refine wpQuiet_nil ?_
  show wpList _ _ _ [_] _ _
  have k0 := (Only.refl [] w).drew
  go_wp2_with (go_at_call 27; refine (HL.out _ (Only.refl [] w).drew).mono ?_; rintro e1 w1 ⟨v, rfl, hv, -, k1⟩)
  obtain ⟨VA, vc, rfl, -, -, hvc⟩ := hv.openS
  have k1 := k0.trans k1
  refine check_of (S := []) k1 ?_
  show wpList _ _ _ [_] _ _
  go_wp2_with fail
  refine check_last (S := []) k1 (fun _ _ q => q) ?_
  clear HL e0 e1
  go_wp2_with fail
  go_loopw [4, 5, 20] (fun nn ll i wr => ∃ (k : Nat) (n l : Int), k ≤ ls.length ∧ i = .int .i64 k ∧ nn = .int .i64 n ∧ ll = .int .i64 l ∧ 0 ≤ n ∧ n ≤ k ∧ -1 ≤ l ∧ l ≤ 1000000000000000000 ∧ Hid (chunksGo L.pre (ls.drop k) (n, l) = R) ∧ Only [] w1 wr) (fun _ _ i _ => ls.length - (intOf i).toNat)
  case atStart => exact ⟨0, 0, -1, Nat.zero_le _, rfl, rfl, rfl, by omega, by omega, by omega, by omega, HR, Only.refl _ _⟩
  case round =>
    obtain ⟨k, n, l, hk, rfl, rfl, rfl, hn0, hn1, hl0, hl1, hgo, hO⟩ := hrel
    by_cases hlt : k < ls.length
    · obtain ⟨b, off, rfl, hbl, hbc⟩ := hvc k hlt
      have hbc := (hO.cell (p := ⟨b, off + k, none⟩) hbl (by simp)).trans hbc
      have hgo2 := hgo.out
      rw [List.drop_eq_getElem_cons hlt, chunksGo] at hgo2
      have hme := HM.out ls[k] (List.getElem_mem hlt)
      obtain ⟨s, hs⟩ : ∃ s, ls[k] = s := ⟨_, rfl⟩
      rw [hs] at hbc hgo2 hme
      have hBw := HB.out.only0 (k1.trans hO)
      have c1 := D1.out _ (k1.trans hO)
      have hdec : decide ((k : Int) < (ls.length : Int)) = true := decide_eq_true (by omega)
      have hts : (tailB L.pre s).size ≤ 1000000 := by
        unfold tailB
        rw [ByteArray.size_append, ByteArray.size_extract]
        show 1 + _ ≤ _
        omega
      have hN := number_any (tailB L.pre s) wr hts
      have hbd := numRet_bd (tailB L.pre s)
      rw [chunkOf_num] at hgo2
      unfold tailB at hN hbd hgo2
      obtain ⟨⟨v, e⟩, hve⟩ : ∃ q, numRet (⟨#[49]⟩ ++ s.extract L.pre.size s.size) = q := ⟨_, rfl⟩
      rw [hve] at hN hbd hgo2
      dsimp only at hN hbd hgo2
      have HN := Lib.hid hN
      have HG := Lib.hid hgo2
      have e1 := IntWalk.i64_in (v - 1000000) ⟨by omega, by omega⟩
      have e2 := IntWalk.i64_in ((n : Int) + 1) ⟨by omega, by omega⟩
      have HBw := Lib.hid hBw
      have HP := Lib.hid hp
      clear hve hgo hgo2 hN hs hts hBw hp
      by_cases he : e = 0
      · subst he
        by_cases hv : v - 1000000 < 0
        · have hge : decide (v - 1000000 ≥ 0) = false := decide_eq_false (by omega)
          have HG2 : Hid (chunksGo L.pre (ls.drop (k + 1)) (n, l) = R) := by
            have := HG.out
            rw [if_neg (by omega)] at this
            exact this
          clear HG
          go_wp2_with (go_at_call 61; refine HN.out.mono ?_; rintro e3 w3 ⟨rfl, rfl⟩)
          exact ⟨⟨k + 1, n, l, hlt, by simp, rfl, rfl, hn0, by omega, hl0, hl1, HG2, hO⟩, by simp [intOf]; omega⟩
        · have hge : decide (v - 1000000 ≥ 0) = true := decide_eq_true (by omega)
          have hJ := jname_any HBw.out.blk (by have := HP.out; omega) HBw.out.tabw (v - 1000000) (by omega) (by omega)
          have hdec2 := toList_decJ (nameK L.pre (v - 1000000)) s
          obtain ⟨nm, hnm⟩ : ∃ nm, nameK L.pre (v - 1000000) = nm := ⟨_, rfl⟩
          rw [hnm] at hJ HG hdec2
          have HJ := Lib.hid hJ
          clear hJ hnm
          by_cases hq : nm = s
          · rw [decide_eq_true hq] at hdec2
            have HG2 : Hid (chunksGo L.pre (ls.drop (k + 1)) (n + 1, max l (v - 1000000)) = R) := by
              have := HG.out
              rw [if_pos ⟨rfl, by omega, hq⟩] at this
              exact this
            clear HG hq
            go_wp2_with (first | (go_at_call 61; refine HN.out.mono ?_; rintro e3 w3 ⟨rfl, rfl⟩) | (go_at_call 50; refine HJ.out.mono ?_; rintro e4 w4 ⟨rfl, k4⟩))
            exact ⟨⟨k + 1, n + 1, max l (v - 1000000), hlt, by simp, rfl, by simp, by omega, by omega, by omega, by omega, HG2, hO.trans k4⟩, by simp [intOf]; omega⟩
          · rw [decide_eq_false hq] at hdec2
            have HG2 : Hid (chunksGo L.pre (ls.drop (k + 1)) (n, l) = R) := by
              have := HG.out
              rw [if_neg (fun h => hq h.2.2)] at this
              exact this
            clear HG hq
            go_wp2_with (first | (go_at_call 61; refine HN.out.mono ?_; rintro e3 w3 ⟨rfl, rfl⟩) | (go_at_call 50; refine HJ.out.mono ?_; rintro e4 w4 ⟨rfl, k4⟩))
            exact ⟨⟨k + 1, n, l, hlt, by simp, rfl, rfl, hn0, by omega, hl0, hl1, HG2, hO.trans k4⟩, by simp [intOf]; omega⟩
      · have hne : (e == 0) = false := by simpa using he
        have HG2 : Hid (chunksGo L.pre (ls.drop (k + 1)) (n, l) = R) := by
          have := HG.out
          rw [if_neg (fun h => he h.1)] at this
          exact this
        clear HG
        go_wp2_with (go_at_call 61; refine HN.out.mono ?_; rintro e3 w3 ⟨rfl, rfl⟩)
        exact ⟨⟨k + 1, n, l, hlt, by simp, rfl, rfl, hn0, by omega, hl0, hl1, HG2, hO⟩, by simp [intOf]; omega⟩
    · have hke : k = ls.length := by omega
      subst hke
      have hRe := hgo.out
      rw [List.drop_length, chunksGo] at hRe
      subst hRe
      have e1 := IntWalk.i64_in (n - 1) ⟨by omega, by omega⟩
      have hdec : decide ((ls.length : Int) < (ls.length : Int)) = false := decide_eq_false (by omega)
      clear hgo
      go_wp2
      go_ret2
      exact ⟨by rw [← show (l == n - 1) = decide (l = n - 1) from by rw [Bool.eq_iff_iff]; simp]; rfl, k1.trans hO⟩
end
end Go.Proofs.YtfjkjndpndjfpaaGreatDoor
/- Contracts: a log is opened on a disk that has nothing of it (chunklog Open, marked). -/
set_option linter.unusedVariables false
set_option linter.unusedSimpArgs false
namespace Go.Proofs.YtfjkjndpndjfpaaGreatDoor
open Go Go.RowKit Go.Sort
section
variable {a w w1 w' : World} {lb db mb M N : Nat} {d : DS} {L : LogS} {kv pv : Value} {xs : List (Value × PartL)} {R : List Nat}
theorem LogAt.fresh (hT : Tab a) (hO : Only [] a w) (hd : DiskAt w db mb d kv) (hu : a.heap.size ≤ db ∧ a.heap.size ≤ mb) (hk : ∀ g, kv.ownBlock = some g → a.heap.size ≤ g) (p : ByteArray) (size : Int) :
    LogAt a (w.alloc (.cells (logV db (LogS.new p size) (.slice none 0 0)) 50)) w.heap.size db mb d (LogS.new p size) kv (.slice none 0 0) [] := by
  have k : Only [] w (w.alloc (.cells (logV db (LogS.new p size) (.slice none 0 0)) 50)) := (Only.refl _ _).alloc _
  have hs := hO.size
  have l1 := hd.blk.lt
  have l2 := hd.map.lt
  refine ⟨rfl, Blk.new _ _ _, hd.only k (by simp) (by simp) (by simp), World.ownsRow_nil _ _ _ _, fun x hx => (by cases hx), ?_, fun v hv g hg => ?_, hO.trans k, hT, hs, hu.1, hu.2⟩
  · refine List.pairwise_cons.2 ⟨fun v hv g hg hq => ?_, List.pairwise_singleton _ _⟩
    rw [show v = .slice none 0 0 by simpa using hv] at hq
    cases hq
  · rcases List.mem_cons.1 hv with e | hv
    · subst e
      have h1 := hd.apart g hg
      have h2 := hd.old g hg
      have h3 := k.size
      exact ⟨by omega, h1.1, h1.2, by omega, hk g hg⟩
    · rw [show v = .slice none 0 0 by simpa using hv] at hg
      cases hg
theorem jmarked1_none (h : LogAt a w lb db mb d L kv pv xs) (hp : L.pre.size ≤ 1000) (hs : (d.get (markN L.pre)).b.size ≤ 1125899906842624) (hb : (LogS.bytes d (markN L.pre)).2 = 8) :
    Calls Tryz.prog 36 #[.pointer (some ⟨lb, 0, none⟩)] w fun e w' => e = .returned (.int .i64 (L.marked1 d).1) ∧ LogTo a lb db mb w kv pv xs w' (L.marked1 d).2 := by
  have hm : L.marked1 d = (0, L, d) := by unfold LogS.marked1; dsimp only; rw [if_pos hb]
  rw [hm]
  have c1 := h.cell1
  have HG := Lib.hid (jget_any h.blk h.disk (markN L.pre) hs)
  have hn : markN L.pre = L.pre ++ ⟨#[109, 97, 114, 107]⟩ := rfl
  rw [hb, hn] at HG
  obtain ⟨bs, hbs⟩ : ∃ bs, (LogS.bytes d (L.pre ++ ⟨#[109, 97, 114, 107]⟩)).1 = bs := ⟨_, rfl⟩
  rw [hbs] at HG
  have HB := Lib.hid h
  clear h hs hb hm hn hbs
  go_enter Tryz.func36, Tryz.ntmps36
  go_wp2_with (go_at_call 62; refine HG.out.mono ?_; rintro e1 w1 ⟨rfl, k1⟩)
  go_ret
  exact ⟨rfl, LogTo.refl HB.out k1⟩
set_option maxRecDepth 100000 in
set_option maxHeartbeats 2000000 in
theorem jopen_fresh (hT : Tab a) (hO : Only [] a w) (hd : DiskAt w db mb d kv) (hu : a.heap.size ≤ db ∧ a.heap.size ≤ mb) (hkv : ∀ g, kv.ownBlock = some g → a.heap.size ≤ g) (hk : d.Ok M) (hM : M ≤ 1125899906842624)
    (p : ByteArray) (size : Int) (hp : LogS.openArg p size = true) (hdr : (LogS.drop d (newN p)).1 = 0) (hch : (LogS.new p size).chunks (LogS.drop d (newN p)).2 = (0, -1)) (hmk : (LogS.bytes (LogS.drop d (newN p)).2 (markN p)).2 = 8) :
    Calls Tryz.prog 11 #[.pointer (some ⟨db, 0, none⟩), .string p, .int .i64 size] w fun e w' => ∃ lb kv', e = .returned (.tuple #[.pointer (some ⟨lb, 0, none⟩), .int .i64 0]) ∧ LogAt a w' lb db mb (LogS.drop d (newN p)).2 (LogS.new p size) kv' (.slice none 0 0) [] ∧
      Only [db, mb] w w' ∧ w.heap.size ≤ lb ∧ (∀ g, kv'.ownBlock = some g → kv.ownBlock = some g ∨ w.heap.size ≤ g) := by
  unfold LogS.openArg at hp
  simp only [Bool.and_eq_true, decide_eq_true_eq] at hp
  obtain ⟨⟨⟨p1, p2⟩, p3⟩, p4⟩ := hp
  have q1 : decide ((p.size : Int) < 1) = false := decide_eq_false (by omega)
  have q2 : decide ((p.size : Int) > 20) = false := decide_eq_false (by omega)
  have q3 : decide (size < 100) = false := decide_eq_false (by omega)
  have q4 : decide (size > 1000000) = false := decide_eq_false (by omega)
  have HCl := Lib.hid (fun (W : World) => strClone_any p W (by omega))
  have hdo := LogS.drop_ok hk (newN p)
  have HD := Lib.hid (fun (W : World) (lb : Nat) (kv1 : Value) (h : LogAt a W lb db mb d (LogS.new p size) kv1 (.slice none 0 0) []) => jdrop_any h.blk h.disk hk hM (newN p))
  have hnn : newN p = p ++ ⟨#[110, 101, 119]⟩ := rfl
  obtain ⟨⟨e, d1⟩, hdd⟩ : ∃ q, LogS.drop d (newN p) = q := ⟨_, rfl⟩
  rw [hdd] at hdr hch hmk hdo HD ⊢
  rw [hnn] at HD
  dsimp only at hdr hch hmk hdo HD ⊢
  subst hdr
  have HC := Lib.hid (fun (W : World) (lb : Nat) (kv1 : Value) (h : LogAt a W lb db mb d1 (LogS.new p size) kv1 (.slice none 0 0) []) => jchunks_any h (by show p.size ≤ 20; omega) hdo.fs)
  rw [hch] at HC
  have HMk := Lib.hid (fun (W : World) (lb : Nat) (kv1 : Value) (h : LogAt a W lb db mb d1 (LogS.new p size) kv1 (.slice none 0 0) []) => jmarked1_none h (by show p.size ≤ 1000; omega) (by have := hdo.get_le (markN p); show (d1.get (markN p)).b.size ≤ _; omega) hmk)
  have hmm : (LogS.new p size).marked1 d1 = (0, LogS.new p size, d1) := by unfold LogS.marked1; dsimp only; rw [show (LogS.new p size).pre = p from rfl, if_pos hmk]
  rw [hmm] at HMk
  have HLn := Lib.hid (fun (W : World) (lb : Nat) (kv1 : Value) (h : LogAt a W lb db mb d1 (LogS.new p size) kv1 (.slice none 0 0) []) => jlen_any h (by simp) (by show ((([] : List PartL).map _).sum : Int) ≤ _; simp))
  have hl0 : (LogS.new p size).len = 0 := rfl
  rw [hl0] at HLn
  have HF := Lib.hid (fun (W : World) (k : Only [] w W) => LogAt.fresh hT (hO.trans k) (hd.only k (by simp) (by simp) (by simp)) hu hkv p size)
  have HX := Lib.hid hd
  clear hdd hch hmk hdo hnn hmm hl0 hd hk p1 p3 p4 hT hO hu hkv
  go_enter Tryz.func11, Tryz.ntmps11
  go_wp2_with (go_at_call 32; refine (HCl.out _).mono ?_; rintro e1 w1 ⟨rfl, k1⟩; have h2 : LogAt a (w1.alloc (.cells #[.pointer (some ⟨db, 0, none⟩), .string p, .int .i64 size, .slice none 0 0, .int .i64 0, .int .i64 0, .int .i64 0] 50)) w1.heap.size db mb d (LogS.new p size) kv (.slice none 0 0) [] := HF.out _ k1; have HA := Lib.hid h2; have c1 : World.cell? _ ⟨w1.heap.size, 1, none⟩ = some (.string p) := h2.cell1; clear h2)
  go_wp2_with fail
  refine (HD.out _ _ _ HA.out).mono ?_
  rintro e2 w2 ⟨rfl, k2⟩
  obtain ⟨kv2, h2, hf2, k2c⟩ := HA.out.leads k2
  have HA2 := Lib.hid h2
  clear k2 h2 HA c1
  go_wp2_with fail
  refine (HC.out _ _ _ HA2.out).mono ?_
  rintro e3 w3 ⟨rfl, k3⟩
  have HA3 := Lib.hid (HA2.out.only0 k3)
  go_wp2_with fail
  go_loopw [59] (fun i wr => i = .int .i64 0 ∧ wr = w3) (fun _ _ => 0)
  case atStart => exact ⟨rfl, rfl⟩
  case round =>
    obtain ⟨rfl, rfl⟩ := hrel
    go_wp2_with fail
    refine (HMk.out _ _ _ HA3.out).mono ?_
    rintro e4 w4 ⟨rfl, k4⟩
    obtain ⟨kv4, h4, hf4, k4c⟩ := k4
    have HA4 := Lib.hid h4
    clear h4
    go_wp2_with fail
    refine (HLn.out _ _ _ HA4.out).mono ?_
    rintro e5 w5 ⟨rfl, k5⟩
    have h5 := HA4.out.only0 k5
    have HA5 := Lib.hid h5
    have f4 := h5.blk.free 4
    have c4 := h5.cell4
    clear h5
    go_wp2
    go_ret2
    have ks : Only [w1.heap.size] w5 (w5.setCell ⟨w1.heap.size, 4, none⟩ (.int .i64 0)) := (Only.refl _ _).setCell (.inl (by simp)) _
    have hfin : LogAt a (w5.setCell ⟨w1.heap.size, 4, none⟩ (.int .i64 0)) w1.heap.size db mb d1 (LogS.new p size) kv4 (.slice none 0 0) [] := HA5.out.head ks (HA5.out.blk.set 4 _) rfl
    have z1 := k1.size
    have z2 := k2c.size
    have z3 := k3.size
    simp at z2
    refine ⟨w1.heap.size, kv4, rfl, hfin, ?_, z1, fun g hg => ?_⟩
    · have o1 : Only [db, mb] w w2 := ((k1.alloc _).of_nil).trans k2c
      have o2 := (o1.trans k3.of_nil).step k4c (fun i hi => by
        simp only [List.mem_cons, List.not_mem_nil, or_false] at hi ⊢
        rcases hi with e | e | e
        · exact .inr (by omega)
        · exact .inl (.inl e)
        · exact .inl (.inr e))
      exact (o2.trans k5.of_nil).setCell (.inr z1) _
    · rcases hf4 g hg with q | q
      · rcases hf2 g q with q2 | q2
        · exact .inl q2
        · right; simp at q2; omega
      · right; omega
end
end Go.Proofs.YtfjkjndpndjfpaaGreatDoor
/- Logs, plain: a log is cut. No program is named. -/
set_option linter.unusedVariables false
set_option linter.unusedSimpArgs false
namespace Go.Proofs.YtfjkjndpndjfpaaGreatDoor
open Go.RowKit
theorem baL_extract (l : List UInt8) (n : Nat) : (baL l).extract 0 n = baL (l.take n) := by
  apply bts_injL
  rw [bts_baL]
  simp [baL]
/-- Where a record stands. -/
theorem findGo_spec : ∀ (ps : List PartL) (k m : Nat), m < (ps.flatMap (·.bodies)).length → ∃ j r p, LogS.findGo ps k m = (((k + j : Nat) : Int), ((r : Nat) : Int)) ∧ ps[j]? = some p ∧ r < p.bodies.length ∧
    (ps.flatMap (·.bodies)).take (m + 1) = (ps.take j).flatMap (·.bodies) ++ p.bodies.take (r + 1) ∧ (ps.flatMap (·.bodies))[m]? = p.bodies[r]?
  | [], k, m, h => by simp at h
  | p :: l, k, m, h => by
    unfold LogS.findGo
    rw [List.flatMap_cons, List.length_append] at h
    by_cases hm : m < p.bodies.length
    · rw [if_pos (by omega)]
      refine ⟨0, m, p, rfl, rfl, hm, ?_, ?_⟩
      · rw [List.flatMap_cons, List.take_append_of_le_length (by omega)]
        simp
      · rw [List.flatMap_cons, List.getElem?_append_left hm]
    · rw [if_neg (by omega)]
      obtain ⟨j, r, q, h1, h2, h3, h4, h5⟩ := findGo_spec l (k + 1) (m - p.bodies.length) (by omega)
      refine ⟨j + 1, r, q, ?_, by simpa using h2, h3, ?_, ?_⟩
      · have e1 : (k : Int) + 1 = ((k + 1 : Nat) : Int) := by omega
        have e2 : (m : Int) - p.bodies.length = ((m - p.bodies.length : Nat) : Int) := by omega
        rw [e1, e2, h1]
        have : k + 1 + j = k + (j + 1) := by omega
        rw [this]
      · rw [List.flatMap_cons, List.take_append, List.take_of_length_le (by omega)]
        have : m + 1 - p.bodies.length = m - p.bodies.length + 1 := by omega
        rw [this, h4, List.take_succ_cons, List.flatMap_cons, List.append_assoc]
      · rw [List.flatMap_cons, List.getElem?_append_right (by omega), h5]
section
variable {L : LogS} {D : DS} {b : Bool} {c : Nat}
theorem del_other {L : LogS} {D : DS} (hn : ANodup D.fs) {k : Nat} (hk : k ≤ 999999) {n : ByteArray} (h : chunkOf L.pre n = none) : aget (adel D.fs (nameK L.pre k)) n = aget D.fs n := by
  rw [aget_adel hn, if_neg (fun q => by rw [← q, chunkOf_name L.pre hk] at h; cases h)]
/-- The last chunk is removed. -/
theorem Good.pop (h : Good L D b c) {k : Nat} (hk : k + 1 = L.ps.length) (s' m' : Int) :
    D.remove (nameK L.pre k) = (0, { D with fs := adel D.fs (nameK L.pre k) }) ∧ Good ⟨L.pre, L.size, L.ps.dropLast, s', m', L.bad⟩ { D with fs := adel D.fs (nameK L.pre k) } true c := by
  have hk9 : k ≤ 999999 := by have := h.few; omega
  obtain ⟨f, hf, _⟩ := h.file k _ (List.getElem?_eq_getElem (by omega))
  refine ⟨h.fine.remove (h.name hk9) hf, ?_⟩
  have hdl : L.ps.dropLast.length = k := by rw [List.length_dropLast]; omega
  have hget : ∀ (j : Nat) (q : PartL), L.ps.dropLast[j]? = some q → j < k ∧ L.ps[j]? = some q := fun j q hj => by
    have h1 := (List.getElem?_eq_some_iff.1 hj).1
    rw [hdl] at h1
    rw [List.getElem?_dropLast, if_pos (by omega)] at hj
    exact ⟨h1, hj⟩
  have hmem : ∀ q ∈ L.ps.dropLast, q ∈ L.ps := fun q hq => (List.dropLast_sublist _).subset hq
  refine ⟨h.fine.del _, h.pre, h.size, h.bad, ?_, ?_, h.cle, fun q hq => h.used q (hmem q hq), fun q hq => h.short q (hmem q hq), fun j q hj => ?_, fun j q hj => ?_, fun n g j hg hj => ?_⟩
  · show L.ps.dropLast.length ≤ 150
    have := h.few
    omega
  · show (adel D.fs (nameK L.pre k)).length ≤ L.ps.dropLast.length + c
    rw [length_adel, hf, hdl]
    have := h.cnt
    simp
    omega
  · have hj : L.ps.dropLast[j]? = some q := hj
    obtain ⟨h1, h2⟩ := hget j q hj
    show q.done = (decide (j + 1 < L.ps.dropLast.length) || true)
    rw [h.done j q h2, decide_eq_true (by omega)]
    simp
  · have hj : L.ps.dropLast[j]? = some q := hj
    obtain ⟨h1, h2⟩ := hget j q hj
    show ∃ g, aget (adel D.fs (nameK L.pre k)) (nameK L.pre j) = some g ∧ _
    rw [aget_adel h.fine.nd, if_neg (fun q => by have := name_inj hk9 (by omega) q; omega)]
    exact h.file j q h2
  · have hg : aget (adel D.fs (nameK L.pre k)) n = some g := hg
    show j < (L.ps.dropLast.length : Int)
    rw [aget_adel h.fine.nd] at hg
    by_cases e : nameK L.pre k = n
    · rw [if_pos e] at hg
      cases hg
    · rw [if_neg e] at hg
      have h1 := h.onl n g j hg hj
      have h2 := chunkOf_some hj
      have h3 : j ≠ k := fun q => e (by rw [← h2.2, q])
      omega
theorem popStep (h : Good L D b c) {k : Nat} (hk : k + 1 = L.ps.length) (t : Int) (z : Bool) (hz : t < k ∨ z = true) (f : Nat) :
    ∃ s', L.popGo D t z (f + 1) = LogS.popGo ⟨L.pre, L.size, L.ps.dropLast, s', L.mark, L.bad⟩ { D with fs := adel D.fs (nameK L.pre k) } t z f := by
  have e : (L.ps.length : Int) - 1 = k := by omega
  refine ⟨min L.synced (LogS.len ⟨L.pre, L.size, L.ps.dropLast, L.synced, L.mark, L.bad⟩), ?_⟩
  rw [LogS.popGo]
  rw [if_pos ⟨by omega, by rw [e]; exact hz⟩, e, (h.pop hk 0 0).1]
  dsimp only
  rw [if_neg (by simp), told_zero]
/-- The last chunks are removed. -/
theorem Good.popTo : ∀ (j : Nat) {L : LogS} {D : DS} {b : Bool} {k f : Nat}, Good L D b c → L.ps.length = k + 1 + j → j ≤ f →
    ∃ s' D', L.popGo D k false f = (0, ⟨L.pre, L.size, L.ps.take (k + 1), s', L.mark, L.bad⟩, D') ∧ (∃ b', Good ⟨L.pre, L.size, L.ps.take (k + 1), s', L.mark, L.bad⟩ D' b' c) ∧ ∀ n, chunkOf L.pre n = none → aget D'.fs n = aget D.fs n
  | 0, L, D, b, k, f, h, hl, hf => by
    have e : L.ps.take (k + 1) = L.ps := List.take_of_length_le (by omega)
    rw [e]
    refine ⟨L.synced, D, ?_, ⟨b, h⟩, fun _ _ => rfl⟩
    cases f with
    | zero => rfl
    | succ f =>
      rw [LogS.popGo, if_neg]
      rintro ⟨_, q | q⟩
      · omega
      · cases q
  | j + 1, L, D, b, k, f, h, hl, hf => by
    obtain ⟨f, rfl⟩ : ∃ g, f = g + 1 := ⟨f - 1, by omega⟩
    obtain ⟨i, hi⟩ : ∃ i, i + 1 = L.ps.length := ⟨L.ps.length - 1, by omega⟩
    obtain ⟨s', hs⟩ := popStep h hi k false (.inl (by omega)) f
    rw [hs]
    have hg := (h.pop hi s' L.mark).2
    have hdl : L.ps.dropLast.length = k + 1 + j := by rw [List.length_dropLast]; omega
    obtain ⟨s2, D2, g1, g2, g3⟩ := Good.popTo j hg hdl (by omega : j ≤ f)
    have et : L.ps.dropLast.take (k + 1) = L.ps.take (k + 1) := by
      rw [List.dropLast_eq_take, List.take_take]
      congr 1
      omega
    have g1' := g1
    simp only [] at g1 g2 g3
    rw [et] at g1 g2
    exact ⟨s2, D2, g1, g2, fun n hn => (g3 n hn).trans (del_other h.fine.nd (by have := h.few; omega) hn)⟩
theorem Good.popAll : ∀ (j : Nat) {L : LogS} {D : DS} {b : Bool} {f : Nat}, Good L D b c → L.ps.length = j → j ≤ f →
    ∃ s' D', L.popGo D 0 true f = (0, ⟨L.pre, L.size, [], s', L.mark, L.bad⟩, D') ∧ Good ⟨L.pre, L.size, [], s', L.mark, L.bad⟩ D' false c ∧ ∀ n, chunkOf L.pre n = none → aget D'.fs n = aget D.fs n
  | 0, L, D, b, f, h, hl, hf => by
    have e : L.ps = [] := List.length_eq_zero_iff.1 hl
    have hL : L = ⟨L.pre, L.size, [], L.synced, L.mark, L.bad⟩ := by rw [← e]
    refine ⟨L.synced, D, ?_, by rw [← hL]; exact h.empty e false, fun _ _ => rfl⟩
    rw [← hL]
    cases f with
    | zero => rfl
    | succ f => rw [LogS.popGo, if_neg (fun q => by have := q.1; omega)]
  | j + 1, L, D, b, f, h, hl, hf => by
    obtain ⟨f, rfl⟩ : ∃ g, f = g + 1 := ⟨f - 1, by omega⟩
    obtain ⟨s', hs⟩ := popStep h hl.symm 0 true (.inr rfl) f
    rw [hs]
    have hg := (h.pop hl.symm s' L.mark).2
    have hdl : L.ps.dropLast.length = j := by rw [List.length_dropLast]; omega
    obtain ⟨s2, D2, g1, g2, g3⟩ := Good.popAll j hg hdl (by omega : j ≤ f)
    exact ⟨s2, D2, g1, g2, fun n hn => (g3 n hn).trans (del_other h.fine.nd (by have := h.few; omega) hn)⟩
theorem usedOf_nonneg (l : List ByteArray) : 0 ≤ usedOf l := by rw [← recsB_used]; omega
/-- The last chunk is cut. -/
theorem Good.shorten (h : Good L D b c) {k : Nat} {p : PartL} (hk : k + 1 = L.ps.length) (hp : L.ps[k]? = some p) {r : Nat} (hr : r ≤ p.bodies.length) :
    ∃ s' D', L.shorten D k r = (0, ⟨L.pre, L.size, L.ps.set k ⟨p.bodies.take r, usedOf (p.bodies.take r), false⟩, s', L.mark, L.bad⟩, D') ∧ Good ⟨L.pre, L.size, L.ps.set k ⟨p.bodies.take r, usedOf (p.bodies.take r), false⟩, s', L.mark, L.bad⟩ D' false c ∧ ∀ n, chunkOf L.pre n = none → aget D'.fs n = aget D.fs n := by
  have hk9 : k ≤ 999999 := by have := h.few; omega
  obtain ⟨f, hf1, hf2⟩ := h.file k p hp
  have hl : L.ps.getLast? = some p := by
    rw [List.getLast?_eq_getElem?]
    have : L.ps.length - 1 = k := by omega
    rw [this]
    exact hp
  have himg : imageB k L.size p.bodies p.done = (startB k L.size ++ recsB (p.bodies.take r)) ++ (recsB (p.bodies.drop r) ++ if p.done then finB k p.bodies.length else []) := by
    unfold imageB
    conv => lhs; rw [← List.take_append_drop r p.bodies]
    rw [recsB_app]
    simp
  have hlen : (startB k L.size ++ recsB (p.bodies.take r)).length = ((startB k L.size).length + usedOf (p.bodies.take r)).toNat := by
    rw [List.length_append, ← recsB_used]
    omega
  have hused := usedOf_nonneg (p.bodies.take r)
  have hz : 0 ≤ ((startB k L.size).length : Int) + usedOf (p.bodies.take r) ∧ ((startB k L.size).length : Int) + usedOf (p.bodies.take r) ≤ f.b.size := by
    refine ⟨by omega, ?_⟩
    rw [hf2, baL_size, himg, List.length_append, hlen]
    omega
  have htr := h.fine.truncate (h.name hk9) hf1 hz
  obtain ⟨f2, hf2e⟩ : ∃ f2 : File, f2 = ⟨f.b.extract 0 (((startB k L.size).length : Int) + usedOf (p.bodies.take r)).toNat, min f.lasts (((startB k L.size).length : Int) + usedOf (p.bodies.take r)), f.known⟩ := ⟨_, rfl⟩
  rw [← hf2e] at htr
  have hf2b : f2.b = baL (imageB k L.size (p.bodies.take r) false) := by
    rw [hf2e]
    show f.b.extract 0 _ = _
    rw [hf2, baL_extract, himg, ← hlen, List.take_left]
    simp [imageB]
  refine ⟨min L.synced (LogS.len ⟨L.pre, L.size, L.ps.set k ⟨p.bodies.take r, usedOf (p.bodies.take r), false⟩, L.synced, L.mark, L.bad⟩), _, ?_, h.turn hk (p := ⟨p.bodies.take r, usedOf (p.bodies.take r), false⟩) (b' := false) rfl (fun s hs => h.short p (List.mem_of_getElem? hp) s (List.mem_of_mem_take hs)) rfl (f := f2) hf2b _ L.mark, fun n hn => put_other hk9 _ hn⟩
  unfold LogS.shorten
  rw [hl]
  dsimp only
  rw [startE_ok ⟨by omega, by omega⟩ h.size, Int.toNat_natCast, htr]
  dsimp only
  rw [if_neg (by simp), told_zero]
  have : L.ps.length - 1 = k := by omega
  rw [this]
  rfl
/-- Truncate. -/
theorem Good.truncate (h : Good L D false c) {n : Nat} (hn : n ≤ L.all.length) :
    ∃ L' D', L.truncate D n = (0, L', D') ∧ Good L' D' false c ∧ L'.all = L.all.take n ∧ Same4 L L' D D' ∧ L'.ps.length ≤ L.ps.length := by
  have hlen := len_all L
  unfold LogS.truncate
  rw [h.bad, if_neg (by simp), if_neg (by omega)]
  by_cases he : n = L.all.length
  · rw [if_pos (by omega)]
    exact ⟨L, D, rfl, h, by rw [he, List.take_length], Same4.refl _ _, Nat.le_refl _⟩
  · rw [if_neg (by omega)]
    by_cases h0 : n = 0
    · subst h0
      obtain ⟨s', D', g1, g2, g3⟩ := h.popAll L.ps.length rfl (Nat.le_refl _)
      have e : (decide (((0 : Nat) : Int) = 0)) = true := rfl
      have e5 : ¬(0 : Int) < ((0 : Nat) : Int) := by omega
      rw [e, if_neg e5]
      dsimp only
      rw [g1]
      dsimp only
      rw [if_neg (by simp), if_pos (by rfl)]
      exact ⟨_, _, rfl, g2, by simp [LogS.all], ⟨rfl, rfl, rfl, g3⟩, by simp⟩
    · obtain ⟨k, r, p, f1, f2, f3, f4, _⟩ := findGo_spec L.ps 0 (n - 1) (by show n - 1 < L.all.length; omega)
      have hfd : L.find ((n : Int) - 1) = ((k : Int), (r : Int)) := by
        unfold LogS.find
        have e : (n : Int) - 1 = ((n - 1 : Nat) : Int) := by omega
        rw [e]
        have f1' : LogS.findGo L.ps ((0 : Nat) : Int) ((n - 1 : Nat) : Int) = _ := f1
        rw [Nat.zero_add] at f1'
        exact f1'
      have hkl : k < L.ps.length := (List.getElem?_eq_some_iff.1 f2).1
      obtain ⟨s1, D1, g1, ⟨b1, g2⟩, g3⟩ := h.popTo (L.ps.length - (k + 1)) (k := k) (f := L.ps.length) (by omega) (by omega)
      have htl : (L.ps.take (k + 1)).length = k + 1 := by rw [List.length_take]; omega
      have hp1 : (L.ps.take (k + 1))[k]? = some p := by rw [List.getElem?_take, if_pos (by omega)]; exact f2
      obtain ⟨s2, D2, q1, q2, q3⟩ := g2.shorten (k := k) (by show k + 1 = (L.ps.take (k + 1)).length; omega) hp1 (r := r + 1) (by omega)
      have e : decide ((n : Int) = 0) = false := decide_eq_false (by omega)
      have e2 : (r : Int) + 1 = ((r + 1 : Nat) : Int) := by omega
      have e6 : (0 : Int) < (n : Int) := by omega
      rw [e, if_pos e6, hfd]
      dsimp only
      rw [g1]
      dsimp only
      rw [if_neg (by simp), if_neg (by omega), e2, q1]
      refine ⟨_, _, rfl, q2, ?_, ⟨rfl, rfl, rfl, fun m hm => (q3 m hm).trans (g3 m hm)⟩, by simp; omega⟩
      obtain ⟨a1, _⟩ := all_set (q := ⟨p.bodies.take (r + 1), usedOf (p.bodies.take (r + 1)), false⟩) hp1 (by omega)
      show ((L.ps.take (k + 1)).set k _).flatMap (·.bodies) = L.all.take n
      rw [a1]
      have e3 : n = n - 1 + 1 := by omega
      have e4 : (L.ps.take (k + 1)).dropLast = L.ps.take k := by
        rw [List.dropLast_eq_take, List.take_take, htl]
        congr 1
        omega
      rw [e3, e4]
      exact f4.symm
end
end Go.Proofs.YtfjkjndpndjfpaaGreatDoor
/- Contracts: where a record stands (find), a record (Get), records from one on, forwards and backwards (Range, Back). -/
set_option linter.unusedVariables false
set_option linter.unusedSimpArgs false
namespace Go.Proofs.YtfjkjndpndjfpaaGreatDoor
open Go Go.RowKit Go.Sort
section
variable {a w w1 w' : World} {lb db mb M : Nat} {d : DS} {L : LogS} {kv pv : Value} {xs : List (Value × PartL)}
set_option maxHeartbeats 2000000 in
theorem jfind_any (h : LogAt a w lb db mb d L kv pv xs) (hn : xs.length ≤ 1000000) (n : Nat) (hlt : n < L.all.length) (hn2 : n ≤ 1000000000) :
    Calls Tryz.prog 48 #[.pointer (some ⟨lb, 0, none⟩), .int .i64 n] w fun e w' => e = .returned (.tuple #[.int .i64 (L.find n).1, .int .i64 (L.find n).2]) ∧ Only [] w w' := by
  have HC := Lib.hid (jchunkL_any h hn)
  have hps : L.ps.length = xs.length := by rw [h.ps, List.length_map]
  have hcl : L.chunkLens.length = xs.length := by unfold LogS.chunkLens; rw [List.length_map, hps]
  have hu : L.chunkLens = L.ps.map fun p => (p.bodies.length : Int) := rfl
  rw [hu] at hcl HC
  clear hu h
  unfold LogS.find
  unfold LogS.all at hlt
  obtain ⟨ps, hpe⟩ : ∃ ps, L.ps = ps := ⟨_, rfl⟩
  rw [hpe] at hlt hps hcl HC ⊢
  clear hpe
  obtain ⟨R, hR⟩ : ∃ R, LogS.findGo ps 0 n = R := ⟨_, rfl⟩
  rw [hR]
  have HR := Lib.hid hR
  clear hR
  go_enter Tryz.func48, Tryz.ntmps48
  go_wp2_with (go_at_call 23; refine HC.out.mono ?_; rintro e1 w1 ⟨A, cap, rfl, hown, k1⟩; have hS := Lib.hid (Slc.of_own hown).1; clear hown)
  rw [← hcl] at hS
  go_loop [1, 11] (fun m i => ∃ k q : Nat, k ≤ ps.length ∧ i = .int .i64 k ∧ m = .int .i64 q ∧ q ≤ n ∧ q < ((ps.drop k).flatMap (·.bodies)).length ∧ Hid (LogS.findGo (ps.drop k) k q = R)) (fun _ i => ps.length - (intOf i).toNat)
  case atStart => exact ⟨0, n, Nat.zero_le _, rfl, rfl, Nat.le_refl _, hlt, HR⟩
  case round =>
    obtain ⟨k, q, hk, rfl, rfl, hq, hql, hgo⟩ := hrel
    have hkl : k < ps.length := by
      apply Classical.byContradiction
      intro hne
      rw [List.drop_eq_nil_of_le (by omega)] at hql
      simp at hql
    obtain ⟨VA, vc, hv, -, -, hvc⟩ := hS.out.openI
    injection hv with hv1 hv2 hv3
    subst hv1 hv3
    obtain ⟨b, off, rfl, hbl, hbc⟩ := hvc k (by rw [List.length_map]; exact hkl)
    rw [List.getElem_map] at hbc
    have hg2 := hgo.out
    rw [List.drop_eq_getElem_cons hkl] at hg2 hql
    rw [LogS.findGo] at hg2
    rw [List.flatMap_cons, List.length_append] at hql
    have hdec : decide ((k : Int) < (xs.length : Int)) = true := decide_eq_true (by omega)
    obtain ⟨c, hc⟩ : ∃ c, ps[k].bodies.length = c := ⟨_, rfl⟩
    rw [hc] at hbc hg2 hql
    clear hvc hv2 hgo
    by_cases hqc : (q : Int) < (c : Int)
    · rw [if_pos hqc] at hg2
      subst hg2
      go_wp2
      go_ret2
      exact ⟨rfl, k1⟩
    · rw [if_neg hqc] at hg2
      have hcl2 : c ≤ q := by omega
      have hdec2 : decide ((q : Int) < (c : Int)) = false := decide_eq_false hqc
      have e1 := IntWalk.i64_in ((q : Int) - (c : Int)) ⟨by omega, by omega⟩
      have hsub : (q : Int) - (c : Int) = ((q - c : Nat) : Int) := by omega
      rw [hsub, show (k : Int) + 1 = ((k + 1 : Nat) : Int) by omega] at hg2
      have HG := Lib.hid hg2
      clear hg2
      go_wp2
      refine ⟨⟨k + 1, q - c, hkl, by simp, by rw [← hsub], by omega, by omega, HG⟩, by simp [intOf]; omega⟩
end
end Go.Proofs.YtfjkjndpndjfpaaGreatDoor
/- Contracts: a record (Get), records from one on, forwards and backwards (Range, Back). -/
set_option linter.unusedVariables false
set_option linter.unusedSimpArgs false
namespace Go.Proofs.YtfjkjndpndjfpaaGreatDoor
open Go Go.RowKit Go.Sort
section
variable {a w w1 w' : World} {lb db mb M : Nat} {d : DS} {L : LogS} {kv pv : Value} {xs : List (Value × PartL)}
set_option maxRecDepth 100000 in
set_option maxHeartbeats 2000000 in
theorem jrec_any (h : LogAt a w lb db mb d L kv pv xs) (hn : xs.length ≤ 1000000) (hl : L.len ≤ 1000000000) (n : Int) :
    Calls Tryz.prog 28 #[.pointer (some ⟨lb, 0, none⟩), .int .i64 n] w fun e w' => e = .returned (.tuple #[.string (L.get n).1, .int .i64 (L.get n).2]) ∧ Only [] w w' := by
  have c0 := h.cell0
  have HL := Lib.hid fun (w1 : World) (k1 : Only [] w w1) => jlen_any (h.only0 k1) hn hl
  unfold LogS.get
  by_cases h0 : n < 0
  · rw [if_pos (.inl h0)]
    have hdec : decide (n < 0) = true := decide_eq_true h0
    clear h HL
    go_enter Tryz.func28, Tryz.ntmps28
    go_wp2
    go_ret2
    exact ⟨rfl, Only.refl _ _⟩
  · have hdec : decide (n < 0) = false := decide_eq_false h0
    by_cases h1 : L.len ≤ n
    · rw [if_pos (.inr h1)]
      have hdec2 : decide (n ≥ L.len) = true := decide_eq_true h1
      clear h
      go_enter Tryz.func28, Tryz.ntmps28
      go_wp2_with (go_at_call 13; refine (HL.out _ (Only.refl _ _)).mono ?_; rintro e1 w1 ⟨rfl, k1⟩)
      go_ret2
      exact ⟨rfl, k1⟩
    · rw [if_neg (by omega)]
      have hdec2 : decide (n ≥ L.len) = false := decide_eq_false h1
      obtain ⟨m, rfl⟩ : ∃ m : Nat, n = m := ⟨n.toNat, by omega⟩
      have hla := len_all L
      have HF := Lib.hid fun (w1 : World) (k1 : Only [] w w1) => jfind_any (h.only0 k1) hn m (by omega) (by omega)
      obtain ⟨j, r, p, hf, hj, hr, -, hall⟩ := findGo_spec L.ps 0 m (show m < L.all.length by omega)
      have hfind : L.find m = ((j : Int), (r : Int)) := by
        unfold LogS.find
        have : LogS.findGo L.ps ((0 : Nat) : Int) m = _ := hf
        simpa using this
      rw [hfind] at HF
      have hall : L.all[((m : Int)).toNat]? = p.bodies[r]? := by rw [Int.toNat_natCast]; exact hall
      rw [hall, List.getElem?_eq_getElem hr]
      have hjl : j < xs.length := by
        have := (List.getElem?_eq_some_iff.1 hj).1
        rw [h.ps, List.length_map] at this
        exact this
      have hxj : xs[j].2 = p := by
        have := (List.getElem?_eq_some_iff.1 hj).2
        simp only [h.ps, List.getElem_map] at this
        exact this
      have hpart := (h.part xs[j] (List.getElem_mem _)).1
      have hat := h.at hjl
      obtain ⟨x, hx⟩ : ∃ x, xs[j] = x := ⟨_, rfl⟩
      rw [hx] at hpart hat hxj
      subst hxj
      obtain ⟨g, cap, hpv, hgl, g0, -, -⟩ := hat
      obtain ⟨VA, vc, hxv, -, -, hvc⟩ := hpart.openS
      rw [hxv] at g0
      obtain ⟨b, off, hVA, hbl, hb⟩ := hvc r hr
      subst hVA
      have c3 := h.cell3
      rw [hpv] at c3
      obtain ⟨s, hs⟩ : ∃ s, x.2.bodies[r] = s := ⟨_, rfl⟩
      rw [hs] at hb ⊢
      clear hf hfind hall hs hvc hxv hpv hpart hx hj h hla
      go_enter Tryz.func28, Tryz.ntmps28
      go_wp2_with (first
        | (go_at_call 13; refine (HL.out _ (Only.refl _ _)).mono ?_; rintro e1 w1 ⟨rfl, k1⟩; have HF2 := Lib.hid (HF.out _ k1); clear HF)
        | (go_at_call 48; refine HF2.out.mono ?_; rintro e2 w2 ⟨rfl, k2⟩
           have k3 := k1.trans k2
           have c3' := (k3.cell (p := ⟨lb, 3, none⟩) (block_lt_of_cell c3) (by simp)).trans c3
           have g0' := (k3.cell (p := ⟨g, j * 3, none⟩) hgl (by simp)).trans g0
           have hb' := (k3.cell (p := ⟨b, off + r, none⟩) hbl (by simp)).trans hb))
      go_ret2
      exact ⟨by simp, k1.trans k2⟩
set_option maxRecDepth 100000 in
set_option maxHeartbeats 2000000 in
theorem jrange_any (h : LogAt a w lb db mb d L kv pv xs) (hn : xs.length ≤ 1000000) (hl : L.len ≤ 10000000) (f most : Int) :
    Calls Tryz.prog 14 #[.pointer (some ⟨lb, 0, none⟩), .int .i64 f, .int .i64 most] w fun e w' => ∃ A cap, e = .returned (.slice A (L.range f most).length cap) ∧ w'.ownsRow w.heap.size 9 1 (.slice A (L.range f most).length cap) (L.range f most).length (strs (L.range f most)) ∧ Only [] w w' := by
  have hla := len_all L
  have HL := Lib.hid fun (w1 : World) (k1 : Only [] w w1) => jlen_any (h.only0 k1) hn (by omega)
  have HG := Lib.hid fun (w1 : World) (k1 : Only [] w w1) (n : Int) => jrec_any (h.only0 k1) hn (by omega) n
  unfold LogS.range
  clear h
  by_cases hf : f < 0
  · rw [if_pos hf]
    have hdec : decide (f ≥ 0) = false := decide_eq_false (by omega)
    go_enter Tryz.func14, Tryz.ntmps14
    go_wp2
    go_loopw [7, 8] (fun o i wr => o = .slice none 0 0 ∧ i = .int .i64 f ∧ wr = w) (fun _ _ _ => 0)
    case atStart => exact ⟨rfl, rfl, rfl⟩
    case round =>
      obtain ⟨rfl, rfl, rfl⟩ := hrel
      go_wp2
      go_ret
      exact ⟨none, 0, rfl, World.ownsRow_nil _ _ _ _, Only.refl _ _⟩
  · rw [if_neg hf]
    have hdec : decide (f ≥ 0) = true := decide_eq_true (by omega)
    obtain ⟨m, rfl⟩ : ∃ m : Nat, f = m := ⟨f.toNat, by omega⟩
    rw [Int.toNat_natCast]
    obtain ⟨T, hT⟩ : ∃ T, L.all.drop m = T := ⟨_, rfl⟩
    rw [hT]
    have hTl : T.length = L.all.length - m := by rw [← hT, List.length_drop]
    have hTg : ∀ k, k < T.length → L.get ((m + k : Nat) : Int) = (T.getD k ⟨#[]⟩, 0) := fun k hk => by
      unfold LogS.get
      rw [if_neg (by omega), Int.toNat_natCast, ← hT, List.getD_eq_getElem?_getD, List.getElem?_drop]
    have HT := Lib.hid hTg
    have HTl := Lib.hid hTl
    have hTb : T.length ≤ 10000000 := by omega
    clear hT hTg
    go_enter Tryz.func14, Tryz.ntmps14
    go_wp2
    go_loopw [7, 8] (fun o i wr => ∃ (k : Nat) (A : Option Addr) (cap : Nat), k ≤ T.length ∧ (k : Int) ≤ max most 0 ∧ o = .slice A k cap ∧ i = .int .i64 ((m + k : Nat) : Int) ∧ wr.ownsRow w.heap.size 9 1 (.slice A k cap) k (strs (T.take k)) ∧ Only [] w wr) (fun _ i _ => L.all.length - (intOf i).toNat)
    case atStart => exact ⟨0, none, 0, Nat.zero_le _, by omega, rfl, rfl, World.ownsRow_nil _ _ _ _, Only.refl _ _⟩
    case round =>
      obtain ⟨k, A, cap, hk, hkm, rfl, rfl, hown, hO⟩ := hrel
      by_cases hlt : k < T.length
      · have hdec2 : decide (((m + k : Nat) : Int) < L.len) = true := decide_eq_true (by omega)
        by_cases hm : (k : Int) < most
        · have hdec3 : decide ((k : Int) < most) = true := decide_eq_true hm
          have hGk := fun (w1 : World) (k1 : Only [] w w1) => HG.out w1 k1 ((m + k : Nat) : Int)
          rw [HT.out k hlt] at hGk
          have htk : T.take (k + 1) = T.take k ++ [T.getD k ⟨#[]⟩] := by
            rw [List.take_succ_eq_append_getElem hlt, List.getD_eq_getElem?_getD, List.getElem?_eq_getElem hlt]; rfl
          obtain ⟨s, hs⟩ : ∃ s, T.getD k ⟨#[]⟩ = s := ⟨_, rfl⟩
          rw [hs] at hGk htk
          dsimp only at hGk
          have HGk := Lib.hid hGk
          have HK := Lib.hid htk
          have htl : (T.take k).length = k := by rw [List.length_take]; omega
          have e1 := IntWalk.i64_in (((m + k : Nat) : Int) + 1) ⟨by omega, by omega⟩
          obtain ⟨n, hnn⟩ : ∃ n : Nat, n = m + k := ⟨_, rfl⟩
          rw [← hnn] at hdec2 e1 HGk ⊢
          have HN := Lib.hid hnn
          have HLA := Lib.hid hla
          have hkb : (T.take k).length ≤ 10000000 := by omega
          clear hGk hs htk hnn hla hTl
          go_wp2_with (first
            | (go_at_call 13; refine (HL.out _ hO).mono ?_; rintro e1 w1 ⟨rfl, k1⟩)
            | (go_at_call 28; refine (HGk.out _ (hO.trans k1)).mono ?_; rintro e2 w2 ⟨rfl, k2⟩
               have k3 := k1.trans k2
               have hown2 := own_only hown k3 (by simp)
               have hO2 := hO.trans k3
               have hown2 : w2.ownsRow w.heap.size 9 1 (.slice A (T.take k).length cap) (T.take k).length (strs (T.take k)) := by rw [htl]; exact hown2
               obtain ⟨A4, c4, w4, hr4, hown4, hO4⟩ := app1p hown2 hO2.size hkb s
               rw [htl] at hr4
               have hO5 : Only [] w w4 := (hO2.alloc _).step hO4 (fun g hg => .inr (by have h9 := (hown.lt g (by rw [← htl]; simpa using hg)).1; exact h9))
               have hml2 : (T.take k ++ [s]).length = k + 1 := by rw [List.length_append, htl]; rfl
               rw [hml2] at hown4
               have HR4 := Lib.hid hr4
               have HW4 := Lib.hid hown4
               clear hown hown2 hr4 hO4 hown4)
            | (at_builtin; refine Lib.wpList_append_run _ rfl (.tmp 34) (.tmp 36) 22 22 rfl _ _ rfl rfl _ _ HR4.out ?_))
          have hq1 := HN.out
          have hq2 := HTl.out
          exact ⟨⟨k + 1, A4, c4, hlt, by omega, rfl, congrArg (Value.int .i64) (by omega), by rw [HK.out]; exact HW4.out, hO5⟩, by simp [intOf]; omega⟩
        · have hdec3 : decide ((k : Int) < most) = false := decide_eq_false hm
          have hmk := Lib.hid (show most.toNat = k by omega)
          obtain ⟨n, hnn⟩ : ∃ n : Nat, n = m + k := ⟨_, rfl⟩
          rw [← hnn] at hdec2 ⊢
          clear hnn hla hTl
          go_wp2_with (go_at_call 13; refine (HL.out _ hO).mono ?_; rintro e1 w1 ⟨rfl, k1⟩)
          go_ret
          rw [hmk.out, List.length_take, Nat.min_eq_left hk]
          exact ⟨A, cap, rfl, own_only hown k1 (by simp), hO.trans k1⟩
      · have hdec2 : decide (((m + k : Nat) : Int) < L.len) = false := decide_eq_false (by omega)
        have hke : k = T.length := by omega
        subst hke
        have hTt := Lib.hid (show T.take most.toNat = T from List.take_of_length_le (by omega))
        rw [List.take_length] at hown
        obtain ⟨n, hnn⟩ : ∃ n : Nat, n = m + T.length := ⟨_, rfl⟩
        rw [← hnn] at hdec2 ⊢
        clear hnn hla hTl
        go_wp2_with (go_at_call 13; refine (HL.out _ hO).mono ?_; rintro e1 w1 ⟨rfl, k1⟩)
        go_ret
        rw [hTt.out]
        exact ⟨A, cap, rfl, own_only hown k1 (by simp), hO.trans k1⟩
set_option maxRecDepth 100000 in
set_option maxHeartbeats 2000000 in
theorem jback_any (h : LogAt a w lb db mb d L kv pv xs) (hn : xs.length ≤ 1000000) (hl : L.len ≤ 10000000) (f most : Int) (hf1 : -9223372036854775808 ≤ f) :
    Calls Tryz.prog 15 #[.pointer (some ⟨lb, 0, none⟩), .int .i64 f, .int .i64 most] w fun e w' => ∃ A cap, e = .returned (.slice A (L.back f most).length cap) ∧ w'.ownsRow w.heap.size 9 1 (.slice A (L.back f most).length cap) (L.back f most).length (strs (L.back f most)) ∧ Only [] w w' := by
  have hla := len_all L
  have HL := Lib.hid fun (w1 : World) (k1 : Only [] w w1) => jlen_any (h.only0 k1) hn (by omega)
  have HG := Lib.hid fun (w1 : World) (k1 : Only [] w w1) (n : Int) => jrec_any (h.only0 k1) hn (by omega) n
  unfold LogS.back
  clear h
  have e0 := IntWalk.i64_in (L.len - 1) ⟨by omega, by omega⟩
  by_cases hf : min f (L.len - 1) < 0
  · rw [if_pos hf]
    obtain ⟨z, hz⟩ : ∃ z, min f (L.len - 1) = z := ⟨_, rfl⟩
    rw [hz] at hf
    have hdec : decide (z ≥ 0) = false := decide_eq_false (by omega)
    clear hla
    go_enter Tryz.func15, Tryz.ntmps15
    go_wp2_with (go_at_call 13; refine (HL.out _ (Only.refl _ _)).mono ?_; rintro e1 w1 ⟨rfl, k1⟩)
    go_loopw [7, 8] (fun o i wr => o = .slice none 0 0 ∧ i = .int .i64 z ∧ wr = w1) (fun _ _ _ => 0)
    case atStart => exact ⟨rfl, rfl, rfl⟩
    case round =>
      obtain ⟨rfl, rfl, rfl⟩ := hrel
      go_wp2
      go_ret
      exact ⟨none, 0, rfl, World.ownsRow_nil _ _ _ _, k1⟩
  · rw [if_neg hf]
    obtain ⟨m, hm⟩ : ∃ m : Nat, min f (L.len - 1) = m := ⟨(min f (L.len - 1)).toNat, by omega⟩
    rw [hm, Int.toNat_natCast]
    have hmL : m + 1 ≤ L.all.length := by omega
    obtain ⟨T, hT⟩ : ∃ T, (L.all.take (m + 1)).reverse = T := ⟨_, rfl⟩
    rw [hT]
    have hTl : T.length = m + 1 := by rw [← hT, List.length_reverse, List.length_take]; omega
    have hTg : ∀ k, k < T.length → L.get ((m : Int) - k) = (T.getD k ⟨#[]⟩, 0) := fun k hk => by
      unfold LogS.get
      rw [if_neg (by omega), show ((m : Int) - k).toNat = m - k by omega, ← hT, List.getD_eq_getElem?_getD, List.getElem?_reverse (by rw [List.length_take]; omega), List.length_take, List.getElem?_take, if_pos (by omega)]
      rw [show min (m + 1) L.all.length - 1 - k = m - k by omega]
    have HT := Lib.hid hTg
    have HTl := Lib.hid hTl
    have HM := Lib.hid hm
    have hTb : T.length ≤ 10000000 := by omega
    clear hT hTg hf
    go_enter Tryz.func15, Tryz.ntmps15
    go_wp2_with (go_at_call 13; refine (HL.out _ (Only.refl _ _)).mono ?_; rintro e1 w0 ⟨rfl, k0⟩)
    go_loopw [7, 8] (fun o i wr => ∃ (k : Nat) (z : Int) (A : Option Addr) (cap : Nat), k ≤ T.length ∧ (k : Int) ≤ max most 0 ∧ o = .slice A k cap ∧ i = .int .i64 z ∧ Hid (z = (m : Int) - k) ∧ wr.ownsRow w.heap.size 9 1 (.slice A k cap) k (strs (T.take k)) ∧ Only [] w wr) (fun _ i _ => (intOf i + 1).toNat)
    case atStart => exact ⟨0, (m : Int), none, 0, Nat.zero_le _, by omega, rfl, congrArg (Value.int .i64) (by have := HM.out; omega), by unfold Hid; omega, World.ownsRow_nil _ _ _ _, k0⟩
    case round =>
      obtain ⟨k, z, A, cap, hk, hkm, rfl, rfl, hz, hown, hO⟩ := hrel
      have hzz := hz.out
      by_cases hlt : k < T.length
      · have hdec2 : decide (z ≥ 0) = true := decide_eq_true (by omega)
        by_cases hmm : (k : Int) < most
        · have hdec3 : decide ((k : Int) < most) = true := decide_eq_true hmm
          have hGk := fun (w1 : World) (k1 : Only [] w w1) => HG.out w1 k1 z
          have hTk := HT.out k hlt
          rw [← hzz] at hTk
          rw [hTk] at hGk
          have htk : T.take (k + 1) = T.take k ++ [T.getD k ⟨#[]⟩] := by
            rw [List.take_succ_eq_append_getElem hlt, List.getD_eq_getElem?_getD, List.getElem?_eq_getElem hlt]; rfl
          obtain ⟨s, hs⟩ : ∃ s, T.getD k ⟨#[]⟩ = s := ⟨_, rfl⟩
          rw [hs] at hGk htk
          dsimp only at hGk
          have HGk := Lib.hid hGk
          have HK := Lib.hid htk
          have htl : (T.take k).length = k := by rw [List.length_take]; omega
          have e1 := IntWalk.i64_in (z - 1) ⟨by omega, by omega⟩
          have HLA := Lib.hid hla
          have hkb : (T.take k).length ≤ 10000000 := by omega
          clear hGk hs htk hla hTl hm hzz hTk
          go_wp2_with (first
            | (go_at_call 28; refine (HGk.out _ hO).mono ?_; rintro e2 w2 ⟨rfl, k3⟩
               have hown2 := own_only hown k3 (by simp)
               have hO2 := hO.trans k3
               have hown2 : w2.ownsRow w.heap.size 9 1 (.slice A (T.take k).length cap) (T.take k).length (strs (T.take k)) := by rw [htl]; exact hown2
               obtain ⟨A4, c4, w4, hr4, hown4, hO4⟩ := app1p hown2 hO2.size hkb s
               rw [htl] at hr4
               have hO5 : Only [] w w4 := (hO2.alloc _).step hO4 (fun g hg => .inr (by have h9 := (hown.lt g (by rw [← htl]; simpa using hg)).1; exact h9))
               have hml2 : (T.take k ++ [s]).length = k + 1 := by rw [List.length_append, htl]; rfl
               rw [hml2] at hown4
               have HR4 := Lib.hid hr4
               have HW4 := Lib.hid hown4
               clear hown hown2 hr4 hO4 hown4)
            | (at_builtin; refine Lib.wpList_append_run _ rfl (.tmp 32) (.tmp 34) 22 22 rfl _ _ rfl rfl _ _ HR4.out ?_))
          have hq1 := hz.out
          have hq2 := HTl.out
          exact ⟨⟨k + 1, z - 1, A4, c4, hlt, by omega, rfl, rfl, by unfold Hid; omega, by rw [HK.out]; exact HW4.out, hO5⟩, by simp [intOf]; omega⟩
        · have hdec3 : decide ((k : Int) < most) = false := decide_eq_false hmm
          have hmk := Lib.hid (show most.toNat = k by omega)
          clear hla hTl hm hzz
          go_wp2
          go_ret
          rw [hmk.out, Nat.min_eq_left hk]
          exact ⟨A, cap, rfl, hown, hO⟩
      · have hdec2 : decide (z ≥ 0) = false := decide_eq_false (by omega)
        have hke : k = T.length := by omega
        subst hke
        have hTt := Lib.hid (show T.take most.toNat = T from List.take_of_length_le (by omega))
        rw [List.take_length] at hown
        clear hla hTl hm hzz
        go_wp2
        go_ret
        rw [hTt.out]
        exact ⟨A, cap, rfl, hown, hO⟩
end
end Go.Proofs.YtfjkjndpndjfpaaGreatDoor
/- Logs, plain: what was synced, the chaser, a crash of what lasts. No program is named. -/
set_option linter.unusedVariables false
set_option linter.unusedSimpArgs false
namespace Go.Proofs.YtfjkjndpndjfpaaGreatDoor
open Go.RowKit
/-- All files last. -/
def Firm (D : DS) : Prop := ∀ n f, aget D.fs n = some f → f.lasts = f.b.size ∧ f.known = true
theorem firm_put {D : DS} (h : Firm D) (n : ByteArray) (b : ByteArray) : Firm { D with fs := aput D.fs n ⟨b, b.size, true⟩ } := fun m f hf => by
  have hf : aget (aput D.fs n (⟨b, b.size, true⟩ : File)) m = some f := hf
  rw [aget_aput] at hf
  by_cases e : n = m
  · rw [if_pos e] at hf
    injection hf with hf
    subst hf
    exact ⟨rfl, rfl⟩
  · rw [if_neg e] at hf
    exact h m f hf
theorem aput_same {κ ν : Type} [DecidableEq κ] {l : List (κ × ν)} {k : κ} {v : ν} (h : aget l k = some v) : aput l k v = l := by
  induction l with
  | nil => cases h
  | cons p l ih =>
    obtain ⟨a, b⟩ := p
    unfold aget at h
    unfold aput
    by_cases e : a = k
    · rw [if_pos e] at h ⊢
      injection h with h
      rw [h, e]
    · rw [if_neg e] at h ⊢
      rw [ih h]
theorem crashFile_firm {f : File} (h1 : f.lasts = f.b.size) (h2 : f.known = true) {k : Int} (hk : 0 ≤ k) : DS.crashFile f k = f := by
  obtain ⟨b, l, kn⟩ := f
  dsimp only at h1 h2
  subst h1 h2
  unfold DS.crashFile
  dsimp only
  have e : (b.size : Int) + min k ((b.size : Int) - b.size) = b.size := by omega
  rw [e, Int.toNat_natCast]
  simp
theorem crashOne_firm {fs : Files} {s : ByteArray} {f : File} (hf : aget fs s = some f) (h1 : f.lasts = f.b.size) (h2 : f.known = true) {k : Int} (hk : 0 ≤ k) : DS.crashOne fs s k = fs := by
  unfold DS.crashOne
  dsimp only
  rw [hf, Option.getD_some, crashFile_firm h1 h2 hk, if_pos h2]
  exact aput_same hf
theorem crashAll_firm {fs : Files} (h : ∀ n f, aget fs n = some f → f.lasts = f.b.size ∧ f.known = true) : ∀ (l : List ByteArray) (ks : List Int), (∀ s ∈ l, (aget fs s).isSome = true) → DS.crashAll fs l ks = fs
  | [], _, _ => rfl
  | s :: l, ks, hl => by
    obtain ⟨f, hf⟩ := Option.isSome_iff_exists.1 (hl s (by simp))
    unfold DS.crashAll
    rw [crashOne_firm hf (h s f hf).1 (h s f hf).2 (by omega)]
    exact crashAll_firm h l ks.tail (fun t ht => hl t (by simp [ht]))
/-- A crash of a disk of which all lasts, and power again. -/
theorem Firm.crash {D : DS} (h : Firm D) (hf : Fine D) (keep : List Int) : (D.crash keep).restore.fs = D.fs ∧ Fine (D.crash keep).restore := by
  have e : D.crash keep = { D with on := false, armed := false, left := -1, keep := [], fs := D.fs } := by
    unfold DS.crash
    rw [hf.on, if_pos rfl, crashAll_firm h D.names keep (fun s hs => (mem_names D s).1 hs)]
  rw [e]
  exact ⟨rfl, rfl, rfl, hf.room, hf.nd⟩
section
variable {L : LogS} {D D' : DS} {b : Bool} {c : Nat}
theorem Good.of_fs (h : Good L D b c) (hf : Fine D') (e : D'.fs = D.fs) : Good L D' b c := ⟨hf, h.pre, h.size, h.bad, h.few, by rw [e]; exact h.cnt, h.cle, h.used, h.short, h.done, by rw [e]; exact h.file, by rw [e]; exact h.onl⟩
theorem Whole.of_fs (h : Whole L D) (hf : Fine D') (e : D'.fs = D.fs) : Whole L D' := ⟨h.good.of_fs hf e, by rw [e]; exact h.new, by rw [e]; exact h.mark⟩
theorem Good.up (h : Good L D b 0) : Good L D b 1 := ⟨h.fine, h.pre, h.size, h.bad, h.few, by have := h.cnt; omega, by omega, h.used, h.short, h.done, h.file, h.onl⟩
theorem Good.set (h : Good L D b c) (s m : Int) : Good ⟨L.pre, L.size, L.ps, s, m, L.bad⟩ D b c := ⟨h.fine, h.pre, h.size, h.bad, h.few, h.cnt, h.cle, h.used, h.short, h.done, h.file, h.onl⟩
/-- Sync. -/
theorem Good.sync (h : Good L D b c) : ∃ s' D', L.sync D = (0, ⟨L.pre, L.size, L.ps, s', L.mark, L.bad⟩, D') ∧ Good ⟨L.pre, L.size, L.ps, s', L.mark, L.bad⟩ D' b c ∧ (∀ n, chunkOf L.pre n = none → aget D'.fs n = aget D.fs n) ∧ D'.fs.length = D.fs.length ∧ (Firm4 L D → Firm D') ∧ (L.ps ≠ [] → s' = L.len) := by
  by_cases h0 : L.ps.length = 0
  · refine ⟨L.synced, D, ?_, h, fun _ _ => rfl, rfl, fun q n f hf => q n f hf (fun k hk => by omega), fun q => absurd (List.length_eq_zero_iff.1 h0) q⟩
    unfold LogS.sync
    rw [if_pos h0]
  · obtain ⟨k, hk⟩ : ∃ k, k + 1 = L.ps.length := ⟨L.ps.length - 1, by omega⟩
    have hk9 : k ≤ 999999 := by have := h.few; omega
    have hp : L.ps[k]? = some L.ps[k] := List.getElem?_eq_getElem (by omega)
    obtain ⟨f, h1, h2⟩ := h.file k _ hp
    have hsy := h.fine.sync (h.name hk9) h1
    have e : (L.ps.length : Int) - 1 = k := by omega
    have hd := h.done k _ hp
    rw [decide_eq_false (by omega : ¬k + 1 < L.ps.length), Bool.false_or] at hd
    have hg := h.turn hk (p := L.ps[k]) (b' := b) (h.used _ (List.mem_of_getElem? hp)) (h.short _ (List.mem_of_getElem? hp)) hd (f := ⟨f.b, f.b.size, true⟩) h2 L.len L.mark
    rw [List.set_getElem_self] at hg
    refine ⟨L.len, _, ?_, hg, fun n hn => put_other hk9 _ hn, ?_, fun q n g hgn => ?_, fun _ => rfl⟩
    · unfold LogS.sync
      rw [if_neg h0, e, hsy]
      dsimp only
      rw [if_neg (by simp), told_zero]
    · show (aput D.fs _ _).length = _
      rw [length_aput, h1]
      rfl
    · have hgn : aget (aput D.fs (nameK L.pre k) (⟨f.b, f.b.size, true⟩ : File)) n = some g := hgn
      rw [aget_aput] at hgn
      by_cases en : nameK L.pre k = n
      · rw [if_pos en] at hgn
        injection hgn with hgn
        subst hgn
        exact ⟨rfl, rfl⟩
      · rw [if_neg en] at hgn
        exact q n g hgn (fun j hj => by
          have : j = k := by omega
          rw [this]
          exact fun q => en q.symm)
theorem Good.sync1 (h : Good L D b c) : L.sync1 D = L.sync D := by
  unfold LogS.sync1
  rw [h.bad, if_neg (by simp)]
theorem frameB_i64 (n : Int) (ms : List Int) (m : Int) : baL (markF (ms ++ [m])) ++ baL (frameB (i64B n)) = baL (markF ((ms ++ [m]) ++ [n])) := by
  rw [baL_append]
  unfold markF
  rw [List.map_append (l₁ := ms ++ [m]), List.flatMap_append]
  simp
theorem Good.other (h : Good L D b c) (hf : Fine D') (hl : D'.fs.length ≤ L.ps.length + c) (ha : ∀ n, n ≠ markN L.pre → aget D'.fs n = aget D.fs n) : Good L D' b c := by
  refine ⟨hf, h.pre, h.size, h.bad, h.few, hl, h.cle, h.used, h.short, h.done, fun k p hp => ?_, fun n f k hn hk => ?_⟩
  · obtain ⟨f, h1, h2⟩ := h.file k p hp
    have hk : k < L.ps.length := (List.getElem?_eq_some_iff.1 hp).1
    exact ⟨f, (ha _ (name_ne_mark L.pre (by have := h.few; omega))).trans h1, h2⟩
  · rw [ha n (fun e => by rw [e, chunkOf_mark] at hk; cases hk)] at hn
    exact h.onl n f k hn hk
/-- The chaser is set. -/
theorem Whole.setMark (h : Whole L D) {n : Int} (h0 : 0 ≤ n) (h1 : n ≤ L.len) (hn : fitsI n) :
    ∃ D', L.setMark D n = (0, ⟨L.pre, L.size, L.ps, L.synced, n, L.bad⟩, D') ∧ Whole ⟨L.pre, L.size, L.ps, L.synced, n, L.bad⟩ D' ∧ (Firm D → Firm D') := by
  have hg := h.good
  have hcnt := hg.cnt
  have hfew := hg.few
  have hap := hg.fine.append hg.okMark (.inr (by omega)) (baL (frameB (i64B n)))
  obtain ⟨f2, hf2⟩ : ∃ f2 : File, f2 = { D.get (markN L.pre) with b := (D.get (markN L.pre)).b ++ baL (frameB (i64B n)) } := ⟨_, rfl⟩
  rw [← hf2] at hap
  have hsy := (hg.fine.put (markN L.pre) f2).sync (n := markN L.pre) (f := f2) hg.okMark (by show aget (aput D.fs _ _) _ = _; rw [aget_aput, if_pos rfl])
  have hset : L.setMark D n = (0, ⟨L.pre, L.size, L.ps, L.synced, n, L.bad⟩, { D with fs := aput D.fs (markN L.pre) ⟨f2.b, f2.b.size, true⟩ }) := by
    unfold LogS.setMark
    rw [hg.bad, if_neg (by simp), if_neg (by omega)]
    dsimp only
    rw [hap]
    dsimp only
    rw [if_neg (by simp), hsy]
    dsimp only
    rw [if_neg (by simp), aput_aput]
  have hlen : (aput D.fs (markN L.pre) (⟨f2.b, f2.b.size, true⟩ : File)).length ≤ L.ps.length + 1 := by
    rw [length_aput]
    rcases h.mark with ⟨q1, _, q3⟩ | ⟨f, ms, q1, _⟩
    · rw [q1]
      simp
      omega
    · rw [q1]
      exact hcnt
  have hgood : Good ⟨L.pre, L.size, L.ps, L.synced, n, L.bad⟩ { D with fs := aput D.fs (markN L.pre) ⟨f2.b, f2.b.size, true⟩ } false 1 :=
    (hg.set L.synced n).other (hg.fine.put _ _) hlen (fun m hm => by
      show aget (aput D.fs (markN L.pre) _) m = _
      rw [aget_aput, if_neg (fun e => hm e.symm)])
  refine ⟨_, hset, ⟨hgood, ?_, .inr ?_⟩, fun q => firm_put q _ _⟩
  · show aget (aput D.fs (markN L.pre) _) _ = _
    rw [aget_aput, if_neg (fun e => new_ne_mark L.pre e.symm)]
    exact h.new
  · rcases h.mark with ⟨q1, q2, _⟩ | ⟨f, ms, q1, q2, q3⟩
    · refine ⟨⟨f2.b, f2.b.size, true⟩, [], ?_, ?_, fun m hm => ?_⟩
      · show aget (aput D.fs (markN L.pre) (⟨f2.b, f2.b.size, true⟩ : File)) (markN L.pre) = _
        rw [aget_aput, if_pos rfl]
      · have hgz : D.get (markN L.pre) = File.zero := by unfold DS.get; rw [q1]; rfl
        show f2.b = baL (markF ([] ++ [n]))
        rw [hf2, hgz]
        apply bts_injL
        simp [File.zero, markF, baL]
      · have hm : m ∈ [] ++ [n] := hm
        simp at hm
        rw [hm]
        exact hn
    · refine ⟨⟨f2.b, f2.b.size, true⟩, ms ++ [L.mark], ?_, ?_, fun m hm => ?_⟩
      · show aget (aput D.fs (markN L.pre) (⟨f2.b, f2.b.size, true⟩ : File)) (markN L.pre) = _
        rw [aget_aput, if_pos rfl]
      · have hgz : D.get (markN L.pre) = f := by unfold DS.get; rw [q1]; rfl
        show f2.b = baL (markF ((ms ++ [L.mark]) ++ [n]))
        rw [hf2, hgz]
        show f.b ++ _ = _
        rw [q2, frameB_i64]
      · have hm : m ∈ (ms ++ [L.mark]) ++ [n] := hm
        rcases List.mem_append.1 hm with e | e
        · exact q3 m e
        · simp at e
          rw [e]
          exact hn
theorem setMark_bad (h : Good L D b c) {n : Int} (hn : n < 0 ∨ L.len < n) : L.setMark D n = (15, L, D) := by
  unfold LogS.setMark
  rw [h.bad, if_neg (by simp), if_pos hn]
/-- Append to a whole log. -/
theorem Whole.append (h : Whole L D) {l : List ByteArray} (hf : L.ps.length + l.length < 150) (hs : ∀ s ∈ l, (s.size : Int) ≤ roomC L.size 0) :
    ∃ L' D', L.append D l = (((L.all.length : Int), (0 : Int)), L', D') ∧ Whole L' D' ∧ L'.all = L.all ++ l ∧ L'.pre = L.pre ∧ L'.size = L.size ∧ L'.mark = L.mark ∧ L'.ps.length ≤ L.ps.length + l.length ∧ (Firm4 L D → Firm4 L' D') := by
  have hg := h.good
  rcases h.mark with ⟨q1, q2, q3⟩ | hm
  · have hg0 : Good L D false 0 := ⟨hg.fine, hg.pre, hg.size, hg.bad, hg.few, by omega, by omega, hg.used, hg.short, hg.done, hg.file, hg.onl⟩
    rcases hg0.append hf with ⟨_, L', D', a1, a2, a3, a4, a5, a6⟩ | ⟨q, _⟩
    · obtain ⟨b1, b2, b3, b4⟩ := a4
      refine ⟨L', D', a1, ⟨a2.up, ?_, .inl ⟨?_, ?_, ?_⟩⟩, a3, b1, b2, b3, a5, a6⟩
      · rw [b1]
        exact (b4 _ (chunkOf_new _)).trans h.new
      · rw [b1]
        exact (b4 _ (chunkOf_mark _)).trans q1
      · rw [b3]
        exact q2
      · have := a2.cnt
        omega
    · exact absurd hs q
  · rcases hg.append hf with ⟨_, L', D', a1, a2, a3, a4, a5, a6⟩ | ⟨q, _⟩
    · obtain ⟨b1, b2, b3, b4⟩ := a4
      refine ⟨L', D', a1, ⟨a2, ?_, .inr ?_⟩, a3, b1, b2, b3, a5, a6⟩
      · rw [b1]
        exact (b4 _ (chunkOf_new _)).trans h.new
      · rw [b1, b3]
        obtain ⟨f, ms, c1, c2, c3⟩ := hm
        exact ⟨f, ms, (b4 _ (chunkOf_mark _)).trans c1, c2, c3⟩
    · exact absurd hs q
theorem whole_new {p : ByteArray} {size : Int} (hp : 1 ≤ p.size ∧ p.size ≤ 20) (hs : 100 ≤ size ∧ size ≤ 1000000) (hf : Fine D) (he : D.fs = []) : Whole (LogS.new p size) D := by
  refine ⟨⟨hf, hp, hs, rfl, by simp [LogS.new], by rw [he]; simp, by omega, (fun q hq => by cases hq), (fun q hq => by cases hq), (fun k q hq => by simp [LogS.new] at hq), (fun k q hq => by simp [LogS.new] at hq), (fun n f k hn => by rw [he] at hn; cases hn)⟩, by rw [he]; rfl, .inl ⟨by rw [he]; rfl, rfl, by rw [he]; simp⟩⟩
end
end Go.Proofs.YtfjkjndpndjfpaaGreatDoor
/- A log as a law sees it: it lies above a world that stays; a new one; a first call whose answer the document fixes (alive). -/
set_option linter.unusedVariables false
set_option linter.unusedSimpArgs false
namespace Go.Proofs.YtfjkjndpndjfpaaGreatDoor
open Go Go.RowKit Go.Sort
section
variable {a w W w1 w' : World} {lb db mb M N : Nat} {d : DS} {L : LogS} {kv pv : Value} {xs : List (Value × PartL)} {R : List Nat}
theorem LogAt.ge (h : LogAt a w lb db mb d L kv pv xs) : ∀ g ∈ lblk lb db mb kv pv xs, a.heap.size ≤ g := by
  intro g hg
  have hu := h.up
  rcases mem_lblk.1 hg with e | e | e | ⟨v, hv, hq⟩
  · omega
  · omega
  · omega
  · exact (h.away v hv g hq).2.2.2.2
theorem LogAt.old (h : LogAt a w lb db mb d L kv pv xs) : ∀ g ∈ lblk lb db mb kv pv xs, g < w.heap.size := by
  intro g hg
  obtain ⟨l1, l2, l3⟩ := h.lt
  rcases mem_lblk.1 hg with e | e | e | ⟨v, hv, hq⟩
  · omega
  · omega
  · omega
  · exact (h.away v hv g hq).2.2.2.1
theorem xs_len (h : LogAt a w lb db mb d L kv pv xs) : xs.length = L.ps.length := by rw [h.ps, List.length_map]
/-- A disk that has nothing. -/
theorem drop_none (hf : Fine d) (he : d.fs = []) {p : ByteArray} (hp : p.size ≤ 20) : LogS.drop d (newN p) = (0, d) := by
  have ho : okName (newN p) := by
    have : (newN p).size = p.size + 3 := by unfold newN; rw [ByteArray.size_append]; rfl
    unfold okName
    omega
  have := hf.remove_none ho (by rw [he]; rfl)
  unfold LogS.drop
  rw [this]
  rfl
theorem mark_none (hf : Fine d) (he : d.fs = []) {p : ByteArray} (hp : p.size ≤ 20) : (LogS.bytes d (markN p)).2 = 8 := by
  have ho : okName (markN p) := by
    have : (markN p).size = p.size + 4 := by unfold markN; rw [ByteArray.size_append]; rfl
    unfold okName
    omega
  rw [hf.bytes_none ho (by rw [he]; rfl)]
theorem chunks_none (he : d.fs = []) (p : ByteArray) (size : Int) : (LogS.new p size).chunks d = (0, -1) := by
  have hl : d.list (LogS.new p size).pre = [] := by
    unfold DS.list
    split
    · have : d.names = [] := by
        apply List.eq_nil_iff_forall_not_mem.2
        intro n hn
        have := (mem_names d n).1 hn
        rw [he] at this
        cases this
      rw [this]
      rfl
    · rfl
  unfold LogS.chunks
  rw [hl]
  rfl
theorem fine_new : Fine (DS.new 0) := ⟨rfl, rfl, by simp [DS.new], List.nodup_nil⟩
theorem jopen_new (hT : Tab a) (hO : Only [] a w) (hd : DiskAt w db mb (DS.new 0) kv) (hu : a.heap.size ≤ db ∧ a.heap.size ≤ mb) (hkv : ∀ g, kv.ownBlock = some g → a.heap.size ≤ g) (p : ByteArray) (size : Int) (hp : LogS.openArg p size = true) :
    Calls Tryz.prog 11 #[.pointer (some ⟨db, 0, none⟩), .string p, .int .i64 size] w fun e w' => ∃ lb kv', e = .returned (.tuple #[.pointer (some ⟨lb, 0, none⟩), .int .i64 0]) ∧ LogAt a w' lb db mb (DS.new 0) (LogS.new p size) kv' (.slice none 0 0) [] ∧
      Only [] a w' ∧ w.heap.size ≤ lb := by
  have hp2 : p.size ≤ 20 := by
    unfold LogS.openArg at hp
    simp only [Bool.and_eq_true, decide_eq_true_eq] at hp
    omega
  have hdn := drop_none (d := DS.new 0) fine_new rfl hp2
  have := jopen_fresh hT hO hd hu hkv (M := 0) (DS.new_ok 0) (by omega) p size hp (by rw [hdn]) (by rw [hdn]; exact chunks_none rfl p size) (by rw [hdn]; exact mark_none fine_new rfl hp2)
  refine this.mono ?_
  rintro e w' ⟨lb, kv', h1, h2, h3, h4, h5⟩
  rw [hdn] at h2
  refine ⟨lb, kv', h1, h2, hO.step h3 (fun i hi => ?_), h4⟩
  simp only [List.mem_cons, List.not_mem_nil, or_false] at hi
  rcases hi with e | e
  · exact .inr (by omega)
  · exact .inr (by omega)
theorem smn_new (p : ByteArray) (size : Int) (hp : LogS.openArg p size = true) : (LogS.new p size).SmN 0 := by
  unfold LogS.openArg at hp
  simp only [Bool.and_eq_true, decide_eq_true_eq] at hp
  exact ⟨by show p.size ≤ 1000; omega, by show size ≤ _; omega, Nat.le_refl _, by show (0 : Int) ≤ 0; omega, fun p hp => by cases hp⟩
set_option maxRecDepth 100000 in
set_option maxHeartbeats 2000000 in
theorem alive11_any (w : World) (hT : Tab w) : Calls Tryz.prog 9 #[] w fun e w' => e = .returned (.bool true) ∧ Only [] w w' := by
  have hN := Lib.hid (new_any w (room := 0) (by omega))
  have hW0 : Whole (LogS.new ⟨#[112]⟩ 200) (DS.new 0) := whole_new (by decide) (by omega) fine_new rfl
  have hrm : roomC 200 0 = 187 := rfl
  have hsz : ∀ s ∈ [(⟨#[97]⟩ : ByteArray), ⟨#[98]⟩], (s.size : Int) ≤ roomC 200 0 := by
    rw [hrm]
    intro s hs
    simp only [List.mem_cons, List.not_mem_nil, or_false] at hs
    rcases hs with rfl | rfl
    · show ((1 : Nat) : Int) ≤ 187; omega
    · show ((1 : Nat) : Int) ≤ 187; omega
  obtain ⟨L', D', h1, h2, h3, -, -, -, h4, -⟩ := hW0.append (l := [⟨#[97]⟩, ⟨#[98]⟩]) (by simp [LogS.new]) hsz
  have hall : L'.all = [⟨#[97]⟩, ⟨#[98]⟩] := by rw [h3]; rfl
  have hlen : L'.len = 2 := by rw [len_all, hall]; rfl
  have hpl : L'.ps.length ≤ 2 := by simpa [LogS.new] using h4
  have hget : L'.get 1 = (⟨#[98]⟩, 0) := by unfold LogS.get; rw [hlen, hall]; rfl
  have hback : L'.back 5 9 = [⟨#[98]⟩, ⟨#[97]⟩] := by unfold LogS.back; rw [hlen, hall]; rfl
  have hall0 : (LogS.new ⟨#[112]⟩ 200).all.length = 0 := rfl
  have e0 : ((0 : Nat) : Int) = 0 := rfl
  have e2 : ([⟨#[98]⟩, ⟨#[97]⟩] : List ByteArray).length = 2 := rfl
  rw [hall0, e0] at h1
  have HO := Lib.hid fun (w1 : World) (k : Only [] w w1) (hd : DiskAt w1 (w.heap.size + 1) w.heap.size (DS.new 0) (.slice none 0 0)) => jopen_new hT k hd (by omega) (fun g hg => by cases hg) ⟨#[112]⟩ 200 (by decide)
  have HAp := Lib.hid fun (W : World) (lb : Nat) (kv1 v : Value) (h : LogAt w W lb (w.heap.size + 1) w.heap.size (DS.new 0) (LogS.new ⟨#[112]⟩ 200) kv1 (.slice none 0 0) []) (hv : Slc W 1 v 2 (strs [⟨#[97]⟩, ⟨#[98]⟩])) (hvb : ∀ g, v.ownBlock = some g → g ∉ lblk lb (w.heap.size + 1) w.heap.size kv1 (.slice none 0 0) []) =>
    jappend_any (l := [⟨#[97]⟩, ⟨#[98]⟩]) h (smn_new ⟨#[112]⟩ 200 (by decide)) (DS.new_ok 0) hv (fun g hg => .inl (hvb g hg)) (by simp) (by show 0 + 202 ≤ 900000; omega) (by show 0 + 202 ≤ 1125899000000000; omega)
  rw [h1] at HAp
  have HG := Lib.hid fun (W : World) (lb : Nat) (kv1 pv1 : Value) (xs1 : List (Value × PartL)) (h : LogAt w W lb (w.heap.size + 1) w.heap.size D' L' kv1 pv1 xs1) => jrec_any h (by rw [xs_len h]; omega) (by omega) 1
  have HBk := Lib.hid fun (W : World) (lb : Nat) (kv1 pv1 : Value) (xs1 : List (Value × PartL)) (h : LogAt w W lb (w.heap.size + 1) w.heap.size D' L' kv1 pv1 xs1) => jback_any h (by rw [xs_len h]; omega) (by omega) 5 9 (by omega)
  have HLn := Lib.hid fun (W : World) (lb : Nat) (kv1 pv1 : Value) (xs1 : List (Value × PartL)) (h : LogAt w W lb (w.heap.size + 1) w.heap.size D' L' kv1 pv1 xs1) => jlen_any h (by rw [xs_len h]; omega) (by omega)
  rw [hget] at HG
  rw [hback, e2] at HBk
  rw [hlen] at HLn
  clear hW0 hrm hsz h2 h3 h4 h1 hall hlen hpl hget hback hall0
  go_enter Tryz.func9, Tryz.ntmps9
  go_wp2_with (go_at_call 10; refine hN.out.mono ?_; rintro e1 w1 ⟨rfl, hd1, k1⟩; have HO1 := Lib.hid (HO.out w1 k1 hd1); clear hd1)
  refine HO1.out.mono ?_
  rintro e2 w2 ⟨lb, kv2, rfl, h2, k2, hlb⟩
  have HA2 := Lib.hid h2
  have hv := slc_newN (w := w2) (e := 9) (n := 2) (size := 1) (cs := strs [⟨#[97]⟩, ⟨#[98]⟩]) rfl (by unfold maxLen; omega)
  have ka : Only [] w2 (w2.alloc (.cells (strs [⟨#[97]⟩, ⟨#[98]⟩]).toArray 9)) := (Only.refl _ _).alloc _
  have hvb : ∀ g, (Value.slice (some ⟨w2.heap.size, 0, none⟩) 2 2).ownBlock = some g → g ∉ lblk lb (w.heap.size + 1) w.heap.size kv2 (.slice none 0 0) [] := fun g hg hm => by
    have := h2.old g hm
    have hg' : w2.heap.size = g := by simpa [Value.ownBlock] using hg
    omega
  have HC := Lib.hid (HAp.out _ lb kv2 _ (h2.only0 ka) hv hvb)
  clear h2 hv hvb HAp HO1 HO
  go_wp2_with fail
  refine HC.out.mono ?_
  rintro e3 w3 ⟨rfl, k3⟩
  obtain ⟨kv3, pv3, xs3, h3⟩ := k3.on
  have HA3 := Lib.hid h3.at_
  have hk3 : Only [] w w3 := h3.at_.base
  clear k3 h3
  go_wp2_with fail
  refine (HG.out _ _ _ _ _ HA3.out).mono ?_
  rintro e4 w4 ⟨rfl, k4⟩
  have HA4 := Lib.hid (HA3.out.only0 k4)
  go_wp2_with fail
  refine (HBk.out _ _ _ _ _ HA4.out).mono ?_
  rintro e5 w5 ⟨A5, c5, rfl, hr5, k5⟩
  have HA5 := Lib.hid (HA4.out.only0 k5)
  obtain ⟨g5, c5', cur5, hv5, -, hb5⟩ := own_some hr5 (by omega)
  injection hv5 with q1 q2 q3
  subst q1
  have d0 : w5.cell? ⟨g5, 0, none⟩ = some (.string ⟨#[98]⟩) := by
    rw [World.ownsRow.cellAt hr5 0 (by omega)]
    rfl
  clear hr5 q2 q3 hb5
  go_wp2_with (go_at_call 13; refine (HLn.out _ _ _ _ _ HA5.out).mono ?_; rintro e6 w6 ⟨rfl, k6⟩)
  go_ret
  exact ⟨rfl, ((hk3.trans k4).trans k5).trans k6⟩
end
end Go.Proofs.YtfjkjndpndjfpaaGreatDoor
/- chroniclebook.Room and Short (with what Short tells of all texts together), SameTexts. -/
set_option linter.unusedVariables false
namespace Go.Proofs.YtfjkjndpndjfpaaGreatDoor
open Go.RowKit Go.Sort
/-- How much room is left. -/
def roomOf : Int → List Int → Int
  | r, [] => r
  | r, z :: l => if r < 0 ∨ z > r then -1 else roomOf (r - z) l
theorem roomOf_neg (l : List Int) : ∀ r, r < 0 → roomOf r l = if l = [] then r else -1 := by
  intro r hr
  cases l <;> simp [roomOf, hr]
theorem roomOf_le : ∀ (l : List Int) (r : Int), (∀ z ∈ l, 0 ≤ z) → 0 ≤ roomOf r l → l.sum ≤ r - roomOf r l ∧ roomOf r l ≤ r
  | [], r, _, _ => by simp [roomOf]
  | z :: l, r, hz, h => by
    unfold roomOf at h ⊢
    split at h
    · omega
    · rename_i hc
      rw [if_neg hc]
      have := roomOf_le l (r - z) (fun y hy => hz y (by simp [hy])) h
      have := hz z (by simp)
      rw [List.sum_cons]
      omega
theorem roomOf_bd : ∀ (l : List Int) (r : Int), (∀ z ∈ l, 0 ≤ z) → -1 ≤ r → -1 ≤ roomOf r l ∧ roomOf r l ≤ max r (-1)
  | [], r, _, h => by simp [roomOf]; omega
  | z :: l, r, hz, h => by
    unfold roomOf
    split
    · omega
    · rename_i hc
      have h0 := hz z (by simp)
      have := roomOf_bd l (r - z) (fun y hy => hz y (by simp [hy])) (by omega)
      omega
theorem bRoom_any {w : World} {v : Value} {zs : List Int} {r : Int} (hv : Slc w 1 v zs.length (ints zs)) (hz : ∀ z ∈ zs, 0 ≤ z) (hr : -1 ≤ r) (hr2 : r ≤ 1000000000) :
    Calls Tryz.prog 31 #[.int .i64 r, v] w fun e w' => e = .returned (.int .i64 (roomOf r zs)) ∧ Only [] w w' := by
  obtain ⟨A1, cap1, rfl, hnc1, hcm1, hl1, hc1⟩ := hv.cell
  unfold maxLen at hcm1
  go_enter Tryz.func31, Tryz.ntmps31
  go_wp2
  go_loopw [0, 5] (fun u i wr => ∃ (j : Nat) (q : Int), j ≤ zs.length ∧ i = .int .i64 j ∧ u = .int .i64 q ∧ -1 ≤ q ∧ q ≤ 1000000000 ∧ Hid (roomOf r zs = roomOf q (zs.drop j)) ∧ Only [] w wr) (fun _ i _ => zs.length - (intOf i).toNat)
  case atStart => exact ⟨0, r, Nat.zero_le _, rfl, rfl, hr, hr2, by unfold Hid; simp, Only.refl _ _⟩
  case round =>
    obtain ⟨j, q, hj, rfl, rfl, hq0, hq1, HR, hO⟩ := hrel
    by_cases hlt : j < zs.length
    case neg =>
      have hjn : j = zs.length := by omega
      have hf : Hid (roomOf r zs = q) := by
        have := HR.out
        rw [hjn, List.drop_length] at this
        exact this
      clear hjn
      go_wp2
      go_ret
      exact ⟨by rw [hf.out]; rfl, hO⟩
    case pos =>
      obtain ⟨b, off, rfl, hb, hcc⟩ : ∃ b off, A1 = some ⟨b, off, none⟩ ∧ b < w.heap.size ∧ ∀ j, j < (ints zs).length → w.cell? ⟨b, off + j, none⟩ = (ints zs)[j]? := by
        rcases hc1 with q | q
        · omega
        · exact q
      obtain ⟨z, hze⟩ : ∃ z, z = zs[j] := ⟨_, rfl⟩
      have cz : wr.cell? ⟨b, off + j, none⟩ = some (.int .i64 z) := by
        rw [hO.cell hb (by simp), hcc j (by simpa [ints] using hlt), hze]
        simp [ints, hlt]
      have hz0 : 0 ≤ z := by rw [hze]; exact hz _ (List.getElem_mem hlt)
      have hd : Hid (roomOf r zs = if q < 0 ∨ z > q then -1 else roomOf (q - z) (zs.drop (j + 1))) := by
        have := HR.out
        rw [List.drop_eq_getElem_cons hlt, ← hze] at this
        exact this
      clear hcc hc1 hze
      by_cases h1 : q < 0
      · have hf : Hid (roomOf r zs = -1) := by have := hd.out; rw [if_pos (.inl h1)] at this; exact this
        go_wp2
        go_ret
        exact ⟨by rw [hf.out]; rfl, hO⟩
      · by_cases h2 : z > q
        · have hf : Hid (roomOf r zs = -1) := by have := hd.out; rw [if_pos (.inr h2)] at this; exact this
          go_wp2
          go_ret
          exact ⟨by rw [hf.out]; rfl, hO⟩
        · have hf : Hid (roomOf r zs = roomOf (q - z) (zs.drop (j + 1))) := by have := hd.out; rw [if_neg (by omega)] at this; exact this
          go_wp2
          exact ⟨⟨j + 1, q - z, by omega, by simp, rfl, by omega, by omega, hf, hO⟩, by simp [intOf]; omega⟩
def sumS (l : List ByteArray) : Nat := (l.map (·.size)).sum
theorem sumS_take (l : List ByteArray) {k : Nat} (hk : k < l.length) : sumS (l.take (k + 1)) = sumS (l.take k) + l[k].size := by
  unfold sumS
  rw [List.take_succ_eq_append_getElem hk, List.map_append, List.sum_append]
  simp
theorem wtS_sum (l : List ByteArray) : wtS l = sumS l + 100 * l.length := by
  induction l with
  | nil => rfl
  | cons s l ih => rw [wtS_cons, ih]; unfold sumS; rw [List.map_cons, List.sum_cons, List.length_cons]; omega
/-- What Short tells. -/
theorem bShort_any {w : World} {v : Value} {ss : List ByteArray} {few room : Int} (hv : Slc w 1 v ss.length (strs ss)) (hz : ∀ s ∈ ss, s.size ≤ maxLen) (hr : -1 ≤ room) (hr2 : room ≤ 1000000000) (hfew : 0 ≤ few) (hf2 : few ≤ 1000000) :
    Calls Tryz.prog 8 #[.int .i64 few, .int .i64 room, v] w fun e w' => (∃ b : Bool, e = .returned (.bool b) ∧ (b = true → (ss.length : Int) ≤ few ∧ (sumS ss : Int) ≤ room)) ∧ Only [] w w' := by
  obtain ⟨A1, cap1, rfl, hnc1, hcm1, hl1, hc1⟩ := hv.cell
  unfold maxLen at hcm1
  by_cases hl : few < ss.length
  · go_enter Tryz.func8, Tryz.ntmps8
    go_wp2
    go_ret
    exact ⟨⟨false, rfl, by simp⟩, Only.refl _ _⟩
  go_enter Tryz.func8, Tryz.ntmps8
  go_wp2
  go_loopw [1, 7] (fun u i wr => ∃ (j : Nat) (q : Int), j ≤ ss.length ∧ i = .int .i64 j ∧ u = .int .i64 q ∧ -1 ≤ q ∧ q ≤ 1000000000 ∧ Hid (0 ≤ q → (sumS (ss.take j) : Int) + q ≤ room) ∧ Only [] w wr) (fun _ i _ => ss.length - (intOf i).toNat)
  case atStart => exact ⟨0, room, Nat.zero_le _, rfl, rfl, hr, hr2, by unfold Hid; simp [sumS], Only.refl _ _⟩
  case round =>
    obtain ⟨j, q, hj, rfl, rfl, hq0, hq1, hsm, hO⟩ := hrel
    by_cases hlt : j < ss.length
    case neg =>
      have hje : j = ss.length := by omega
      subst hje
      have hs := hsm.out
      rw [List.take_length] at hs
      have HS := Lib.hid hs
      clear hs
      go_wp2
      go_ret
      exact ⟨⟨_, rfl, fun h => ⟨by omega, by have := HS.out (by simpa using h); have h2 : 0 ≤ q := by simpa using h
                                             omega⟩⟩, hO⟩
    case pos =>
      obtain ⟨b, off, rfl, hb, hcc⟩ : ∃ b off, A1 = some ⟨b, off, none⟩ ∧ b < w.heap.size ∧ ∀ j, j < (strs ss).length → w.cell? ⟨b, off + j, none⟩ = (strs ss)[j]? := by
        rcases hc1 with q | q
        · omega
        · exact q
      have hst := sumS_take ss hlt
      obtain ⟨z, hze⟩ : ∃ z, z = ss[j] := ⟨_, rfl⟩
      rw [← hze] at hst
      have cz : wr.cell? ⟨b, off + j, none⟩ = some (.string z) := by
        rw [hO.cell hb (by simp), hcc j (by simpa [strs] using hlt), hze]
        simp [strs, hlt]
      have hzm : z.size ≤ maxLen := by rw [hze]; exact hz _ (List.getElem_mem hlt)
      unfold maxLen at hzm
      have HST := Lib.hid hst
      clear hcc hc1 hze hst
      by_cases h1 : q < 0
      · go_wp2
        go_ret
        exact ⟨⟨_, rfl, fun h => by have h2 : 0 ≤ q := by simpa using h
                                    omega⟩, hO⟩
      · have hsl := slc_new1 (w := wr) (e := 3) (size := 1) (cs := ints [(z.size : Int)]) rfl
        have HR := Lib.hid (bRoom_any (zs := [(z.size : Int)]) hsl (by simp) hq0 hq1)
        clear hsl
        go_wp2_with (go_at_call 31; refine HR.out.mono ?_; rintro e w2 ⟨rfl, h2⟩)
        have := roomOf_bd [(z.size : Int)] q (by simp) hq0
        have hle := roomOf_le [(z.size : Int)] q (by simp)
        have hq3 := hsm.out (by omega)
        have hst := HST.out
        refine ⟨⟨j + 1, _, by omega, by simp, rfl, this.1, by omega, ?_, (hO.alloc _).trans h2⟩, by simp [intOf]; omega⟩
        unfold Hid
        intro h0
        have h9 := hle h0
        simp only [List.sum_cons, List.sum_nil] at h9
        omega
end Go.Proofs.YtfjkjndpndjfpaaGreatDoor
/- Contracts: SameTexts of texts that are the same. -/
set_option linter.unusedVariables false
set_option linter.unusedSimpArgs false
namespace Go.Proofs.YtfjkjndpndjfpaaGreatDoor
open Go.RowKit Go Go.Sort Go.Lib
section
variable {P : Program} {C : World → Prop} {Q : Exit → Act → World → Prop} {l : List Oper} {H A T2 : List Nat} {r : List (List Nat × List Nat)} {K : Act → World → Prop} {a : Act} {w : World}
theorem stagesNil (h : wpT1 P l.toArray C Q (opsAt l A) (wpStages P l C Q K r) a w) : wpStages P l C Q K (([], A) :: r) a w := wpQuiet_nil (P := P) (ops := l.toArray) (C := C) h
theorem stagesFirst (h : wpQuiet P l.toArray C (fun a' => wpT1 P l.toArray C Q (opsAt l A) (wpStages P l C Q K r) a' w) (opsAt l H) a) : wpStages P l C Q K ((H, A) :: r) a w := h
theorem stagesNext (h : wpQuiet P l.toArray C (fun a' => wpT1 P l.toArray C Q (opsAt l A) (wpStages P l C Q K r) a' w) (opsAt l H) a) : wpT1 P l.toArray C Q (opsAt l []) (wpStages P l C Q K ((H, A) :: r)) a w := h
theorem stagesEnd (h : wpList P l.toArray Q (opsAt l T2) a w) : wpT1 P l.toArray C Q (opsAt l []) (wpStages P l C Q (fun a w => wpList P l.toArray Q (opsAt l T2) a w) []) a w := h
end
theorem stagesDone {P : Program} {C : World → Prop} {Q : Exit → Act → World → Prop} {l : List Oper} {a : Act} {w : World} (h : Q .normal a w) : wpT1 P l.toArray C Q (opsAt l []) (wpStages P l C Q (fun a w => wpList P l.toArray Q (opsAt l []) a w) []) a w := h
set_option maxRecDepth 100000 in
set_option maxHeartbeats 1000000 in
theorem sameT_refl {w : World} {v1 v2 : Value} {l : List ByteArray} (h1 : Slc w 1 v1 l.length (strs l)) (h2 : Slc w 1 v2 l.length (strs l)) :
    Calls Tryz.prog 16 #[v1, v2] w fun e w' => e = .returned (.bool true) ∧ Only [] w w' := by
  obtain ⟨A1, c1, rfl, _, hm1, hel1⟩ := h1.openS
  obtain ⟨A2, c2, rfl, _, hm2, hel2⟩ := h2.openS
  unfold maxLen at hm1 hm2
  have He1 := Lib.hid hel1
  have He2 := Lib.hid hel2
  clear hel1 hel2 h1 h2
  go_enter Tryz.func16, Tryz.ntmps16
  go_wp2
  go_loopw [5] (fun iv wr => ∃ j : Nat, j ≤ l.length ∧ iv = .int .i64 j ∧ Only [] w wr) (fun iv _ => l.length - (intOf iv).toNat)
  case atStart => exact ⟨0, Nat.zero_le _, rfl, Only.refl _ _⟩
  case round =>
    obtain ⟨j, hj, rfl, hO⟩ := hrel
    by_cases hlt : j < l.length
    · obtain ⟨b1, o1, rfl, hb1, q1⟩ := He1.out j hlt
      obtain ⟨b2, o2, rfl, hb2, q2⟩ := He2.out j hlt
      obtain ⟨x, hx⟩ : ∃ x, x = l[j] := ⟨_, rfl⟩
      rw [← hx] at q1 q2
      have d1 := Within.cell (S := []) ((hO.cell hb1 (by simp)).trans q1) (by simp)
      have d2 := Within.cell (S := []) ((hO.cell hb2 (by simp)).trans q2) (by simp)
      clear hx q1 q2
      go_wp2_with fail
      refine wp_region_stages (C := fun W => ∃ p : Within [] wr, W = p.W) [([0, 1, 2, 3, 4, 5, 6, 7, 8, 9], [])] [] (by kernel_rfl) (by kernel_rfl) (by intro c d u a w h; cases d <;> exact h) ⟨⟨_, (Only.refl _ _).drew⟩, rfl⟩ ?_
      refine stagesFirst ?_
      show wpQuiet _ _ _ _ [_, _, _, _, _, _, _, _, _, _] _
      repeat (go_big_quiet_step (fail))
      refine wpQuiet_nil ?_
      refine stagesDone ?_
      go_wp2
      exact ⟨⟨j + 1, hlt, by simp, hO.drew⟩, by simp [intOf]; omega⟩
    · go_wp2
      go_ret
      exact ⟨rfl, hO⟩
end Go.Proofs.YtfjkjndpndjfpaaGreatDoor
