/- Proved here: contracts of functions and plain laws, part 13 of one proof. Conditions: each theorem names its own. -/
import Derived.Test.YteinoiicnmemhaaGreatDoorZ6
import Derived.Test.YteinoiicnmemhaaGreatDoorZ12
import Derived.Deep.DeepCutAuto
set_option linter.unusedSimpArgs false
set_option linter.unusedVariables false
namespace Go.Proofs.YteinoiicnmemhaaGreatDoor
section
open Go.RowKit
theorem sameIds_drop (all : List StoredR) (es : List EventR) (ps : List Int) (k v : Nat) (hk : k < es.length) (hp : v + k < ps.length) :
    sameIds all (es.drop k) (ps.drop (v + k)) = (decide (idAt all ps[v + k] = es[k].id) && sameIds all (es.drop (k + 1)) (ps.drop (v + (k + 1)))) := by
  rw [List.drop_eq_getElem_cons hk, List.drop_eq_getElem_cons hp]
  rfl
set_option maxRecDepth 100000 in
set_option maxHeartbeats 4000000 in
theorem again_any {w : World} {M : List Nat} {sb mb v : Nat} {av pv ev : Value} {pf : ByteArray → Value} {s : MS} {x : StreamR} {c : Cmd} (h : StAt w M sb mb av pf s) (hx : XOk s x) (hp : Slc w 1 pv x.places.length (ints x.places))
    (he : Slc w 4 ev c.events.length (c.events.flatMap EventR.cells)) (hl : x.places.length ≤ 1000000000) (hel : 1 ≤ c.events.length ∧ c.events.length ≤ 8) (hv : v ≤ x.places.length) :
    Calls Tryz.prog 62 #[.pointer (some ⟨sb, 0, none⟩), c.val ev, x.val pv, .int .i64 v] w fun e w' => e = .returned (s.again c x v).val ∧ Only [] w w' := by
  obtain ⟨A, cap, hpv, hn1, hn2, hps⟩ := hp.openI
  obtain ⟨A1, cap1, hev, hn3, hn4, hes⟩ := he.openE EventR.cells (fun _ => rfl)
  obtain ⟨A2, cap2, rfl, hnc2, hcm2, hel2⟩ := h.cell
  unfold maxLen at hn2 hn4 hcm2
  have HWr := Lib.hid (fun (W : World) (hw : Only [] w W) => wrong_any (x := x) (hp.only0 hw) hl)
  have hW : Hid ((fitsAgain c v = false ∨ (x.places.length : Int) - v < c.events.length) → s.again c x v = wrong x) := fun q => by unfold MS.again; rw [if_pos q]
  have hG : Hid (fitsAgain c v = true → ¬ ((x.places.length : Int) - v < c.events.length) → s.again c x v = if sameIds s.all c.events (x.places.drop v) then ⟨0, v, (x.places[((v : Int) + c.events.length - 1).toNat]?).getD 0, true⟩ else wrong x) := fun q1 q2 => by
    unfold MS.again
    rw [if_neg (by simp only [q1]; simp; omega)]
    simp
  have hpl := hx.pl
  have c0 : w.cell? ⟨sb, 0, none⟩ = some (.slice A2 s.all.length cap2) := h.blk.cell 0
  have C0 := Lib.hid c0
  have hsb := h.blk.lt
  have h000 : ∀ o1 o2 o3, Only [] w (((w.alloc o1).alloc o2).alloc o3) := fun o1 o2 o3 => (((Only.refl [] w).alloc _).alloc _).alloc _
  have bC : ∀ cs t o2 o3, Blk (((w.alloc (.cells cs t)).alloc o2).alloc o3) w.heap.size t cs := fun cs t o2 o3 => (((Only.refl [] _).alloc o2).alloc o3).blk (Blk.new w t cs) (by simp)
  have bX : ∀ cs t o1 o3, Blk (((w.alloc o1).alloc (.cells cs t)).alloc o3) (w.heap.size + 1) t cs := fun cs t o1 o3 => by
    have := ((Only.refl [] _).alloc o3).blk (Blk.new (w.alloc o1) t cs) (by simp)
    simpa using this
  have bA : ∀ o1 o2, Blk (((w.alloc o1).alloc o2).alloc (.cells #[.int .i64 0, .int .i64 0, .int .i64 0, .bool false] 34)) (w.heap.size + 1 + 1) 34 #[.int .i64 0, .int .i64 0, .int .i64 0, .bool false] := fun o1 o2 => by
    have := Blk.new ((w.alloc o1).alloc o2) 34 #[.int .i64 0, .int .i64 0, .int .i64 0, .bool false]
    simpa using this
  subst hpv hev
  obtain ⟨places, ⟨a, b, d⟩, fl, del⟩ := x
  obtain ⟨kind, time, stream, ex, l, ⟨a1, b1, d1⟩⟩ := c
  simp only [StreamR.val, Cmd.val] at HWr hW hG hps hes hpl hl hel hv hn1 hn3 ⊢
  simp only [wrong, Ans.val] at HWr
  obtain ⟨hel1, hel8⟩ := hel
  clear hp he hx c0
  obtain ⟨res, hres⟩ : ∃ res, res = s.again ⟨kind, time, stream, ex, l, ⟨a1, b1, d1⟩⟩ ⟨places, ⟨a, b, d⟩, fl, del⟩ v := ⟨_, rfl⟩
  rw [← hres] at hW hG ⊢
  clear hres
  go_enter Tryz.func62, Tryz.ntmps62
  go_upto_region 1 with (fail)
  go_cut [9] (fun s9 wx => s9 = .bool (fitsAgain ⟨kind, time, stream, ex, l, ⟨a1, b1, d1⟩⟩ v) ∧ Only [] w wx ∧ Blk wx w.heap.size 40 #[.int .i64 kind, .int .i64 time, .string stream, .int .i64 ex, .slice A1 l.length cap1, .int .i64 a1, .int .i64 b1, .int .i64 d1] ∧
    Blk wx (w.heap.size + 1) 75 #[.slice A places.length cap, .int .i64 a, .int .i64 b, .int .i64 d, .int .i64 fl, .bool del] ∧ Blk wx (w.heap.size + 1 + 1) 34 #[.int .i64 0, .int .i64 0, .int .i64 0, .bool false])
  case first =>
    cases h2 : (ex == -2)
    · have g2 : ¬ ex = -2 := by simpa using h2
      cases h4 : (ex == -4)
      · have g4 : ¬ ex = -4 := by simpa using h4
        cases h1 : (ex == -1)
        · have g1 : ¬ ex = -1 := by simpa using h1
          cases hv1 : (ex == (v : Int) - 1)
          · have gv : ¬ ex = (v : Int) - 1 := by simpa using hv1
            have hr : Hid (fitsAgain ⟨kind, time, stream, ex, l, ⟨a1, b1, d1⟩⟩ v = false) := by unfold Hid; simp [fitsAgain]; omega
            go_wp2_with fail
            go_meet
            refine ⟨?_, h000 _ _ _, bC _ _ _ _, bX _ _ _ _, bA _ _⟩
            rw [hr.out]
          · have gv : ex = (v : Int) - 1 := by simpa using hv1
            have h0 : 0 < v := by omega
            have hr : Hid (fitsAgain ⟨kind, time, stream, ex, l, ⟨a1, b1, d1⟩⟩ v = true) := by unfold Hid; simp [fitsAgain]; omega
            clear gv
            go_wp2_with fail
            go_meet
            refine ⟨?_, h000 _ _ _, bC _ _ _ _, bX _ _ _ _, bA _ _⟩
            rw [hr.out]
        · have g1 : ex = -1 := by simpa using h1
          cases hv1 : (ex == (v : Int) - 1)
          · have gv : ¬ ex = (v : Int) - 1 := by simpa using hv1
            have hz : ((v : Int) == 0) = false := by rw [beq_eq_false_iff_ne]; omega
            have hz' : (v == 0) = false := by rw [beq_eq_false_iff_ne]; omega
            have hr : Hid (fitsAgain ⟨kind, time, stream, ex, l, ⟨a1, b1, d1⟩⟩ v = false) := by unfold Hid; simp [fitsAgain]; omega
            clear gv g1
            go_wp2_with fail
            go_meet
            refine ⟨?_, h000 _ _ _, bC _ _ _ _, bX _ _ _ _, bA _ _⟩
            rw [hr.out]
          · have gv : ex = (v : Int) - 1 := by simpa using hv1
            have h0 : ¬ 0 < v := by omega
            have hz : ((v : Int) == 0) = true := by rw [beq_iff_eq]; omega
            have hz' : (v == 0) = true := by rw [beq_iff_eq]; omega
            have hr : Hid (fitsAgain ⟨kind, time, stream, ex, l, ⟨a1, b1, d1⟩⟩ v = true) := by unfold Hid; simp [fitsAgain]; omega
            have h0' : decide (0 < v) = false := by simpa using h0
            clear gv g1 h0
            go_wp2_with fail
            go_meet
            refine ⟨?_, h000 _ _ _, bC _ _ _ _, bX _ _ _ _, bA _ _⟩
            rw [hr.out]
      · have g4 : ex = -4 := by simpa using h4
        have hr : Hid (fitsAgain ⟨kind, time, stream, ex, l, ⟨a1, b1, d1⟩⟩ v = true) := by unfold Hid; simp [fitsAgain]; omega
        clear g4
        go_wp2_with fail
        go_meet
        refine ⟨?_, h000 _ _ _, bC _ _ _ _, bX _ _ _ _, bA _ _⟩
        rw [hr.out]
    · have g2 : ex = -2 := by simpa using h2
      have hr : Hid (fitsAgain ⟨kind, time, stream, ex, l, ⟨a1, b1, d1⟩⟩ v = true) := by unfold Hid; simp [fitsAgain]; omega
      clear g2
      go_wp2_with fail
      go_meet
      refine ⟨?_, h000 _ _ _, bC _ _ _ _, bX _ _ _ _, bA _ _⟩
      rw [hr.out]
  case rest =>
    obtain ⟨rfl, hO, BC, BX, BA⟩ := hcut
    have hC := fun i => BC.cell i
    have hX := fun i => BX.cell i
    have hA := fun i => BA.cell i
    have hAf := fun i => BA.free i
    cases hf : fitsAgain ⟨kind, time, stream, ex, l, ⟨a1, b1, d1⟩⟩ v
    · have hE := hW.out (.inl hf)
      go_wp2_with (go_at_call 60; refine (HWr.out _ (hO)).mono ?_; rintro e w2 ⟨rfl, ho2⟩; have hA2 := fun i => (((Only.refl [] wc).trans ho2).blk BA (by simp)).cell i; have hAf2 := fun i => (((Only.refl [] wc).trans ho2).blk BA (by simp)).free i)
      exact bodyPost_ret (v := .agg #[.int .i64 22, .int .i64 ((places.length : Int) - 1), .int .i64 0, .bool false]) (by simp [results, Tryz.results62, go_sem, hA2]) rfl ⟨by rw [hE]; rfl, by repeat (first | exact (hO).trans ho2 | refine Only.setCell ?_ (.inr (by simp; omega)) _)⟩
    · by_cases hlen : (places.length : Int) - v < l.length
      · have hE := hW.out (.inr hlen)
        go_wp2_with (go_at_call 60; refine (HWr.out _ (hO)).mono ?_; rintro e w2 ⟨rfl, ho2⟩; have hA2 := fun i => (((Only.refl [] wc).trans ho2).blk BA (by simp)).cell i; have hAf2 := fun i => (((Only.refl [] wc).trans ho2).blk BA (by simp)).free i)
        exact bodyPost_ret (v := .agg #[.int .i64 22, .int .i64 ((places.length : Int) - 1), .int .i64 0, .bool false]) (by simp [results, Tryz.results62, go_sem, hA2]) rfl ⟨by rw [hE]; rfl, by repeat (first | exact (hO).trans ho2 | refine Only.setCell ?_ (.inr (by simp; omega)) _)⟩
      · have hE := Lib.hid (hG.out hf hlen)
        have hsf := stF
        go_wp2_with fail
        clear hC hX hA hAf
        go_loopw [58] (fun i wr => ∃ k : Nat, k ≤ l.length ∧ i = .int .i64 k ∧ Hid (sameIds s.all l (places.drop v) = sameIds s.all (l.drop k) (places.drop (v + k))) ∧ Only [] wc wr) (fun i _ => l.length - (intOf i).toNat)
        case atStart => exact ⟨0, Nat.zero_le _, rfl, rfl, Only.refl _ _⟩
        case round =>
          obtain ⟨k, hk, rfl, hT, hOr⟩ := hrel
          have hO' := hO.trans hOr
          have s0 : wr.cell? ⟨sb, 0, none⟩ = some (.slice A2 s.all.length cap2) := (hO'.cell hsb (by simp)).trans C0.out
          have hC := fun i => (hOr.blk BC (by simp)).cell i
          have hX := fun i => (hOr.blk BX (by simp)).cell i
          have hA := fun i => (hOr.blk BA (by simp)).cell i
          have hAf := fun i => (hOr.blk BA (by simp)).free i
          by_cases hlt : k < l.length
          · have hvk : v + k < places.length := by omega
            obtain ⟨be, offe, rfl, hbe, hce⟩ := hes k hlt
            obtain ⟨bp, offp, rfl, hbp, hcp⟩ := hps (v + k) hvk
            obtain ⟨hp0, hp1⟩ := hpl _ (List.getElem_mem hvk)
            obtain ⟨q, hq⟩ := Int.eq_ofNat_of_zero_le hp0
            have hqa : q < s.all.length := by omega
            obtain ⟨b2, rfl, hb2, hc2⟩ := hel2 q hqa
            have sd := sameIds_drop s.all l places k v hlt hvk
            rw [hq, idAt_nat hqa] at sd
            rw [hq, ← hO'.cell hbp (by simp)] at hcp
            have i0 : wr.cell? ⟨b2, q * 8, none⟩ = some (.int .i64 s.all[q].ev.id) := (hO'.cell hb2 (by simp)).trans (hc2 0 (by omega))
            obtain ⟨y, hy⟩ : ∃ y, y = l[k] := ⟨_, rfl⟩
            obtain ⟨z, hz⟩ : ∃ z, z = s.all[q].ev.id := ⟨_, rfl⟩
            rw [← hy] at hce sd
            rw [← hz] at i0 sd
            have e0 : wr.cell? ⟨be, offe + k * 4, none⟩ = some (.int .i64 y.id) := (hO'.cell hbe (by simp)).trans (hce 0 (by omega))
            have e1 : wr.cell? ⟨be, offe + k * 4 + 1, none⟩ = some (.string y.type) := (hO'.cell hbe (by simp)).trans (hce 1 (by omega))
            have e2 : wr.cell? ⟨be, offe + k * 4 + 2, none⟩ = some (.string y.data) := (hO'.cell hbe (by simp)).trans (hce 2 (by omega))
            have e3 : wr.cell? ⟨be, offe + k * 4 + 3, none⟩ = some (.float .f64 y.value) := (hO'.cell hbe (by simp)).trans (hce 3 (by omega))
            have hqi : (q : Int) < s.all.length := by omega
            have hvi : (v : Int) + k < places.length := by omega
            have s0a := fun o => (World.cell?_alloc_lt wr o _ (block_lt_of_cell s0)).trans s0
            have pa := fun o => (World.cell?_alloc_lt wr o _ (block_lt_of_cell hcp)).trans hcp
            have ia := fun o => (World.cell?_alloc_lt wr o _ (block_lt_of_cell i0)).trans i0
            have hXa := fun o i => (((Only.refl [] wr).alloc o).blk (hOr.blk BX (by simp)) (by simp)).cell i
            clear hy hz hq hce hc2 hes hps hel2 hpl
            by_cases heq : z = y.id
            · have hne : (z != y.id) = false := by simpa using heq
              have HS : Hid (sameIds s.all l (places.drop v) = sameIds s.all (l.drop (k + 1)) (places.drop (v + (k + 1)))) := by unfold Hid; rw [hT.out, sd, decide_eq_true heq, Bool.true_and]
              clear heq sd
              go_wp2_with fail
              have hw2 : (0 : Int) ≤ (v : Int) + k := by omega
              have hw3 : ((v : Int) + k).toNat = v + k := by omega
              have hw1 := IntWalk.i64_in ((v : Int) + k) ⟨by omega, by omega⟩
              refine wp_region_stail 17 (by kernel_rfl) (by kernel_rfl) ?_
              simp only [List.take_succ_cons, List.take_zero, List.drop_succ_cons, List.drop_zero]
              repeat still_step
              refine wpStill_nil ?_
              clear hw1 hw2 hw3
              go_wp2
              exact ⟨⟨k + 1, hlt, by simp, HS, (hOr.alloc _).drew⟩, by simp [intOf]; omega⟩
            · have hne : (z != y.id) = true := by simpa using heq
              have HS : res = wrong ⟨places, ⟨a, b, d⟩, fl, del⟩ := by rw [hE.out, hT.out, sd, decide_eq_false heq, Bool.false_and]; rfl
              have HS' := Lib.hid HS
              clear heq sd HS
              go_wp2_with fail
              have hw2 : (0 : Int) ≤ (v : Int) + k := by omega
              have hw3 : ((v : Int) + k).toNat = v + k := by omega
              have hw1 := IntWalk.i64_in ((v : Int) + k) ⟨by omega, by omega⟩
              refine wp_region_stail 17 (by kernel_rfl) (by kernel_rfl) ?_
              simp only [List.take_succ_cons, List.take_zero, List.drop_succ_cons, List.drop_zero]
              repeat still_step
              refine wpStill_nil ?_
              clear hw1 hw2 hw3
              go_wp2_with (go_at_call 60; refine (HWr.out _ ((hO'.alloc _).drew)).mono ?_; rintro e w2 ⟨rfl, ho2⟩; have hA2 := fun i => (((hOr.alloc _).drew.trans ho2).blk BA (by simp)).cell i; have hAf2 := fun i => (((hOr.alloc _).drew.trans ho2).blk BA (by simp)).free i)
              exact bodyPost_ret (v := .agg #[.int .i64 22, .int .i64 ((places.length : Int) - 1), .int .i64 0, .bool false]) (by simp [results, Tryz.results62, go_sem, hA2]) rfl ⟨by rw [HS'.out]; rfl, by repeat (first | exact ((hO'.alloc _).drew).trans ho2 | refine Only.setCell ?_ (.inr (by simp; omega)) _)⟩
          · have hkl : k = l.length := by omega
            have hvk : v + l.length - 1 < places.length := by omega
            obtain ⟨bp, offp, rfl, hbp, hcp⟩ := hps (v + l.length - 1) hvk
            rw [← hO'.cell hbp (by simp)] at hcp
            have HS : res = ⟨0, v, places[v + l.length - 1], true⟩ := by
              rw [hE.out, hT.out, hkl, List.drop_length]
              have : (((v : Int) + l.length - 1)).toNat = v + l.length - 1 := by omega
              rw [this]
              simp [sameIds, hvk]
            obtain ⟨pz, hpz⟩ : ∃ pz, pz = places[v + l.length - 1] := ⟨_, rfl⟩
            rw [← hpz] at hcp HS
            have HS' := Lib.hid HS
            have hvi : (v : Int) + l.length - 1 < places.length := by omega
            have hvi0 : 0 ≤ (v : Int) + l.length - 1 := by omega
            have htn : ((v : Int) + l.length - 1).toNat = v + l.length - 1 := by omega
            clear hpz hkl HS hps
            go_wp2
            exact bodyPost_ret (v := .agg #[.int .i64 0, .int .i64 v, .int .i64 pz, .bool true]) (by simp [results, Tryz.results62, go_sem, hA]) rfl ⟨by rw [HS'.out]; rfl, by repeat (first | exact hO' | refine Only.setCell ?_ (.inr (by simp; omega)) _)⟩
end
section
open Go.RowKit
set_option maxRecDepth 100000 in
theorem cloneI_any {w : World} {pv : Value} {zs : List Int} (h : Slc w 1 pv zs.length (ints zs)) (hb : zs.length ≤ 1000000000) :
    Calls Tryz.prog 99 #[pv] w fun e w' => ∃ v', e = .returned v' ∧ w'.ownsRow w.heap.size 3 1 v' zs.length (ints zs) ∧ Only [] w w' := by
  obtain ⟨i0, hi, hz0, hz1, hz2⟩ := info_parts infoI
  obtain ⟨A, cap, rfl, hnc, hcm, hl, hc⟩ := h.cell
  have hq := fun W a n c n' c' => Lib.run_eql_slice_nil (P := Tryz.prog) W 48 _ a n c n' c' Tryz.underlying48
  cases A with
  | none =>
    have h0 : zs = [] := by
      rcases hc with q | ⟨b, off, q, _⟩
      · exact List.length_eq_zero_iff.1 q
      · cases q
    subst h0
    go_enter Tryz.func99, Tryz.ntmps99
    go_wp2
    go_ret
    exact ⟨_, rfl, World.ownsRow_nil _ _ _ _, Only.refl _ _⟩
  | some ad =>
    obtain ⟨b, off, sp⟩ := ad
    have hcell : ∀ j u, (ints zs)[j]? = some u → (w.alloc (.cells #[] 3)).cell? ((⟨b, off, sp⟩ : Addr).add j) = some u := by
      intro j u hu
      have hj : j < (ints zs).length := (List.getElem?_eq_some_iff.1 hu).1
      rcases hc with q | ⟨b', off', q, hb', hcc⟩
      · rw [hl] at hj; omega
      · cases q
        have := hcc j hj
        rw [hu] at this
        rw [show ((⟨b, off, none⟩ : Addr).add j) = ⟨b, off + j, none⟩ by simp [Addr.add]]
        exact (World.cell?_alloc_lt w _ ⟨b, off + j, none⟩ hb').trans this
    have hcl : (ints zs).length = zs.length * 1 := hl
    unfold maxLen at hcm
    clear hl hc
    go_enter Tryz.func99, Tryz.ntmps99
    go_wp2_with (at_builtin; refine wpList_append_own _ rfl (.tmp 5) (.tmp 6) 48 rfl w.heap.size 3 i0 (.int .i64 0) 1 8 Tryz.underlying48 hi hz0 hz1 hz2 rfl (by decide) _ 0 [] rfl (World.ownsRow_made w #[] 0 (Nat.le_refl _) (Nat.zero_le _) rfl) ⟨b, off, sp⟩ zs.length cap (ints zs) rfl hcl hcell ?c2 ?c3 ?c4 ?c5 ?_)
    case c2 => intro u hu; unfold ints at hu; obtain ⟨z, _, rfl⟩ := List.mem_map.1 hu; rfl
    case c3 => unfold maxLen; omega
    case c4 => omega
    case c5 => simp
    intro v' w4 hown' hgrow _
    have hown2 : w4.ownsRow w.heap.size 3 1 v' zs.length (ints zs) := by simpa using hown'
    have ho4 : Only [] w w4 := ((Only.refl [] w).alloc _).grown hgrow (fun k hk => .inr (by cases hk; exact Nat.le_refl _))
    clear hgrow
    go_wp2
    go_ret
    exact ⟨_, rfl, hown2, ho4⟩
end
end Go.Proofs.YteinoiicnmemhaaGreatDoor
