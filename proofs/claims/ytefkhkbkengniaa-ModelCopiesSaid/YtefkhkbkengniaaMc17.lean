/- Contract: Do on a stream that is there. -/
import Derived.Test.YtefkhkbkengniaaMc16
set_option linter.unusedVariables false
set_option linter.unusedSimpArgs false
namespace Go.Proofs.Ytefkhkbkengniaa
open Go.RowKit
theorem StAt.tickedMore {w W : World} {M : List Nat} {sb mb : Nat} {av : Value} {pf : ByteArray → Value} {s : MS} {t n : Int} (h : StAt w M sb mb av pf s) (hO : Only [sb] w W) (hb : Blk W sb 75 #[av, .map (some mb), .int .i64 n, .int .i64 t]) (g : Nat) (h1 : w.heap.size ≤ g) (h2 : g < W.heap.size) :
    StAt W (g :: M) sb mb av pf { s with now := t, done := n } :=
  ⟨hb, own_only h.own hO (fun g hg => by simpa using (h.ownne g hg).1), h.map.only hO (by simpa using h.ne),
    fun k x hx => ((h.pl k x hx).ext (M' := g :: M) (fun i hi => by simp at hi; rcases hi with rfl | hi; exact .inr h1; exact .inl hi)).only hO (by simpa using .inr h.inM.1),
    ⟨List.mem_cons_of_mem _ h.inM.1, List.mem_cons_of_mem _ h.inM.2.1, fun i hi => List.mem_cons_of_mem _ (h.inM.2.2 i hi)⟩,
    fun i hi => by simp at hi; rcases hi with rfl | hi; exact h2; exact Nat.lt_of_lt_of_le (h.mlt i hi) hO.size⟩
theorem check_few {c : Cmd} (h : c.check = 0) : c.events.length ≤ 8 := by
  have hz := check_zero h
  by_cases hk : c.kind = 1
  · exact (hz.2.2.2.2 hk).2
  · unfold Cmd.check at h
    have hsp : c.spare = false := by
      cases hs : c.spare with
      | false => rfl
      | true =>
        rw [hs] at h
        simp only [if_true] at h
        repeat (split at h; first | omega | skip)
        all_goals omega
    unfold Cmd.spare at hsp
    simp only [Bool.or_eq_false_iff, Bool.and_eq_false_iff, decide_eq_false_iff_not] at hsp
    have := hsp.1.2
    omega
set_option maxRecDepth 100000 in
set_option maxHeartbeats 4000000 in
theorem do_act {w : World} {M : List Nat} {sb mb N : Nat} {av ev : Value} {pf : ByteArray → Value} {s : MS} {c : Cmd} (h : StAt w M sb mb av pf s) (hs : s.Ok N) (hN : N ≤ 100000) (hc : CmdOk c)
    (he : Rd M w 4 ev c.events.length (c.events.flatMap EventR.cells)) (hk : c.check = 0) (hm : ¬ (c.kind = 4 ∨ c.kind = 5)) (hd : (s.find c.stream).deleted = false) :
    Calls Try.prog 13 #[.pointer (some ⟨sb, 0, none⟩), c.val ev] w fun e w' => e = .returned (s.do c).1.val ∧ StLeads w M sb mb av (s.do c).2 w' := by
  obtain ⟨A1, cap1, hev, hn3, hn4, hes⟩ := he.1.openE EventR.cells (fun _ => rfl)
  obtain ⟨A2, cap2, hav, hnc2, hcm2, hel2⟩ := h.cell
  unfold maxLen at hn4 hcm2
  have hsb := h.blk.lt
  subst hev
  have HCk := Lib.hid (fun (W : World) (hw : Only [] w W) => show Calls Try.prog 36 #[.agg #[.int .i64 c.kind, .int .i64 c.time, .string c.stream, .int .i64 c.expected, .slice A1 c.events.length cap1, .int .i64 c.mt.maxCount, .int .i64 c.mt.maxAge, .int .i64 c.mt.before]] W fun e w' => e = .returned (.int .i64 c.check) ∧ Only [] W w' from check_any c _ W (he.1.only0 hw) hc)
  have h2 : ∀ o1 o2, Only [] w ((w.alloc o1).alloc o2) := fun o1 o2 => ((Only.refl [] w).alloc o1).alloc o2
  have kC : ∀ cs t o2, Blk ((w.alloc (.cells cs t)).alloc o2) w.heap.size t cs := fun cs t o2 => ((Only.refl [] _).alloc o2).blk (Blk.new w t cs) (by simp)
  have kA : ∀ cs t o1, Blk ((w.alloc o1).alloc (.cells cs t)) (w.heap.size + 1) t cs := fun cs t o1 => by
    have := Blk.new (w.alloc o1) t cs
    simpa using this
  obtain ⟨R, hR⟩ : ∃ R, R = s.do c := ⟨_, rfl⟩
  rw [← hR]
  have HR := Lib.hid hR
  clear hR
  rw [show c.val (.slice A1 c.events.length cap1) = .agg #[.int .i64 c.kind, .int .i64 c.time, .string c.stream, .int .i64 c.expected, .slice A1 c.events.length cap1, .int .i64 c.mt.maxCount, .int .i64 c.mt.maxAge, .int .i64 c.mt.before] from rfl]
  have HZ := Lib.hid (check_zero hk)
  have HFew := Lib.hid (check_few hk)
  have hxo := hs.xok c.stream
  have HK := Lib.hid hk
  rw [hk] at HCk
  have hk4 : ((c.kind : Int) == 4) = false := by rw [beq_eq_false_iff_ne]; omega
  have hk5 : ((c.kind : Int) == 5) = false := by rw [beq_eq_false_iff_ne]; omega
  have HM := Lib.hid hm
  clear hk hm
  obtain ⟨A3, cap3, hpv3, hn5, hn6, hps⟩ := (h.rd c.stream).1.openI
  have hfd : ∀ (W : World) (t : Int), StAt W M sb mb av pf { s with now := t, done := s.done + 1 } → Calls Try.prog 37 #[.pointer (some ⟨sb, 0, none⟩), .string c.stream] W fun e w' => e = .returned (.agg #[.slice A3 (s.find c.stream).places.length cap3, .int .i64 (s.find c.stream).mt.maxCount, .int .i64 (s.find c.stream).mt.maxAge, .int .i64 (s.find c.stream).mt.before, .int .i64 (s.find c.stream).floor, .bool (s.find c.stream).deleted]) ∧ Only [] W w' := fun W t hst => by
    have q := find_any hst c.stream
    rw [show pvOf { s with now := t, done := s.done + 1 } pf c.stream = pvOf s pf c.stream from rfl, hpv3] at q
    exact q
  have HFd := Lib.hid hfd
  clear hfd
  obtain ⟨x, hx⟩ : ∃ x, x = s.find c.stream := ⟨_, rfl⟩
  rw [← hx] at HFd
  have HXf := Lib.hid hx
  have hdn := IntWalk.i64_in (s.done + 1) ⟨by have := hs.done; omega, by have := hs.done; omega⟩
  have hne0 : w.heap.size ≠ sb := by omega
  rw [← hx] at hd hxo
  rw [hd] at HFd
  have HD := Lib.hid hd
  have hal : s.all.length ≤ 800000 := by have := hs.all; omega
  obtain ⟨t0, ht0⟩ : ∃ t0, t0 = max s.now c.time := ⟨_, rfl⟩
  have htb : 0 ≤ t0 ∧ t0 ≤ 1099511627776 := by
    have h1 := hs.now
    have h2 := HZ.out.2.2.1
    omega
  obtain ⟨s1, hs1⟩ : ∃ s1 : MS, s1 = { s with now := t0, done := s.done + 1 } := ⟨_, rfl⟩
  obtain ⟨M1, hM1⟩ : ∃ M1, M1 = (w.heap.size + 1) :: M := ⟨_, rfl⟩
  have hM1i : ∀ g ∈ M, g ∈ M1 := fun g hg => by rw [hM1]; exact List.mem_cons_of_mem _ hg
  have hM1o : ∀ g ∈ M1, g ∈ M ∨ w.heap.size ≤ g := fun g hg => by rw [hM1] at hg; simp at hg; rcases hg with rfl | hg; exact .inr (by omega); exact .inl hg
  have hxo1 : XOk s1 x := by rw [hs1]; exact ⟨hxo.mt, hxo.fl, hxo.pl, hxo.few⟩
  obtain ⟨fo, hfo⟩ : ∃ fo, fo = s1.floorOf x := ⟨_, rfl⟩
  have hfb := floorOf_bd s1 x
  rw [← hfo] at hfb
  have hpl3 : ∀ W, StAt W M1 sb mb av pf s1 → Rd M1 W 1 (.slice A3 x.places.length cap3) x.places.length (ints x.places) := fun W hW => by
    have q := hW.rd c.stream
    rw [hs1] at q
    rw [show pvOf { s with now := t0, done := s.done + 1 } pf c.stream = pvOf s pf c.stream from rfl, hpv3] at q
    rw [hx]
    exact q
  have hfl : ∀ W, StAt W M1 sb mb av pf s1 → Calls Try.prog 38 #[.pointer (some ⟨sb, 0, none⟩), .agg #[.slice A3 x.places.length cap3, .int .i64 x.mt.maxCount, .int .i64 x.mt.maxAge, .int .i64 x.mt.before, .int .i64 x.floor, .bool false]] W fun e w' => e = .returned (.int .i64 fo) ∧ Only [] W w' := fun W hW => by
    have q := floorOf_any (x := x) hW (by rw [hs1]; exact htb) (hpl3 W hW).1 hxo1.pl (by have := hxo.few; omega) hxo1.mt hxo1.fl
    rw [← hfo] at q
    unfold StreamR.val at q
    rw [HD.out] at q
    exact q
  have hxo2 : XOk s1 { x with floor := fo } := ⟨hxo1.mt, hfb, hxo1.pl, hxo1.few⟩
  obtain ⟨q, hq⟩ : ∃ q, q = s1.act c { x with floor := fo } := ⟨_, rfl⟩
  have hac : ∀ W, StAt W M1 sb mb av pf s1 → Only [sb] w W → Calls Try.prog 39 #[.pointer (some ⟨sb, 0, none⟩), .agg #[.int .i64 c.kind, .int .i64 c.time, .string c.stream, .int .i64 c.expected, .slice A1 c.events.length cap1, .int .i64 c.mt.maxCount, .int .i64 c.mt.maxAge, .int .i64 c.mt.before], .agg #[.slice A3 x.places.length cap3, .int .i64 x.mt.maxCount, .int .i64 x.mt.maxAge, .int .i64 x.mt.before, .int .i64 fo, .bool false]] W fun e w' => ∃ Aq capq, e = .returned (.tuple #[.agg #[.int .i64 q.1.err, .int .i64 q.1.version, .int .i64 q.1.position, .bool q.1.again], .agg #[.slice Aq q.2.1.places.length capq, .int .i64 q.2.1.mt.maxCount, .int .i64 q.2.1.mt.maxAge, .int .i64 q.2.1.mt.before, .int .i64 q.2.1.floor, .bool q.2.1.deleted]]) ∧ ActLeads W M1 sb mb av pf q.2.1 q.2.2 (.slice Aq q.2.1.places.length capq) w' := fun W hW hO => by
    have r := act_any (x := { x with floor := fo }) (c := c) hW hxo2 (hpl3 W hW) ((he.ext hM1o).only hO (by simpa using hM1i _ h.inM.1)) (by rw [hs1]; show s.all.length ≤ 1000000; omega) (by rw [hs1]; exact htb) (fun hk => HZ.out.2.2.2.2 (by have := HZ.out; have := HM.out; omega))
    rw [← hq] at r
    unfold StreamR.val at r
    rw [HD.out] at r
    refine r.mono ?_
    rintro e w' ⟨pv', rfl, hA⟩
    obtain ⟨M', av', hst, hrd, hr⟩ := hA
    obtain ⟨Aq, capq, rfl, _⟩ := hrd.1.openI
    exact ⟨Aq, capq, rfl, M', av', hst, hrd, hr⟩
  have hqx := act_xok hxo2 HZ.out.2.2.2.1
  rw [← hq] at hqx
  have hq10 : q.2.2.all.length ≤ 1000000000 := by
    have q1 := hqx.2.2.2.2.2
    have q2 : s1.all.length = s.all.length := by rw [hs1]
    have := HFew.out
    omega
  have hkp : ∀ W M' av' Aq capq, StAt W M' sb mb av' pf q.2.2 → Rd M' W 1 (.slice Aq q.2.1.places.length capq) q.2.1.places.length (ints q.2.1.places) → Calls Try.prog 40 #[.pointer (some ⟨sb, 0, none⟩), .string c.stream, .agg #[.slice Aq q.2.1.places.length capq, .int .i64 q.2.1.mt.maxCount, .int .i64 q.2.1.mt.maxAge, .int .i64 q.2.1.mt.before, .int .i64 q.2.1.floor, .bool q.2.1.deleted]] W fun e w' => e = .returned (.tuple #[]) ∧ (∃ pf', StAt w' M' sb mb av' pf' (q.2.2.keep c.stream q.2.1)) ∧ Only [mb] W w' := fun W M' av' Aq capq hW hR => by
    have r := keep_any (N := 0) hW (by rw [hqx.2.1, hs1]; exact htb) (hq10) hqx.1 c.stream hR
    refine r.mono ?_
    rintro e w' ⟨rfl, h1, h2⟩
    exact ⟨rfl, ⟨_, h1⟩, h2⟩
  have HKp := Lib.hid hkp
  have HFl := Lib.hid hfl
  have HAc := Lib.hid hac
  have HQ := Lib.hid hq
  have HQX := Lib.hid hqx
  have HFo := Lib.hid hfo
  have HM1 := Lib.hid hM1
  have HM1i := Lib.hid hM1i
  have HM1o := Lib.hid hM1o
  have HS1 := Lib.hid hs1
  have HT0 := Lib.hid ht0
  clear hM1i hM1o hq10 hfl hkp hac hq hqx hfo hd hx hfb hxo hxo1 hxo2
  go_enter Try.func13, Try.ntmps13
  go_wp2_with (go_at_call 36; refine (HCk.out _ (h2 _ _)).mono ?_; rintro e w1 ⟨rfl, ho1⟩)
  clear hs1 ht0 hM1
  obtain ⟨t, ht⟩ : ∃ t, t = max s.now c.time := ⟨_, rfl⟩
  have hmx : (if s.now < c.time then c.time else s.now) = t := by rw [ht]; split <;> omega
  have hmy : (if c.time > s.now then c.time else s.now) = t := hmx
  have HT := Lib.hid ht
  clear ht
  have bC1 := ho1.blk (kC _ _ _) (by simp)
  have bA1 := ho1.blk (kA _ _ _) (by simp)
  have hO1 : Only [] w w1 := (h2 _ _).trans ho1
  have bS1 := hO1.blk h.blk (by simp)
  have C1 := WithinE.cell (E := fun W => W.cell? ⟨sb, 2, none⟩ = some (.int .i64 s.done)) (S := [sb]) (bC1.cell 1) (by simp; omega)
  have D2 := fun p : WithinE [sb] (fun W => W.cell? ⟨sb, 2, none⟩ = some (.int .i64 s.done)) w1 => p.e
  refine wp_region_inE [sb] [0, 1, 2, 3, 4, 6, 7, 9, 10, 11, 12, 13] [5, 8, 14, 15, 16] [17, 18, 19] (fun W => W.cell? ⟨sb, 2, none⟩ = some (.int .i64 s.done)) (bS1.cell 2) (by kernel_rfl) (by kernel_rfl) (by intro c d u a w h; cases d <;> exact h) ?_
  intro hne
  show wpQuiet _ _ _ _ [_, _, _, _, _, _, _, _, _, _, _, _] _
  repeat (go_big_quiet_step (fail))
  refine wpQuiet_nil ?_
  show wpList _ _ _ [_] _ _
  have hSf := fun i => bS1.free i
  have hSc := fun i => bS1.cell i
  have N3 : w1.drew.cell? ⟨sb, 3, none⟩ = some (.int .i64 s.now) := bS1.cell 3
  go_wp2_with fail
  refine check_ofE (S := [sb]) (Only.refl _ _).drew (bS1.cell 2) ?_
  show wpList _ _ _ [_] _ _
  go_wp2_with fail
  refine check_ofE (S := [sb]) (Only.refl _ _).drew (bS1.cell 2) ?_
  show wpList _ _ _ [_] _ _
  go_wp2_with fail
  refine check_ofE (S := [sb]) (Only.refl _ _).drew (bS1.cell 2) ?_
  show wpList _ _ _ [_] _ _
  go_wp2_with fail
  refine check_ofE (S := [sb]) (Only.refl _ _).drew (bS1.cell 2) ?_
  show wpList _ _ _ [_] _ _
  go_wp2_with fail
  refine check_ofE (S := [sb]) (((Only.refl _ _).setCell (.inl (by simp)) _).drew) ((bS1.set 3 _).cell 2) ?_
  show wpList _ _ _ [_, _, _] _ _
  have htt : t = t0 := by rw [HT.out, HT0.out]
  have hO2 := fun u v => ((Only.refl [sb] w1).setCell (p := ⟨sb, 3, none⟩) (.inl (by simp)) u).setCell (p := ⟨sb, 2, none⟩) (.inl (by simp)) v
  have hC2 := fun u v i => ((hO2 u v).blk bC1 (by simp; omega)).cell i
  have hC2' := fun u v i => ((hO2 u v).drew.blk bC1 (by simp; omega)).cell i
  have hb0 := (bS1.set 3 (.int .i64 t)).set 2 (.int .i64 (s.done + 1))
  have hT2 := StAt.ticked h (hO1.of_nil.trans (hO2 (.int .i64 t) (.int .i64 (s.done + 1)))) hb0
  have hT3 := hT2.only0 (Only.refl [] _).drew
  have kA2 := fun u v => (hO2 u v).drew.blk bA1 (by simp; omega)
  subst htt
  have hT4 := StAt.tickedMore h (hO1.of_nil.trans (hO2 (.int .i64 t) (.int .i64 (s.done + 1)))) hb0 (w.heap.size + 1) (by omega) (by have q1 := ho1.size; simp [World.setCell] at q1 ⊢; omega)
  rw [← HM1.out] at hT4
  have hT5 := hT4.only0 (Only.refl [] _).drew
  rw [← HS1.out] at hT4 hT5
  go_wp2_with (first
    | (go_at_call 37; refine (HFd.out _ _ (by first | exact hT3 | exact hT2)).mono ?_; rintro e w2 ⟨rfl, ho2⟩; have hb2 := fun o : Obj => ((Only.refl [] w2).alloc o)
       have hX2 := fun cs t i => (Blk.new w2 t cs).cell i; have hX2f := fun cs t i => (Blk.new w2 t cs).free i)
    | (go_at_call 38; refine (HFl.out _ ((hT5.only0 ho2).only0 (hb2 _))).mono ?_; rintro e w3 ⟨rfl, ho3⟩; have hX3 := fun i => (ho3.blk (Blk.new w2 _ _) (by simp)).cell i; have hX3f := fun i => (ho3.blk (Blk.new w2 _ _) (by simp)).free i
       have hC3 := fun i => (ho3.blk (((Only.refl [] w2).alloc _).blk (ho2.blk ((hO2 _ _).drew.blk bC1 (by simp; omega)) (by simp)) (by simp)) (by simp)).cell i
       have hn3 : w.heap.size ≠ w2.heap.size := by have q1 := ho1.size; have q2 := ho2.size; simp at q1 q2; omega
       have hO3 := fun u => ((((Only.refl [] w2).alloc _).trans ho3).setCell (p := ⟨w2.heap.size, 4, none⟩) (.inr (Nat.le_refl _)) u)
       have hC3' := fun u i => ((((Only.refl [w2.heap.size] w3).setCell (p := ⟨w2.heap.size, 4, none⟩) (.inl (by simp)) u).blk (ho3.blk (((Only.refl [] w2).alloc _).blk (ho2.blk ((hO2 _ _).drew.blk bC1 (by simp; omega)) (by simp)) (by simp)) (by simp)) (by simpa using hn3))).cell i)
    | (go_at_call 39; refine (HAc.out _ ((hT5.only0 ho2).only0 (hO3 _)) (((hO1.of_nil.trans (hO2 _ _)).drew.trans ho2.of_nil).trans (hO3 _).of_nil)).mono ?_; rintro e w4 ⟨Aq, capq, rfl, M', av', hst, hrd, hO4, hin, hnew, hav'⟩
       have hnM : w.heap.size ∉ hM sb mb av := fun q => by have := h.lt _ q; omega
       have hC4 := fun o1 o2 i => ((((Only.refl [] w4).alloc o1).alloc o2).blk (hO4.blk ((((Only.refl [w2.heap.size] w3).setCell (p := ⟨w2.heap.size, 4, none⟩) (.inl (by simp)) _).blk (ho3.blk (((Only.refl [] w2).alloc _).blk (ho2.blk ((hO2 _ _).drew.blk bC1 (by simp; omega)) (by simp)) (by simp)) (by simp)) (by simpa using hn3))) hnM) (by simp)).cell i
       have hY4 := fun o1 cs i => by
         have := (Blk.new (w4.alloc o1) 77 cs).cell i
         rw [World.size_alloc] at this
         exact this)
    | (go_at_call 40; refine (HKp.out _ _ _ _ _ (hst.only0 (((Only.refl [] w4).alloc _).alloc _)) (hrd.only0 (((Only.refl [] w4).alloc _).alloc _))).mono ?_; rintro e w5 ⟨rfl, ⟨pf', hs5⟩, ho5⟩
       have hm4 : w4.heap.size ≠ mb := by have q1 := h.map.lt; have q2 := hO4.size; have q3 := ho3.size; have q4 := ho2.size; have q5 := hO1.size; simp [World.setCell] at q1 q2 q3 q4 q5; omega
       have hnA : w.heap.size + 1 ≠ w2.heap.size := by have q1 := ho1.size; have q2 := ho2.size; simp [World.setCell] at q1 q2; omega
       have hnA2 : w.heap.size + 1 ∉ hM sb mb av := fun q => by have := h.lt _ q; omega
       have hnA3 : w.heap.size + 1 ≠ mb := by have := h.map.lt; omega
       have hB5 := ho5.blk ((((Only.refl [] w4).alloc _).alloc _).blk (hO4.blk ((((Only.refl [w2.heap.size] w3).setCell (p := ⟨w2.heap.size, 4, none⟩) (.inl (by simp)) _).blk (ho3.blk (((Only.refl [] w2).alloc _).blk (ho2.blk (kA2 _ _) (by simp)) (by simp)) (by simp)) (by simpa using hnA))) hnA2) (by simp)) (by simpa using hnA3)
       have hB5c := fun i => hB5.cell i
       have hB5f := fun i => hB5.free i
       have hA5 := fun i => (ho5.blk (((Only.refl [] _).alloc _).blk (Blk.new w4 29 _) (by simp)) (by simpa using hm4)).cell i))
  have hR := HR.out
  subst hR
  have hE : s.do c = (q.1, q.2.2.keep c.stream q.2.1) := by
    unfold MS.do
    rw [if_neg (by rw [HK.out]; decide)]
    dsimp only
    rw [if_neg HM.out]
    have e1 : s.tick c.time = s1 := by
      rw [HS1.out, HT.out]
      rfl
    have e2 : s1.find c.stream = x := by
      rw [HS1.out, HXf.out]
      rfl
    rw [e1, e2, if_neg (by rw [HD.out]; decide), ← HFo.out, ← HQ.out]
  refine bodyPost_ret (v := .agg #[.int .i64 q.1.err, .int .i64 q.1.version, .int .i64 q.1.position, .bool q.1.again]) (by simp [results, Try.results13, go_sem, hB5c]) rfl ?_
  rw [hE]
  have hMw : w.heap.size + 1 ∈ M' := hin _ (by rw [HM1.out]; simp)
  have hall := fun u => ((hO1.of_nil.trans (hO2 (.int .i64 t) (.int .i64 (s.done + 1)))).drew.trans ho2.of_nil).trans (S := [sb]) (hO3 u).of_nil
  have hbig : w.heap.size + 1 < w2.heap.size := by have q1 := ho1.size; have q2 := ho2.size; simp [World.setCell] at q1 q2; omega
  have hbig3 : w2.heap.size + 1 ≤ w3.heap.size := by have q1 := ho3.size; simpa using q1
  have hvn : ∀ g, av'.ownBlock = some g → av.ownBlock = some g ∨ w.heap.size + 1 < g := fun g hg => by
    rcases hav' g hg with q | q
    · exact .inl q
    · simp [World.setCell] at q
      exact .inr (by omega)
  refine ⟨rfl, M', av', pf', hs5.only (S := [w.heap.size + 1]) ?ho (by simpa using hMw) (fun g hg => ?hg), ?hw, fun g hg => hin _ (HM1i.out g hg), fun g hg => ?hn, fun g hg => ?hv⟩
  case ho =>
    iterate 4 (refine Only.setCell ?_ (.inl (by simp)) _)
    exact Only.refl _ _
  case hw =>
    iterate 4 (refine Only.setCell ?_ (.inr (by simp <;> omega)) _)
    exact (((((hall _).mono (by simp [hM])).trans hO4).alloc _).alloc _).trans (ho5.mono (by simp [hM]))
  case hg =>
    simp only [hM, List.mem_cons, Option.mem_toList] at hg
    simp only [List.mem_singleton]
    rcases hg with rfl | rfl | hg
    · omega
    · exact fun e => hnA3 e.symm
    · rcases hvn g hg with q | q
      · have := h.own_lt g q
        omega
      · omega
  case hn =>
    rcases hnew g hg with q | q
    · exact HM1o.out g q
    · simp [World.setCell] at q
      exact .inr (by omega)
  case hv =>
    rcases hvn g hg with q | q
    · exact .inl q
    · exact .inr (by omega)
/-- Do, of whatever state and command. -/
theorem do_any {w : World} {M : List Nat} {sb mb N : Nat} {av ev : Value} {pf : ByteArray → Value} {s : MS} {c : Cmd} (h : StAt w M sb mb av pf s) (hs : s.Ok N) (hN : N ≤ 100000) (hc : CmdOk c)
    (he : Rd M w 4 ev c.events.length (c.events.flatMap EventR.cells)) :
    Calls Try.prog 13 #[.pointer (some ⟨sb, 0, none⟩), c.val ev] w fun e w' => e = .returned (s.do c).1.val ∧ StLeads w M sb mb av (s.do c).2 w' := by
  by_cases hk : c.check = 0
  · by_cases hm : c.kind = 4 ∨ c.kind = 5
    · exact do_mark h hs hN hc he hk hm
    · cases hd : (s.find c.stream).deleted
      · exact do_act h hs hN hc he hk hm hd
      · exact do_gone h hs hN hc he hk hm hd
  · exact do_bad h hs hN hc he hk
end Go.Proofs.Ytefkhkbkengniaa
