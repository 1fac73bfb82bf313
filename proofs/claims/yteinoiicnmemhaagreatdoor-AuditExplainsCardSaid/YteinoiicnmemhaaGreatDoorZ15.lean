/- Proved here: contracts of functions and plain laws, part 15 of one proof. Conditions: each theorem names its own. -/
import Derived.Test.YteinoiicnmemhaaGreatDoorZ6
import Derived.Test.YteinoiicnmemhaaGreatDoorZ14
set_option linter.unusedSimpArgs false
set_option linter.unusedVariables false
namespace Go.Proofs.YteinoiicnmemhaaGreatDoor
section
open Go.RowKit
theorem rangeFrom_mem : ∀ (k : Nat) (a p : Int), p ∈ rangeFrom k a → a ≤ p ∧ p < a + k
  | 0, a, p, h => by simp [rangeFrom] at h
  | k + 1, a, p, h => by
    simp only [rangeFrom, List.mem_cons] at h
    rcases h with rfl | h
    · omega
    · have := rangeFrom_mem k (a + 1) p h
      omega
theorem act_xok {s : MS} {x : StreamR} {c : Cmd} (hx : XOk s x) (hm : c.kind = 2 → c.mt.ok = true) :
    XOk (s.act c x).2.2 (s.act c x).2.1 ∧ (s.act c x).2.2.now = s.now ∧ (s.act c x).2.2.m = s.m ∧ (s.act c x).2.2.done = s.done ∧ s.all.length ≤ (s.act c x).2.2.all.length ∧ (s.act c x).2.2.all.length ≤ s.all.length + c.events.length := by
  have hx' := hx
  obtain ⟨h1, h2, h3, h4⟩ := hx
  unfold MS.act
  dsimp only
  split
  · rename_i hk
    exact ⟨⟨hm hk, h2, h3, h4⟩, rfl, rfl, rfl, Nat.le_refl _, Nat.le_add_right _ _⟩
  · split
    · split
      · exact ⟨⟨h1, h2, h3, h4⟩, rfl, rfl, rfl, Nat.le_refl _, Nat.le_add_right _ _⟩
      · exact ⟨hx', rfl, rfl, rfl, Nat.le_refl _, Nat.le_add_right _ _⟩
    · split
      · exact ⟨hx', rfl, rfl, rfl, Nat.le_refl _, Nat.le_add_right _ _⟩
      · split
        · unfold MS.append
          dsimp only
          refine ⟨⟨h1, ⟨h2.1, ?_⟩, fun p hp => ?_, ?_⟩, rfl, rfl, rfl, ?_, ?_⟩
          · simp only [List.length_append]
            omega
          · simp only [List.mem_append, List.length_append, storedOf_len] at hp ⊢
            rcases hp with hp | hp
            · have := h3 p hp
              omega
            · have := rangeFrom_mem _ _ p hp
              omega
          · simp only [List.length_append, storedOf_len, rangeFrom_len]
            omega
          · simp only [List.length_append]
            omega
          · simp only [List.length_append, storedOf_len]
            omega
        · exact ⟨hx', rfl, rfl, rfl, Nat.le_refl _, Nat.le_add_right _ _⟩
/-- What a command that is in order says. -/
theorem check_zero {c : Cmd} (h : c.check = 0) : 1 ≤ c.kind ∧ c.kind ≤ 5 ∧ (0 ≤ c.time ∧ c.time ≤ 1099511627776) ∧ (c.kind = 2 → c.mt.ok = true) ∧ (c.kind = 1 → 1 ≤ c.events.length ∧ c.events.length ≤ 8) := by
  unfold Cmd.check at h
  split at h
  · omega
  · rename_i q1
    have ht : within c.time = true := by
      cases hw : within c.time
      · exact absurd (.inr (.inr hw)) q1
      · rfl
    simp only [within, Bool.and_eq_true, decide_eq_true_eq] at ht
    refine ⟨by omega, by omega, ht, fun hk => ?_, fun hk => ?_⟩
    · split at h
      · omega
      · split at h
        · omega
        · split at h
          · omega
          · split at h
            · omega
            · rename_i q2
              cases hw : c.mt.ok
              · exact absurd ⟨hk, hw⟩ q2
              · rfl
    · split at h
      · omega
      · split at h
        · rename_i q2
          exact absurd h q2.2
        · rename_i q2
          have he : eventsE c.events = 0 := by
            by_cases hz : eventsE c.events = 0
            · exact hz
            · exact absurd ⟨hk, hz⟩ q2
          unfold eventsE at he
          split at he
          · omega
          · split at he
            · omega
            · omega
end
section
open Go.RowKit
theorem StAt.tickedMore {w W : World} {M : List Nat} {sb mb : Nat} {av : Value} {pf : ByteArray → Value} {s : MS} {t n : Int} (h : StAt w M sb mb av pf s) (hO : Only [sb] w W) (hb : Blk W sb 72 #[av, .map (some mb), .int .i64 n, .int .i64 t]) (g : Nat) (h1 : w.heap.size ≤ g) (h2 : g < W.heap.size) :
    StAt W (g :: M) sb mb av pf { s with now := t, done := n } :=
  ⟨hb, own_only h.own hO (fun g hg => by simpa using (h.ownne g hg).1), h.map.only hO (by simpa using h.ne),
    fun k x hx => ((h.pl k x hx).ext (M' := g :: M) (fun i hi => by simp at hi; rcases hi with rfl | hi; exact .inr h1; exact .inl hi)).only hO (by simpa using .inr h.inM.1),
    ⟨List.mem_cons_of_mem _ h.inM.1, List.mem_cons_of_mem _ h.inM.2.1, fun i hi => List.mem_cons_of_mem _ (h.inM.2.2 i hi)⟩,
    fun i hi => by simp at hi; rcases hi with rfl | hi; exact h2; exact Nat.lt_of_lt_of_le (h.mlt i hi) hO.size⟩
theorem check_few {c : Cmd} (h : c.check = 0) : c.events.length ≤ 8 := by
  have hz := check_zero h
  by_cases hk : c.kind = 1
  · exact (hz.2.2.2.2 hk).2
  · unfold Cmd.check at h
    have hsp : c.spare = false := by
      cases hs : c.spare with
      | false => rfl
      | true =>
        rw [hs] at h
        simp only [if_true] at h
        repeat (split at h; first | omega | skip)
        all_goals omega
    unfold Cmd.spare at hsp
    simp only [Bool.or_eq_false_iff, Bool.and_eq_false_iff, decide_eq_false_iff_not] at hsp
    have := hsp.1.2
    omega
set_option maxRecDepth 100000 in
set_option maxHeartbeats 4000000 in
theorem do_act {w : World} {M : List Nat} {sb mb N : Nat} {av ev : Value} {pf : ByteArray → Value} {s : MS} {c : Cmd} (h : StAt w M sb mb av pf s) (hs : s.Ok N) (hN : N ≤ 100000) (hc : CmdOk c)
    (he : Rd M w 4 ev c.events.length (c.events.flatMap EventR.cells)) (hk : c.check = 0) (hm : ¬ (c.kind = 4 ∨ c.kind = 5)) (hd : (s.find c.stream).deleted = false) :
    Calls Tryz.prog 9 #[.pointer (some ⟨sb, 0, none⟩), c.val ev] w fun e w' => e = .returned (s.do c).1.val ∧ StLeads w M sb mb av (s.do c).2 w' := by
  obtain ⟨A1, cap1, hev, hn3, hn4, hes⟩ := he.1.openE EventR.cells (fun _ => rfl)
  obtain ⟨A2, cap2, hav, hnc2, hcm2, hel2⟩ := h.cell
  unfold maxLen at hn4 hcm2
  have hsb := h.blk.lt
  subst hev
  have HCk := Lib.hid (fun (W : World) (hw : Only [] w W) => show Calls Tryz.prog 20 #[.agg #[.int .i64 c.kind, .int .i64 c.time, .string c.stream, .int .i64 c.expected, .slice A1 c.events.length cap1, .int .i64 c.mt.maxCount, .int .i64 c.mt.maxAge, .int .i64 c.mt.before]] W fun e w' => e = .returned (.int .i64 c.check) ∧ Only [] W w' from check_any c _ W (he.1.only0 hw) hc)
  have h2 : ∀ o1 o2, Only [] w ((w.alloc o1).alloc o2) := fun o1 o2 => ((Only.refl [] w).alloc o1).alloc o2
  have kC : ∀ cs t o2, Blk ((w.alloc (.cells cs t)).alloc o2) w.heap.size t cs := fun cs t o2 => ((Only.refl [] _).alloc o2).blk (Blk.new w t cs) (by simp)
  have kA : ∀ cs t o1, Blk ((w.alloc o1).alloc (.cells cs t)) (w.heap.size + 1) t cs := fun cs t o1 => by
    have := Blk.new (w.alloc o1) t cs
    simpa using this
  obtain ⟨R, hR⟩ : ∃ R, R = s.do c := ⟨_, rfl⟩
  rw [← hR]
  have HR := Lib.hid hR
  clear hR
  rw [show c.val (.slice A1 c.events.length cap1) = .agg #[.int .i64 c.kind, .int .i64 c.time, .string c.stream, .int .i64 c.expected, .slice A1 c.events.length cap1, .int .i64 c.mt.maxCount, .int .i64 c.mt.maxAge, .int .i64 c.mt.before] from rfl]
  have HZ := Lib.hid (check_zero hk)
  have HFew := Lib.hid (check_few hk)
  have hxo := hs.xok c.stream
  have HK := Lib.hid hk
  rw [hk] at HCk
  have hk4 : ((c.kind : Int) == 4) = false := by rw [beq_eq_false_iff_ne]; omega
  have hk5 : ((c.kind : Int) == 5) = false := by rw [beq_eq_false_iff_ne]; omega
  have HM := Lib.hid hm
  clear hk hm
  obtain ⟨A3, cap3, hpv3, hn5, hn6, hps⟩ := (h.rd c.stream).1.openI
  have hfd : ∀ (W : World) (t : Int), StAt W M sb mb av pf { s with now := t, done := s.done + 1 } → Calls Tryz.prog 21 #[.pointer (some ⟨sb, 0, none⟩), .string c.stream] W fun e w' => e = .returned (.agg #[.slice A3 (s.find c.stream).places.length cap3, .int .i64 (s.find c.stream).mt.maxCount, .int .i64 (s.find c.stream).mt.maxAge, .int .i64 (s.find c.stream).mt.before, .int .i64 (s.find c.stream).floor, .bool (s.find c.stream).deleted]) ∧ Only [] W w' := fun W t hst => by
    have q := find_any hst c.stream
    rw [show pvOf { s with now := t, done := s.done + 1 } pf c.stream = pvOf s pf c.stream from rfl, hpv3] at q
    exact q
  have HFd := Lib.hid hfd
  clear hfd
  obtain ⟨x, hx⟩ : ∃ x, x = s.find c.stream := ⟨_, rfl⟩
  rw [← hx] at HFd
  have HXf := Lib.hid hx
  have hdn := IntWalk.i64_in (s.done + 1) ⟨by have := hs.done; omega, by have := hs.done; omega⟩
  have hne0 : w.heap.size ≠ sb := by omega
  rw [← hx] at hd hxo
  rw [hd] at HFd
  have HD := Lib.hid hd
  have hal : s.all.length ≤ 800000 := by have := hs.all; omega
  obtain ⟨t0, ht0⟩ : ∃ t0, t0 = max s.now c.time := ⟨_, rfl⟩
  have htb : 0 ≤ t0 ∧ t0 ≤ 1099511627776 := by
    have h1 := hs.now
    have h2 := HZ.out.2.2.1
    omega
  obtain ⟨s1, hs1⟩ : ∃ s1 : MS, s1 = { s with now := t0, done := s.done + 1 } := ⟨_, rfl⟩
  obtain ⟨M1, hM1⟩ : ∃ M1, M1 = (w.heap.size + 1) :: M := ⟨_, rfl⟩
  have hM1i : ∀ g ∈ M, g ∈ M1 := fun g hg => by rw [hM1]; exact List.mem_cons_of_mem _ hg
  have hM1o : ∀ g ∈ M1, g ∈ M ∨ w.heap.size ≤ g := fun g hg => by rw [hM1] at hg; simp at hg; rcases hg with rfl | hg; exact .inr (by omega); exact .inl hg
  have hxo1 : XOk s1 x := by rw [hs1]; exact ⟨hxo.mt, hxo.fl, hxo.pl, hxo.few⟩
  obtain ⟨fo, hfo⟩ : ∃ fo, fo = s1.floorOf x := ⟨_, rfl⟩
  have hfb := floorOf_bd s1 x
  rw [← hfo] at hfb
  have hpl3 : ∀ W, StAt W M1 sb mb av pf s1 → Rd M1 W 1 (.slice A3 x.places.length cap3) x.places.length (ints x.places) := fun W hW => by
    have q := hW.rd c.stream
    rw [hs1] at q
    rw [show pvOf { s with now := t0, done := s.done + 1 } pf c.stream = pvOf s pf c.stream from rfl, hpv3] at q
    rw [hx]
    exact q
  have hfl : ∀ W, StAt W M1 sb mb av pf s1 → Calls Tryz.prog 22 #[.pointer (some ⟨sb, 0, none⟩), .agg #[.slice A3 x.places.length cap3, .int .i64 x.mt.maxCount, .int .i64 x.mt.maxAge, .int .i64 x.mt.before, .int .i64 x.floor, .bool false]] W fun e w' => e = .returned (.int .i64 fo) ∧ Only [] W w' := fun W hW => by
    have q := floorOf_any (x := x) hW (by rw [hs1]; exact htb) (hpl3 W hW).1 hxo1.pl (by have := hxo.few; omega) hxo1.mt hxo1.fl
    rw [← hfo] at q
    unfold StreamR.val at q
    rw [HD.out] at q
    exact q
  have hxo2 : XOk s1 { x with floor := fo } := ⟨hxo1.mt, hfb, hxo1.pl, hxo1.few⟩
  obtain ⟨q, hq⟩ : ∃ q, q = s1.act c { x with floor := fo } := ⟨_, rfl⟩
  have hac : ∀ W, StAt W M1 sb mb av pf s1 → Only [sb] w W → Calls Tryz.prog 23 #[.pointer (some ⟨sb, 0, none⟩), .agg #[.int .i64 c.kind, .int .i64 c.time, .string c.stream, .int .i64 c.expected, .slice A1 c.events.length cap1, .int .i64 c.mt.maxCount, .int .i64 c.mt.maxAge, .int .i64 c.mt.before], .agg #[.slice A3 x.places.length cap3, .int .i64 x.mt.maxCount, .int .i64 x.mt.maxAge, .int .i64 x.mt.before, .int .i64 fo, .bool false]] W fun e w' => ∃ Aq capq, e = .returned (.tuple #[.agg #[.int .i64 q.1.err, .int .i64 q.1.version, .int .i64 q.1.position, .bool q.1.again], .agg #[.slice Aq q.2.1.places.length capq, .int .i64 q.2.1.mt.maxCount, .int .i64 q.2.1.mt.maxAge, .int .i64 q.2.1.mt.before, .int .i64 q.2.1.floor, .bool q.2.1.deleted]]) ∧ ActLeads W M1 sb mb av pf q.2.1 q.2.2 (.slice Aq q.2.1.places.length capq) w' := fun W hW hO => by
    have r := act_any (x := { x with floor := fo }) (c := c) hW hxo2 (hpl3 W hW) ((he.ext hM1o).only hO (by simpa using hM1i _ h.inM.1)) (by rw [hs1]; show s.all.length ≤ 1000000; omega) (by rw [hs1]; exact htb) (fun hk => HZ.out.2.2.2.2 (by have := HZ.out; have := HM.out; omega))
    rw [← hq] at r
    unfold StreamR.val at r
    rw [HD.out] at r
    refine r.mono ?_
    rintro e w' ⟨pv', rfl, hA⟩
    obtain ⟨M', av', hst, hrd, hr⟩ := hA
    obtain ⟨Aq, capq, rfl, _⟩ := hrd.1.openI
    exact ⟨Aq, capq, rfl, M', av', hst, hrd, hr⟩
  have hqx := act_xok hxo2 HZ.out.2.2.2.1
  rw [← hq] at hqx
  have hq10 : q.2.2.all.length ≤ 1000000000 := by
    have q1 := hqx.2.2.2.2.2
    have q2 : s1.all.length = s.all.length := by rw [hs1]
    have := HFew.out
    omega
  have hkp : ∀ W M' av' Aq capq, StAt W M' sb mb av' pf q.2.2 → Rd M' W 1 (.slice Aq q.2.1.places.length capq) q.2.1.places.length (ints q.2.1.places) → Calls Tryz.prog 24 #[.pointer (some ⟨sb, 0, none⟩), .string c.stream, .agg #[.slice Aq q.2.1.places.length capq, .int .i64 q.2.1.mt.maxCount, .int .i64 q.2.1.mt.maxAge, .int .i64 q.2.1.mt.before, .int .i64 q.2.1.floor, .bool q.2.1.deleted]] W fun e w' => e = .returned (.tuple #[]) ∧ (∃ pf', StAt w' M' sb mb av' pf' (q.2.2.keep c.stream q.2.1)) ∧ Only [mb] W w' := fun W M' av' Aq capq hW hR => by
    have r := keep_any (N := 0) hW (by rw [hqx.2.1, hs1]; exact htb) (hq10) hqx.1 c.stream hR
    refine r.mono ?_
    rintro e w' ⟨rfl, h1, h2⟩
    exact ⟨rfl, ⟨_, h1⟩, h2⟩
  have HKp := Lib.hid hkp
  have HFl := Lib.hid hfl
  have HAc := Lib.hid hac
  have HQ := Lib.hid hq
  have HQX := Lib.hid hqx
  have HFo := Lib.hid hfo
  have HM1 := Lib.hid hM1
  have HM1i := Lib.hid hM1i
  have HM1o := Lib.hid hM1o
  have HS1 := Lib.hid hs1
  have HT0 := Lib.hid ht0
  clear hM1i hM1o hq10 hfl hkp hac hq hqx hfo hd hx hfb hxo hxo1 hxo2
  go_enter Tryz.func9, Tryz.ntmps9
  go_wp2_with (go_at_call 20; refine (HCk.out _ (h2 _ _)).mono ?_; rintro e w1 ⟨rfl, ho1⟩)
  clear hs1 ht0 hM1
  obtain ⟨t, ht⟩ : ∃ t, t = max s.now c.time := ⟨_, rfl⟩
  have hmx : (if s.now < c.time then c.time else s.now) = t := by rw [ht]; split <;> omega
  have hmy : (if c.time > s.now then c.time else s.now) = t := hmx
  have HT := Lib.hid ht
  clear ht
  have bC1 := ho1.blk (kC _ _ _) (by simp)
  have bA1 := ho1.blk (kA _ _ _) (by simp)
  have hO1 : Only [] w w1 := (h2 _ _).trans ho1
  have bS1 := hO1.blk h.blk (by simp)
  have C1 := WithinE.cell (E := fun W => W.cell? ⟨sb, 2, none⟩ = some (.int .i64 s.done)) (S := [sb]) (bC1.cell 1) (by simp; omega)
  have D2 := fun p : WithinE [sb] (fun W => W.cell? ⟨sb, 2, none⟩ = some (.int .i64 s.done)) w1 => p.e
  refine wp_region_inE [sb] [0, 1, 2, 3, 4, 6, 7, 9, 10, 11, 12, 13] [5, 8, 14, 15, 16] [17, 18, 19] (fun W => W.cell? ⟨sb, 2, none⟩ = some (.int .i64 s.done)) (bS1.cell 2) (by kernel_rfl) (by kernel_rfl) (by intro c d u a w h; cases d <;> exact h) ?_
  intro hne
  show wpQuiet _ _ _ _ [_, _, _, _, _, _, _, _, _, _, _, _] _
  repeat (go_big_quiet_step (fail))
  refine wpQuiet_nil ?_
  show wpList _ _ _ [_] _ _
  have hSf := fun i => bS1.free i
  have hSc := fun i => bS1.cell i
  have N3 : w1.drew.cell? ⟨sb, 3, none⟩ = some (.int .i64 s.now) := bS1.cell 3
  go_wp2_with fail
  refine check_ofE (S := [sb]) (Only.refl _ _).drew (bS1.cell 2) ?_
  show wpList _ _ _ [_] _ _
  go_wp2_with fail
  refine check_ofE (S := [sb]) (Only.refl _ _).drew (bS1.cell 2) ?_
  show wpList _ _ _ [_] _ _
  go_wp2_with fail
  refine check_ofE (S := [sb]) (Only.refl _ _).drew (bS1.cell 2) ?_
  show wpList _ _ _ [_] _ _
  go_wp2_with fail
  refine check_ofE (S := [sb]) (Only.refl _ _).drew (bS1.cell 2) ?_
  show wpList _ _ _ [_] _ _
  go_wp2_with fail
  refine check_ofE (S := [sb]) (((Only.refl _ _).setCell (.inl (by simp)) _).drew) ((bS1.set 3 _).cell 2) ?_
  show wpList _ _ _ [_, _, _] _ _
  have htt : t = t0 := by rw [HT.out, HT0.out]
  have hO2 := fun u v => ((Only.refl [sb] w1).setCell (p := ⟨sb, 3, none⟩) (.inl (by simp)) u).setCell (p := ⟨sb, 2, none⟩) (.inl (by simp)) v
  have hC2 := fun u v i => ((hO2 u v).blk bC1 (by simp; omega)).cell i
  have hC2' := fun u v i => ((hO2 u v).drew.blk bC1 (by simp; omega)).cell i
  have hb0 := (bS1.set 3 (.int .i64 t)).set 2 (.int .i64 (s.done + 1))
  have hT2 := StAt.ticked h (hO1.of_nil.trans (hO2 (.int .i64 t) (.int .i64 (s.done + 1)))) hb0
  have hT3 := hT2.only0 (Only.refl [] _).drew
  have kA2 := fun u v => (hO2 u v).drew.blk bA1 (by simp; omega)
  subst htt
  have hT4 := StAt.tickedMore h (hO1.of_nil.trans (hO2 (.int .i64 t) (.int .i64 (s.done + 1)))) hb0 (w.heap.size + 1) (by omega) (by have q1 := ho1.size; simp [World.setCell] at q1 ⊢; omega)
  rw [← HM1.out] at hT4
  have hT5 := hT4.only0 (Only.refl [] _).drew
  rw [← HS1.out] at hT4 hT5
  go_wp2_with (first
    | (go_at_call 21; refine (HFd.out _ _ (by first | exact hT3 | exact hT2)).mono ?_; rintro e w2 ⟨rfl, ho2⟩; have hb2 := fun o : Obj => ((Only.refl [] w2).alloc o)
       have hX2 := fun cs t i => (Blk.new w2 t cs).cell i; have hX2f := fun cs t i => (Blk.new w2 t cs).free i)
    | (go_at_call 22; refine (HFl.out _ ((hT5.only0 ho2).only0 (hb2 _))).mono ?_; rintro e w3 ⟨rfl, ho3⟩; have hX3 := fun i => (ho3.blk (Blk.new w2 _ _) (by simp)).cell i; have hX3f := fun i => (ho3.blk (Blk.new w2 _ _) (by simp)).free i
       have hC3 := fun i => (ho3.blk (((Only.refl [] w2).alloc _).blk (ho2.blk ((hO2 _ _).drew.blk bC1 (by simp; omega)) (by simp)) (by simp)) (by simp)).cell i
       have hn3 : w.heap.size ≠ w2.heap.size := by have q1 := ho1.size; have q2 := ho2.size; simp at q1 q2; omega
       have hO3 := fun u => ((((Only.refl [] w2).alloc _).trans ho3).setCell (p := ⟨w2.heap.size, 4, none⟩) (.inr (Nat.le_refl _)) u)
       have hC3' := fun u i => ((((Only.refl [w2.heap.size] w3).setCell (p := ⟨w2.heap.size, 4, none⟩) (.inl (by simp)) u).blk (ho3.blk (((Only.refl [] w2).alloc _).blk (ho2.blk ((hO2 _ _).drew.blk bC1 (by simp; omega)) (by simp)) (by simp)) (by simp)) (by simpa using hn3))).cell i)
    | (go_at_call 23; refine (HAc.out _ ((hT5.only0 ho2).only0 (hO3 _)) (((hO1.of_nil.trans (hO2 _ _)).drew.trans ho2.of_nil).trans (hO3 _).of_nil)).mono ?_; rintro e w4 ⟨Aq, capq, rfl, M', av', hst, hrd, hO4, hin, hnew, hav'⟩
       have hnM : w.heap.size ∉ hM sb mb av := fun q => by have := h.lt _ q; omega
       have hC4 := fun o1 o2 i => ((((Only.refl [] w4).alloc o1).alloc o2).blk (hO4.blk ((((Only.refl [w2.heap.size] w3).setCell (p := ⟨w2.heap.size, 4, none⟩) (.inl (by simp)) _).blk (ho3.blk (((Only.refl [] w2).alloc _).blk (ho2.blk ((hO2 _ _).drew.blk bC1 (by simp; omega)) (by simp)) (by simp)) (by simp)) (by simpa using hn3))) hnM) (by simp)).cell i
       have hY4 := fun o1 cs i => by
         have := (Blk.new (w4.alloc o1) 75 cs).cell i
         rw [World.size_alloc] at this
         exact this)
    | (go_at_call 24; refine (HKp.out _ _ _ _ _ (hst.only0 (((Only.refl [] w4).alloc _).alloc _)) (hrd.only0 (((Only.refl [] w4).alloc _).alloc _))).mono ?_; rintro e w5 ⟨rfl, ⟨pf', hs5⟩, ho5⟩
       have hm4 : w4.heap.size ≠ mb := by have q1 := h.map.lt; have q2 := hO4.size; have q3 := ho3.size; have q4 := ho2.size; have q5 := hO1.size; simp [World.setCell] at q1 q2 q3 q4 q5; omega
       have hnA : w.heap.size + 1 ≠ w2.heap.size := by have q1 := ho1.size; have q2 := ho2.size; simp [World.setCell] at q1 q2; omega
       have hnA2 : w.heap.size + 1 ∉ hM sb mb av := fun q => by have := h.lt _ q; omega
       have hnA3 : w.heap.size + 1 ≠ mb := by have := h.map.lt; omega
       have hB5 := ho5.blk ((((Only.refl [] w4).alloc _).alloc _).blk (hO4.blk ((((Only.refl [w2.heap.size] w3).setCell (p := ⟨w2.heap.size, 4, none⟩) (.inl (by simp)) _).blk (ho3.blk (((Only.refl [] w2).alloc _).blk (ho2.blk (kA2 _ _) (by simp)) (by simp)) (by simp)) (by simpa using hnA))) hnA2) (by simp)) (by simpa using hnA3)
       have hB5c := fun i => hB5.cell i
       have hB5f := fun i => hB5.free i
       have hA5 := fun i => (ho5.blk (((Only.refl [] _).alloc _).blk (Blk.new w4 34 _) (by simp)) (by simpa using hm4)).cell i))
  have hR := HR.out
  subst hR
  have hE : s.do c = (q.1, q.2.2.keep c.stream q.2.1) := by
    unfold MS.do
    rw [if_neg (by rw [HK.out]; decide)]
    dsimp only
    rw [if_neg HM.out]
    have e1 : s.tick c.time = s1 := by
      rw [HS1.out, HT.out]
      rfl
    have e2 : s1.find c.stream = x := by
      rw [HS1.out, HXf.out]
      rfl
    rw [e1, e2, if_neg (by rw [HD.out]; decide), ← HFo.out, ← HQ.out]
  refine bodyPost_ret (v := .agg #[.int .i64 q.1.err, .int .i64 q.1.version, .int .i64 q.1.position, .bool q.1.again]) (by simp [results, Tryz.results9, go_sem, hB5c]) rfl ?_
  rw [hE]
  have hMw : w.heap.size + 1 ∈ M' := hin _ (by rw [HM1.out]; simp)
  have hall := fun u => ((hO1.of_nil.trans (hO2 (.int .i64 t) (.int .i64 (s.done + 1)))).drew.trans ho2.of_nil).trans (S := [sb]) (hO3 u).of_nil
  have hbig : w.heap.size + 1 < w2.heap.size := by have q1 := ho1.size; have q2 := ho2.size; simp [World.setCell] at q1 q2; omega
  have hbig3 : w2.heap.size + 1 ≤ w3.heap.size := by have q1 := ho3.size; simpa using q1
  have hvn : ∀ g, av'.ownBlock = some g → av.ownBlock = some g ∨ w.heap.size + 1 < g := fun g hg => by
    rcases hav' g hg with q | q
    · exact .inl q
    · simp [World.setCell] at q
      exact .inr (by omega)
  refine ⟨rfl, M', av', pf', hs5.only (S := [w.heap.size + 1]) ?ho (by simpa using hMw) (fun g hg => ?hg), ?hw, fun g hg => hin _ (HM1i.out g hg), fun g hg => ?hn, fun g hg => ?hv⟩
  case ho =>
    iterate 4 (refine Only.setCell ?_ (.inl (by simp)) _)
    exact Only.refl _ _
  case hw =>
    iterate 4 (refine Only.setCell ?_ (.inr (by simp <;> omega)) _)
    exact (((((hall _).mono (by simp [hM])).trans hO4).alloc _).alloc _).trans (ho5.mono (by simp [hM]))
  case hg =>
    simp only [hM, List.mem_cons, Option.mem_toList] at hg
    simp only [List.mem_singleton]
    rcases hg with rfl | rfl | hg
    · omega
    · exact fun e => hnA3 e.symm
    · rcases hvn g hg with q | q
      · have := h.own_lt g q
        omega
      · omega
  case hn =>
    rcases hnew g hg with q | q
    · exact HM1o.out g q
    · simp [World.setCell] at q
      exact .inr (by omega)
  case hv =>
    rcases hvn g hg with q | q
    · exact .inl q
    · exact .inr (by omega)
/-- Do, of whatever state and command. -/
theorem do_any {w : World} {M : List Nat} {sb mb N : Nat} {av ev : Value} {pf : ByteArray → Value} {s : MS} {c : Cmd} (h : StAt w M sb mb av pf s) (hs : s.Ok N) (hN : N ≤ 100000) (hc : CmdOk c)
    (he : Rd M w 4 ev c.events.length (c.events.flatMap EventR.cells)) :
    Calls Tryz.prog 9 #[.pointer (some ⟨sb, 0, none⟩), c.val ev] w fun e w' => e = .returned (s.do c).1.val ∧ StLeads w M sb mb av (s.do c).2 w' := by
  by_cases hk : c.check = 0
  · by_cases hm : c.kind = 4 ∨ c.kind = 5
    · exact do_mark h hs hN hc he hk hm
    · cases hd : (s.find c.stream).deleted
      · exact do_act h hs hN hc he hk hm hd
      · exact do_gone h hs hN hc he hk hm hd
  · exact do_bad h hs hN hc he hk
end
section
open Go.RowKit
theorem aput_mem {κ ν : Type} [DecidableEq κ] {l : List (κ × ν)} {k : κ} {v : ν} {p : κ × ν} (h : p ∈ aput l k v) : p = (k, v) ∨ p ∈ l := by
  induction l with
  | nil => simp [aput] at h; exact .inl h
  | cons q l ih =>
    obtain ⟨a, b⟩ := q
    simp only [aput] at h
    split at h
    · simp only [List.mem_cons] at h ⊢
      rcases h with h | h
      · exact .inl h
      · exact .inr (.inr h)
    · simp only [List.mem_cons] at h ⊢
      rcases h with h | h
      · exact .inr (.inl h)
      · exact (ih h).imp id .inr
namespace MS
variable {s : MS} {N : Nat} {c : Cmd}
theorem Ok.more (h : s.Ok N) {N' : Nat} (hn : N ≤ N') : s.Ok N' :=
  ⟨h.now, ⟨h.done.1, by have := h.done.2; omega⟩, by have := h.all; omega, h.st⟩
theorem Ok.tick (h : s.Ok N) {t : Int} (ht : 0 ≤ t ∧ t ≤ 1099511627776) : (s.tick t).Ok (N + 1) :=
  ⟨by show 0 ≤ max s.now t ∧ max s.now t ≤ _; have := h.now; omega, by show 0 ≤ s.done + 1 ∧ s.done + 1 ≤ _; have := h.done; omega, by show s.all.length ≤ _; have := h.all; omega, h.st⟩
theorem new_ok : MS.new.Ok 0 := ⟨by decide, by decide, by decide, fun n x hx => by cases hx⟩
theorem do_ok (h : s.Ok N) (c : Cmd) : (s.do c).2.Ok (N + 1) := by
  unfold MS.do
  split
  · exact h.more (Nat.le_succ _)
  · rename_i hk
    have hk : c.check = 0 := by simpa using hk
    have hz := check_zero hk
    have hf := check_few hk
    have ht := h.tick (t := c.time) hz.2.2.1
    have hal : (s.tick c.time).all.length = s.all.length := rfl
    dsimp only
    split
    · exact ht
    · split
      · exact ht
      · have hx := ht.xok c.stream
        have hb := floorOf_bd (s.tick c.time) ((s.tick c.time).find c.stream)
        have hx2 : XOk (s.tick c.time) { (s.tick c.time).find c.stream with floor := (s.tick c.time).floorOf ((s.tick c.time).find c.stream) } := ⟨hx.mt, hb, hx.pl, hx.few⟩
        have ha := act_xok (c := c) hx2 hz.2.2.2.1
        generalize (s.tick c.time).act c { (s.tick c.time).find c.stream with floor := (s.tick c.time).floorOf ((s.tick c.time).find c.stream) } = r at ha
        obtain ⟨a, y, s2⟩ := r
        obtain ⟨h1, h2, h3, h4, h5, h6⟩ := ha
        dsimp only at h1 h2 h3 h4 h5 h6 ⊢
        refine ⟨?_, ?_, ?_, fun n x hx => ?_⟩
        · show 0 ≤ s2.now ∧ s2.now ≤ _
          rw [h2]
          exact ht.now
        · show 0 ≤ s2.done ∧ s2.done ≤ _
          rw [h4]
          exact ht.done
        · show s2.all.length ≤ _
          have := h.all
          omega
        · have hx' : (n, x) ∈ aput s2.m c.stream { y with floor := s2.floorOf y } := hx
          show _ ∧ _ ∧ _ ∧ x.places.length ≤ s2.all.length ∧ ∀ p ∈ x.places, 0 ≤ p ∧ p < s2.all.length
          rcases aput_mem hx' with q | q
          · cases q
            have hb2 := floorOf_bd s2 y
            exact ⟨h1.mt, hb2.1, hb2.2, h1.few, h1.pl⟩
          · rw [h3] at q
            obtain ⟨e1, e2, e3, e4, e5⟩ := ht.st n x q
            refine ⟨e1, e2, e3, by omega, fun p hp => ?_⟩
            have := e5 p hp
            omega
end MS
end
section
open Go.RowKit
def MS.floorS (s : MS) (n : ByteArray) : Int := s.floorOf (s.find n)
theorem fld1 (W : World) (a b c d e f : Value) : Sem.run Tryz.prog (Instr.field 75 (.agg #[a, b, c, d, e, f]) 1) W = .ok (.agg #[b, c, d]) W := by kernel_rfl
theorem fld3 (W : World) (a b c d e f : Value) : Sem.run Tryz.prog (Instr.field 75 (.agg #[a, b, c, d, e, f]) 3) W = .ok f W := by kernel_rfl
set_option maxRecDepth 100000 in
theorem newS_any (w : World) (pf : ByteArray → Value) : Calls Tryz.prog 8 #[] w fun e w' => e = .returned (.pointer (some ⟨w.heap.size + 1, 0, none⟩)) ∧ StAt w' [w.heap.size + 1, w.heap.size] (w.heap.size + 1) w.heap.size (.slice none 0 0) pf MS.new ∧ Only [] w w' := by
  have hmm := @run_makeMap Tryz.prog
  go_enter Tryz.func8, Tryz.ntmps8
  go_wp2
  go_ret
  refine ⟨rfl, ⟨?_, World.ownsRow_nil _ _ _ _, (MapIs.new Value.string w).alloc _, (fun n x hx => by simp [MS.new] at hx), ⟨by simp, by simp, (fun g hg => by cases hg)⟩, (fun g hg => ?_)⟩, ((Only.refl [] w).alloc _).alloc _⟩
  · have := Blk.new (w.alloc (.map #[] 0)) 72 #[.slice none 0 0, .map (some w.heap.size), .int .i64 0, .int .i64 0]
    simpa [MS.new] using this
  · simp at hg ⊢
    omega
section
variable {w : World} {M : List Nat} {sb mb N : Nat} {av : Value} {pf : ByteArray → Value} {s : MS}
set_option maxRecDepth 100000 in
theorem lenS_any (h : StAt w M sb mb av pf s) : Calls Tryz.prog 142 #[.pointer (some ⟨sb, 0, none⟩)] w fun e w' => e = .returned (.int .i64 s.all.length) ∧ w = w' := by
  obtain ⟨A2, cap2, rfl, hnc2, hcm2, hel2⟩ := h.cell
  unfold maxLen at hcm2
  have c0 : w.cell? ⟨sb, 0, none⟩ = some (.slice A2 s.all.length cap2) := h.blk.cell 0
  clear hel2
  go_enter Tryz.func142, Tryz.ntmps142
  go_wp2
  go_ret
  exact ⟨rfl, rfl⟩
set_option maxRecDepth 100000 in
theorem findv (h : StAt w M sb mb av pf s) (n : ByteArray) : ∃ A cap, pvOf s pf n = .slice A (s.find n).places.length cap ∧ cap ≤ maxLen ∧ ∀ W, Only [] w W → Calls Tryz.prog 21 #[.pointer (some ⟨sb, 0, none⟩), .string n] W fun e w' => e = .returned (.agg #[.slice A (s.find n).places.length cap, .int .i64 (s.find n).mt.maxCount, .int .i64 (s.find n).mt.maxAge, .int .i64 (s.find n).mt.before, .int .i64 (s.find n).floor, .bool (s.find n).deleted]) ∧ Only [] W w' := by
  obtain ⟨A, cap, hpv, h1, h2, _⟩ := (h.rd n).1.openI
  refine ⟨A, cap, hpv, h2, fun W hW => ?_⟩
  have := find_any (h.only0 hW) n
  rw [hpv] at this
  exact this
set_option maxRecDepth 100000 in
theorem deletedS_any (h : StAt w M sb mb av pf s) (n : ByteArray) : Calls Tryz.prog 38 #[.pointer (some ⟨sb, 0, none⟩), .string n] w fun e w' => e = .returned (.bool (s.find n).deleted) ∧ Only [] w w' := by
  obtain ⟨A, cap, _, hcm, hf⟩ := findv h n
  have HF := Lib.hid hf
  clear hf
  have hq := fld3
  go_enter Tryz.func38, Tryz.ntmps38
  go_wp2_with (go_at_call 21; refine (HF.out _ (Only.refl _ _)).mono ?_; rintro e w1 ⟨rfl, ho1⟩)
  go_ret
  exact ⟨rfl, ho1⟩
set_option maxRecDepth 100000 in
theorem metaOfS_any (h : StAt w M sb mb av pf s) (n : ByteArray) : Calls Tryz.prog 39 #[.pointer (some ⟨sb, 0, none⟩), .string n] w fun e w' => e = .returned (s.find n).mt.val ∧ Only [] w w' := by
  obtain ⟨A, cap, _, hcm, hf⟩ := findv h n
  have HF := Lib.hid hf
  unfold MetaR.val
  clear hf
  have hq := fld1
  go_enter Tryz.func39, Tryz.ntmps39
  go_wp2_with (go_at_call 21; refine (HF.out _ ((Only.refl _ _).alloc _)).mono ?_; rintro e w1 ⟨rfl, ho1⟩
               have hf := fun i => (ho1.blk (Blk.new w 38 _) (by simp)).free i
               have hc := fun i => (ho1.blk (Blk.new w 38 _) (by simp)).cell i)
  refine bodyPost_ret (v := .agg #[.int .i64 (s.find n).mt.maxCount, .int .i64 (s.find n).mt.maxAge, .int .i64 (s.find n).mt.before]) (by simp [results, Tryz.results39, go_sem, hc]) rfl ⟨rfl, ?hw⟩
  case hw =>
    iterate 3 (refine Only.setCell ?_ (.inr (Nat.le_refl _)) _)
    exact ((Only.refl [] w).alloc _).trans ho1
set_option maxRecDepth 100000 in
theorem floorS_any (h : StAt w M sb mb av pf s) (hs : s.Ok N) (hN : N ≤ 100000) (n : ByteArray) : Calls Tryz.prog 37 #[.pointer (some ⟨sb, 0, none⟩), .string n] w fun e w' => e = .returned (.int .i64 (s.floorS n)) ∧ Only [] w w' := by
  obtain ⟨A, cap, hpv, hcm, hf⟩ := findv h n
  have hx := hs.xok n
  have hal := hs.all
  have hfl : ∀ W, Only [] w W → Calls Tryz.prog 22 #[.pointer (some ⟨sb, 0, none⟩), .agg #[.slice A (s.find n).places.length cap, .int .i64 (s.find n).mt.maxCount, .int .i64 (s.find n).mt.maxAge, .int .i64 (s.find n).mt.before, .int .i64 (s.find n).floor, .bool (s.find n).deleted]] W fun e w' => e = .returned (.int .i64 (s.floorS n)) ∧ Only [] W w' := fun W hW => by
    have hW' := h.only0 hW
    have hr := (hW'.rd n).1
    rw [hpv] at hr
    exact floorOf_any (x := s.find n) hW' hs.now hr hx.pl (by have := hx.few; omega) hx.mt hx.fl
  have HF := Lib.hid hf
  have HG := Lib.hid hfl
  clear hf hfl hpv hx hal hcm
  go_enter Tryz.func37, Tryz.ntmps37
  go_wp2_with (first
    | (go_at_call 21; refine (HF.out _ (Only.refl _ _)).mono ?_; rintro e w1 ⟨rfl, ho1⟩)
    | (go_at_call 22; go_loud (refine (HG.out _ ho1).mono ?_; rintro e w2 ⟨rfl, ho2⟩)))
  go_ret
  exact ⟨rfl, ho1.trans ho2⟩
end
/-! ## of a nil state -/
end
section
open Go.RowKit
structure PageR where
  events : List StoredR
  next : Int
  isEnd : Bool
def PageR.zero : PageR := ⟨[], 0, false⟩
def wrongP (f n : Int) : Bool := decide (f < 0) || decide (n < 1) || decide (n > 100)
def fwdGo (key : StoredR → Int) (f n : Int) : List StoredR → List StoredR → Int → PageR
  | [], acc, nx => ⟨acc, nx, true⟩
  | s :: l, acc, nx => if key s < f then fwdGo key f n l acc nx else if (acc.length : Int) = n then ⟨acc, nx, false⟩ else fwdGo key f n l (acc ++ [s]) (key s + 1)
def forwardBy (key : StoredR → Int) (l : List StoredR) (f n : Int) : PageR × Int := if wrongP f n then (PageR.zero, 1) else (fwdGo key f n l [] f, 0)
theorem fwdGo_drop (key : StoredR → Int) (f n : Int) (l : List StoredR) (k : Nat) (h : k < l.length) (acc : List StoredR) (nx : Int) :
    fwdGo key f n (l.drop k) acc nx = if key l[k] < f then fwdGo key f n (l.drop (k + 1)) acc nx else if (acc.length : Int) = n then ⟨acc, nx, false⟩ else fwdGo key f n (l.drop (k + 1)) (acc ++ [l[k]]) (key l[k] + 1) := by
  rw [List.drop_eq_getElem_cons h]
  rfl
set_option maxRecDepth 100000 in
theorem version_any (s : StoredR) (w : World) : Calls Tryz.prog 115 #[.agg #[.int .i64 s.ev.id, .string s.ev.type, .string s.ev.data, .float .f64 s.ev.value, .string s.stream, .int .i64 s.version, .int .i64 s.position, .int .i64 s.time]] w fun e w' => e = .returned (.int .i64 s.version) ∧ Only [] w w' := by
  go_enter Tryz.func115, Tryz.ntmps115
  go_wp2
  go_ret
  exact ⟨rfl, (Only.refl [] w).alloc _⟩
set_option maxRecDepth 100000 in
theorem position_any (s : StoredR) (w : World) : Calls Tryz.prog 143 #[.agg #[.int .i64 s.ev.id, .string s.ev.type, .string s.ev.data, .float .f64 s.ev.value, .string s.stream, .int .i64 s.version, .int .i64 s.position, .int .i64 s.time]] w fun e w' => e = .returned (.int .i64 s.position) ∧ Only [] w w' := by
  go_enter Tryz.func143, Tryz.ntmps143
  go_wp2
  go_ret
  exact ⟨rfl, (Only.refl [] w).alloc _⟩
theorem vwrong_any (f n : Int) (w : World) : Calls Tryz.prog 144 #[.int .i64 f, .int .i64 n] w fun e w' => e = .returned (.bool (wrongP f n)) ∧ w = w' := by
  by_cases h1 : f < 0
  · go_enter Tryz.func144, Tryz.ntmps144
    go_wp2
    go_ret
    exact ⟨ret_b (by simp [wrongP, h1]), rfl⟩
  · by_cases h2 : n < 1
    · go_enter Tryz.func144, Tryz.ntmps144
      go_wp2
      go_ret
      exact ⟨ret_b (by simp [wrongP]; omega), rfl⟩
    · go_enter Tryz.func144, Tryz.ntmps144
      go_wp2
      go_ret
      exact ⟨ret_b (by simp [wrongP]; omega), rfl⟩
theorem vnext_any (n : Int) (hn : 0 ≤ n ∧ n ≤ 1000000000000) (w : World) : Calls Tryz.prog 146 #[.int .i64 n] w fun e w' => e = .returned (.int .i64 (n + 1)) ∧ w = w' := by
  have h1 : (n == 9223372036854775807) = false := by rw [beq_eq_false_iff_ne]; omega
  go_enter Tryz.func146, Tryz.ntmps146
  go_wp2
  go_ret
  exact ⟨rfl, rfl⟩
/-- What stands at the head of a round of a page. -/
structure PgAt (w wr : World) (pb : Nat) (pv : Value) (acc : List StoredR) (nx : Int) : Prop where
  only : Only [] w wr
  blkR : Blk wr w.heap.size 57 #[.slice none 0 0, .int .i64 0, .bool false]
  blkP : Blk wr pb 57 #[pv, .int .i64 nx, .bool true]
  own : wr.ownsRow w.heap.size 92 8 pv acc.length (acc.flatMap StoredR.cells)
theorem PgAt.only0 {w wr w' : World} {pb : Nat} {pv : Value} {acc : List StoredR} {nx : Int} (h : PgAt w wr pb pv acc nx) (k : Only [] wr w') : PgAt w w' pb pv acc nx :=
  ⟨h.only.trans k, k.blk h.blkR (by simp), k.blk h.blkP (by simp), own_only h.own k (by simp)⟩
theorem PgAt.nown {w wr : World} {pb : Nat} {pv : Value} {acc : List StoredR} {nx : Int} (h : PgAt w wr pb pv acc nx) : ∀ g, pv.ownBlock = some g → g ≠ w.heap.size ∧ g ≠ pb := fun g hg => by
  obtain ⟨cur, hcur⟩ := own_type h.own hg
  exact ⟨hcur.other h.blkR (by decide), hcur.other h.blkP (by decide)⟩
theorem flat_snoc {E : Type} (cells : E → List Value) (l : List E) (x : E) : (l ++ [x]).flatMap cells = l.flatMap cells ++ cells x := by simp
/-- What a page's call leaves. -/
def PageOut (w : World) (key : StoredR → Int) (l : List StoredR) (f n : Int) (r : PageR × Int) (e : Ending) (w' : World) : Prop :=
  ∃ pv, e = .returned (.tuple #[.agg #[pv, .int .i64 r.1.next, .bool r.1.isEnd], .int .i64 r.2]) ∧ w'.ownsRow w.heap.size 92 8 pv r.1.events.length (r.1.events.flatMap StoredR.cells) ∧ Only [] w w'
set_option maxRecDepth 100000 in
set_option maxHeartbeats 4000000 in
theorem forwardV_any {w : World} {v : Value} {l : List StoredR} {f n : Int} (hl : Slc w 8 v l.length (l.flatMap StoredR.cells)) (hb : l.length ≤ 1000000) (hk : ∀ s ∈ l, 0 ≤ StoredR.version s ∧ StoredR.version s ≤ 1000000000) :
    Calls Tryz.prog 117 #[.func (.func 115) #[] #[], v, .int .i64 f, .int .i64 n] w (PageOut w StoredR.version l f n (forwardBy StoredR.version l f n)) := by
  obtain ⟨A, cap, rfl, hnc, hcm, hel⟩ := hl.openE StoredR.cells (fun _ => rfl)
  obtain ⟨j0, hj, hy0, hy1, hy2⟩ := info_parts infoSt
  unfold maxLen at hcm
  cases hw : wrongP f n with
  | true =>
    have HW := Lib.hid hw
    have HV := Lib.hid (fun W => vwrong_any f n W)
    rw [hw] at HV
    clear hel hw
    have hR : forwardBy StoredR.version l f n = (PageR.zero, 1) := by unfold forwardBy; rw [HW.out]; rfl
    rw [hR]
    clear hR
    go_enter Tryz.func117, Tryz.ntmps117
    go_wp2_with (go_at_call 144; refine (HV.out _).mono ?_; rintro e w1 ⟨rfl, rfl⟩)
    exact bodyPost_ret (v := .tuple #[.agg #[.slice none 0 0, .int .i64 0, .bool false], .int .i64 1]) (by simp [results, Tryz.results117, go_sem]) rfl ⟨_, rfl, World.ownsRow_nil _ _ _ _, (Only.refl [] w).alloc _⟩
  | false =>
    have HW := Lib.hid hw
    have HV := Lib.hid (fun W => vwrong_any f n W)
    rw [hw] at HV
    have hn : 1 ≤ n ∧ n ≤ 100 := by simp [wrongP] at hw; omega
    clear hw
    have hR : forwardBy StoredR.version l f n = (fwdGo StoredR.version f n l [] f, 0) := by unfold forwardBy; rw [HW.out]; rfl
    rw [hR]
    clear hR
    obtain ⟨R, hR⟩ : ∃ R, R = fwdGo StoredR.version f n l [] f := ⟨_, rfl⟩
    rw [← hR]
    have HR := Lib.hid hR
    clear hR
    go_enter Tryz.func117, Tryz.ntmps117
    go_wp2_with (go_at_call 144; refine (HV.out _).mono ?_; rintro e w1 ⟨rfl, rfl⟩)
    go_loopw [21] (fun i wr => ∃ (k : Nat) (pv : Value) (acc : List StoredR) (nx : Int), k ≤ l.length ∧ acc.length ≤ k ∧ i = .int .i64 k ∧ Hid (R = fwdGo StoredR.version f n (l.drop k) acc nx) ∧ PgAt w wr (w.heap.size + 1) pv acc nx) (fun i _ => l.length - (intOf i).toNat)
    case atStart =>
      refine ⟨0, .slice none 0 0, [], f, Nat.zero_le _, Nat.le_refl _, rfl, HR, ((Only.refl [] w).alloc _).alloc _, ((Only.refl [] _).alloc _).blk (Blk.new w _ _) (by simp), ?_, World.ownsRow_nil _ _ _ _⟩
      have := Blk.new (w.alloc (.cells #[.slice none 0 0, .int .i64 0, .bool false] 57)) 57 #[.slice none 0 0, .int .i64 f, .bool true]
      simpa using this
    case round =>
      obtain ⟨k, pv, acc, nx, hkl, hak, rfl, HR, hP⟩ := hrel
      obtain ⟨Ap, capp, rfl, hap1, hap2⟩ := own_form hP.own
      have hbR := fun i => hP.blkR.cell i
      have hbRf := fun i => hP.blkR.free i
      have hbP := fun i => hP.blkP.cell i
      have hbPf := fun i => hP.blkP.free i
      by_cases hlt : k < l.length
      · obtain ⟨b, off, rfl, hbb, hcc⟩ := hel k hlt
        have hd := fwdGo_drop StoredR.version f n l k hlt acc nx
        have hks := hk _ (List.getElem_mem hlt)
        obtain ⟨s, hs⟩ : ∃ s, s = l[k] := ⟨_, rfl⟩
        rw [← hs] at hd hcc hks
        have c0 : wr.cell? ⟨b, off + k * 8, none⟩ = some (.int .i64 s.ev.id) := (hP.only.cell hbb (by simp)).trans (hcc 0 (by omega))
        have c1 : wr.cell? ⟨b, off + k * 8 + 1, none⟩ = some (.string s.ev.type) := (hP.only.cell hbb (by simp)).trans (hcc 1 (by omega))
        have c2 : wr.cell? ⟨b, off + k * 8 + 2, none⟩ = some (.string s.ev.data) := (hP.only.cell hbb (by simp)).trans (hcc 2 (by omega))
        have c3 : wr.cell? ⟨b, off + k * 8 + 3, none⟩ = some (.float .f64 s.ev.value) := (hP.only.cell hbb (by simp)).trans (hcc 3 (by omega))
        have c4 : wr.cell? ⟨b, off + k * 8 + 4, none⟩ = some (.string s.stream) := (hP.only.cell hbb (by simp)).trans (hcc 4 (by omega))
        have c5 : wr.cell? ⟨b, off + k * 8 + 5, none⟩ = some (.int .i64 s.version) := (hP.only.cell hbb (by simp)).trans (hcc 5 (by omega))
        have c6 : wr.cell? ⟨b, off + k * 8 + 6, none⟩ = some (.int .i64 s.position) := (hP.only.cell hbb (by simp)).trans (hcc 6 (by omega))
        have c7 : wr.cell? ⟨b, off + k * 8 + 7, none⟩ = some (.int .i64 s.time) := (hP.only.cell hbb (by simp)).trans (hcc 7 (by omega))
        have hKC := Lib.hid (fun W => version_any s W)
        obtain ⟨ky, hky⟩ : ∃ ky, ky = StoredR.version s := ⟨_, rfl⟩
        have HKY := Lib.hid hky
        have hsf := stF
        clear hcc
        by_cases h1 : StoredR.version s < f
        · have HN : Hid (R = fwdGo StoredR.version f n (l.drop (k + 1)) acc nx) := by
            unfold Hid
            rw [HR.out, hd, if_pos h1]
          have HP := Lib.hid hP
          clear hd hP HR hs hel
          go_wp2_with (go_at_call 115; refine (hKC.out _).mono ?_; rintro e w2 ⟨rfl, ho2⟩)
          exact ⟨⟨k + 1, _, acc, nx, hlt, by omega, by simp, HN, HP.out.only0 (((Only.refl [] _).alloc _).trans ho2)⟩, by simp [intOf]; omega⟩
        · by_cases h2 : (acc.length : Int) = n
          · have HN : R = ⟨acc, nx, false⟩ := by
              rw [HR.out, hd, if_neg h1, if_pos h2]
            have h2b : ((acc.length : Int) == n) = true := by rw [beq_iff_eq]; exact h2
            subst HN
            have HP := Lib.hid hP
            clear hd hP HR hs hel
            go_wp2_with (go_at_call 115; refine (hKC.out _).mono ?_; rintro e w2 ⟨rfl, ho2⟩
                         have hP2 := HP.out.only0 (((Only.refl [] _).alloc _).trans ho2)
                         have d1 := fun i => hP2.blkP.cell i
                         have d2 := fun i => hP2.blkP.free i
                         have d3 := fun u v i => (((Only.refl [w.heap.size + 1] w2).setCell (p := ⟨w.heap.size + 1, u, none⟩) (.inl (by simp)) v).blk hP2.blkR (by simp)).cell i
                         have d4 := fun u v i => (((Only.refl [w.heap.size + 1] w2).setCell (p := ⟨w.heap.size + 1, u, none⟩) (.inl (by simp)) v).blk hP2.blkR (by simp)).free i)
            refine bodyPost_ret (v := .tuple #[.agg #[.slice Ap acc.length capp, .int .i64 nx, .bool false], .int .i64 0]) (by simp [results, Tryz.results117, go_sem, d3]) rfl ⟨_, rfl, ?own, ?only⟩
            case own =>
              refine own_only hP2.own (S := [w.heap.size, w.heap.size + 1]) ?_ (fun g hg => by have := hP2.nown g hg; simp; omega)
              iterate 4 (refine Only.setCell ?_ (.inl (by simp)) _)
              exact Only.refl _ _
            case only =>
              iterate 4 (refine Only.setCell ?_ (.inr (by simp)) _)
              exact hP2.only
          · have h2b : ((acc.length : Int) == n) = false := by rw [beq_eq_false_iff_ne]; exact h2
            have HN : Hid (R = fwdGo StoredR.version f n (l.drop (k + 1)) (acc ++ [s]) (StoredR.version s + 1)) := by
              unfold Hid
              rw [HR.out, hd, if_neg h1, if_neg h2]
            have HNX := Lib.hid (fun W => vnext_any (StoredR.version s) ⟨by omega, by omega⟩ W)
            have hakb : acc.length + 1 ≤ 1000001 := by omega
            have HP := Lib.hid hP
            clear hd hP HR hs hel
            go_wp2_with (go_at_call 115; refine (hKC.out _).mono ?_; rintro e w2 ⟨rfl, ho2⟩
                         have hP2 := HP.out.only0 (((Only.refl [] _).alloc _).trans ho2)
                         have d1 := fun i => hP2.blkP.cell i
                         have d2 := fun i => hP2.blkP.free i
                         have hB := ho2.blk (Blk.new wr _ _) (by simp))
            have hlw : wr.heap.size < w2.heap.size := by have := ho2.size; simp at this; omega
            have hrw := HP.out.only.size
            obtain ⟨So, hSo⟩ : ∃ So, So = (Value.slice Ap acc.length capp).ownBlock.toList := ⟨_, rfl⟩
            have hSn : ∀ g ∈ So, w.heap.size ≤ g ∧ g ≠ w.heap.size ∧ g ≠ w.heap.size + 1 ∧ g < wr.heap.size := by
              intro g hg
              rw [hSo] at hg
              have hg' : (Value.slice Ap acc.length capp).ownBlock = some g := by simpa using hg
              have h3 := HP.out.nown g hg'
              have h4 := HP.out.own.lt g hg'
              exact ⟨h4.1, h3.1, h3.2, h4.2⟩
            have nP : w.heap.size + 1 ∉ So := fun q => (hSn _ q).2.2.1 rfl
            have nR : w.heap.size ∉ So := fun q => (hSn _ q).2.1 rfl
            have nB : wr.heap.size ∉ So := fun q => Nat.lt_irrefl _ (hSn _ q).2.2.2
            have F0 := Within.cell (S := So) (hP2.blkP.cell 0) nP
            have G0 := Within.cell (S := So) (hB.cell 0) nB
            have G1 := Within.cell (S := So) (hB.cell 1) nB
            have G2 := Within.cell (S := So) (hB.cell 2) nB
            have G3 := Within.cell (S := So) (hB.cell 3) nB
            have G4 := Within.cell (S := So) (hB.cell 4) nB
            have G5 := Within.cell (S := So) (hB.cell 5) nB
            have G6 := Within.cell (S := So) (hB.cell 6) nB
            have G7 := Within.cell (S := So) (hB.cell 7) nB
            refine wp_region_in2 So [0, 1, 2, 5, 6] [3, 4] [9] [7, 8] [10, 11, 12] (by kernel_rfl) (by kernel_rfl) (by intro c d u a w h; cases d <;> exact h) ?_
            show wpQuiet _ _ _ _ [_, _, _, _, _] _
            repeat (go_big_quiet_step (fail))
            refine wpQuiet_nil ?_
            show wpList _ _ _ [_] _ _
            go_wp2_with fail
            refine check_of (S := So) (((Only.refl So w2).alloc _).drew) ?_
            show wpList _ _ _ [_] _ _
            have hOw : ∀ o, Only [] w2 (w2.alloc o).drew := fun o => ((Only.refl [] w2).alloc o).drew
            have hown0 := fun o => own_only hP2.own (hOw o) (by simp)
            have hnb := Blk.new w2 92 #[.int .i64 s.ev.id, .string s.ev.type, .string s.ev.data, .float .f64 s.ev.value, .string s.stream, .int .i64 s.version, .int .i64 s.position, .int .i64 s.time]
            have hnb' : Blk (w2.alloc (.cells #[.int .i64 s.ev.id, .string s.ev.type, .string s.ev.data, .float .f64 s.ev.value, .string s.stream, .int .i64 s.version, .int .i64 s.position, .int .i64 s.time] 92)).drew w2.heap.size 92 #[.int .i64 s.ev.id, .string s.ev.type, .string s.ev.data, .float .f64 s.ev.value, .string s.stream, .int .i64 s.version, .int .i64 s.position, .int .i64 s.time] := hnb
            refine wpList_append_lies rfl (.tmp 26) (.tmp 28) 28 rfl w.heap.size 92 j0 (.agg #[.int .i64 0, .string ⟨#[]⟩, .string ⟨#[]⟩, .float .f64 0, .string ⟨#[]⟩, .int .i64 0, .int .i64 0, .int .i64 0]) 8 88 Tryz.underlying28 hj hy0 hy1 hy2 rfl (by decide) (.slice Ap acc.length capp) acc.length _ rfl (hown0 _) ⟨w2.heap.size, 0, none⟩ 1 1 [.int .i64 s.ev.id, .string s.ev.type, .string s.ev.data, .float .f64 s.ev.value, .string s.stream, .int .i64 s.version, .int .i64 s.position, .int .i64 s.time] rfl rfl (news_blk hnb') ?c2 (by decide) ?c3 ?c4 ?c5 ?_
            case c2 => simp [Value.oneCell']
            case c3 => unfold maxLen; omega
            case c4 => omega
            case c5 => have := hP2.only.size; simp; omega
            intro g4 cap4 w4 hown4 hgrow4 hlie4 hg4
            have ho24 : Only So w2 w4 := (((Only.refl So w2).alloc _).drew).grown hgrow4 (fun g hg => .inl (by rw [hSo, hg]; simp))
            have hP4 : Blk w4 (w.heap.size + 1) 57 #[.slice Ap acc.length capp, .int .i64 nx, .bool true] := ho24.blk hP2.blkP nP
            have hR4 : Blk w4 w.heap.size 57 #[.slice none 0 0, .int .i64 0, .bool false] := ho24.blk hP2.blkR nR
            clear hgrow4 hlie4 F0 G0 G1 G2 G3 G4 G5 G6 G7 hnb hnb' hown0
            refine wpList_nil ?_
            refine check_of ho24 ?_
            show wpQuiet _ _ _ _ [_] _
            go_frame
            repeat (go_big_quiet_step (fail))
            refine wpQuiet_nil ?_
            show wpList _ _ _ [_] _ _
            go_wp2_with (go_at_call 115; refine (hKC.out _).mono ?_; rintro e w5 ⟨rfl, ho5⟩)
            refine check_of (ho24.trans ho5.of_nil) ?_
            show wpList _ _ _ [_] _ _
            go_wp2_with (go_at_call 146; refine (HNX.out _).mono ?_; rintro e w6 ⟨rfl, rfl⟩)
            refine check_of (ho24.trans ho5.of_nil) ?_
            show wpList _ _ _ [_, _, _] _ _
            have hP5 := ho5.blk hP4 (by simp)
            have e1 := fun i => hP5.cell i
            have e2 := fun i => hP5.free i
            have hOs : ∀ u v, Only [w.heap.size + 1] w5 ((w5.setCell ⟨w.heap.size + 1, 0, none⟩ u).setCell ⟨w.heap.size + 1, 1, none⟩ v) := fun u v => ((Only.refl _ w5).setCell (.inl (by simp)) u).setCell (.inl (by simp)) v
            have hNext : ∀ v, PgAt w ((w5.setCell ⟨w.heap.size + 1, 0, none⟩ (.slice (some ⟨g4, 0, none⟩) (acc.length + 1) cap4)).setCell ⟨w.heap.size + 1, 1, none⟩ (.int .i64 v)) (w.heap.size + 1) (.slice (some ⟨g4, 0, none⟩) (acc.length + 1) cap4) (acc ++ [s]) v := fun v => by
              refine ⟨(hP2.only.step (ho24.trans ho5.of_nil) (fun g hg => .inr (hSn g hg).1)).step (hOs _ _) (fun g hg => by simp at hg; right; omega), (hOs _ _).blk (ho5.blk hR4 (by simp)) (by simp), (hP5.set 0 _).set 1 _, ?_⟩
              have q := own_only (own_only hown4 ho5 (by simp)) (hOs (.slice (some ⟨g4, 0, none⟩) (acc.length + 1) cap4) (.int .i64 v)) (fun g hg => by
                cases hg
                obtain ⟨cur, hcur⟩ := own_type hown4 (g := g4) rfl
                simp
                exact hcur.other hP4 (by decide))
              rw [flat_snoc, List.length_append]
              exact q
            have HNext := Lib.hid hNext
            clear hNext
            go_wp2
            exact ⟨⟨k + 1, _, acc ++ [s], _, hlt, by simp; omega, by simp, HN, HNext.out _⟩, by simp [intOf]; omega⟩
      · have hkn : R = ⟨acc, nx, true⟩ := by
          rw [HR.out, List.drop_of_length_le (by omega)]
          rfl
        subst hkn
        have HP := Lib.hid hP
        clear hP HR hel
        go_wp2
        refine bodyPost_ret (v := .tuple #[.agg #[.slice Ap acc.length capp, .int .i64 nx, .bool true], .int .i64 0]) (by simp [results, Tryz.results117, go_sem, hbR]) rfl ⟨_, rfl, ?own, ?only⟩
        case own =>
          refine own_only HP.out.own (S := [w.heap.size]) ?_ (fun g hg => by simpa using (HP.out.nown g hg).1)
          iterate 3 (refine Only.setCell ?_ (.inl (by simp)) _)
          exact Only.refl _ _
        case only =>
          iterate 3 (refine Only.setCell ?_ (.inr (Nat.le_refl _)) _)
          exact HP.out.only
set_option maxRecDepth 100000 in
set_option maxHeartbeats 4000000 in
theorem forwardP_any {w : World} {v : Value} {l : List StoredR} {f n : Int} (hl : Slc w 8 v l.length (l.flatMap StoredR.cells)) (hb : l.length ≤ 1000000) (hk : ∀ s ∈ l, 0 ≤ StoredR.position s ∧ StoredR.position s ≤ 1000000000) :
    Calls Tryz.prog 117 #[.func (.func 143) #[] #[], v, .int .i64 f, .int .i64 n] w (PageOut w StoredR.position l f n (forwardBy StoredR.position l f n)) := by
  obtain ⟨A, cap, rfl, hnc, hcm, hel⟩ := hl.openE StoredR.cells (fun _ => rfl)
  obtain ⟨j0, hj, hy0, hy1, hy2⟩ := info_parts infoSt
  unfold maxLen at hcm
  cases hw : wrongP f n with
  | true =>
    have HW := Lib.hid hw
    have HV := Lib.hid (fun W => vwrong_any f n W)
    rw [hw] at HV
    clear hel hw
    have hR : forwardBy StoredR.position l f n = (PageR.zero, 1) := by unfold forwardBy; rw [HW.out]; rfl
    rw [hR]
    clear hR
    go_enter Tryz.func117, Tryz.ntmps117
    go_wp2_with (go_at_call 144; refine (HV.out _).mono ?_; rintro e w1 ⟨rfl, rfl⟩)
    exact bodyPost_ret (v := .tuple #[.agg #[.slice none 0 0, .int .i64 0, .bool false], .int .i64 1]) (by simp [results, Tryz.results117, go_sem]) rfl ⟨_, rfl, World.ownsRow_nil _ _ _ _, (Only.refl [] w).alloc _⟩
  | false =>
    have HW := Lib.hid hw
    have HV := Lib.hid (fun W => vwrong_any f n W)
    rw [hw] at HV
    have hn : 1 ≤ n ∧ n ≤ 100 := by simp [wrongP] at hw; omega
    clear hw
    have hR : forwardBy StoredR.position l f n = (fwdGo StoredR.position f n l [] f, 0) := by unfold forwardBy; rw [HW.out]; rfl
    rw [hR]
    clear hR
    obtain ⟨R, hR⟩ : ∃ R, R = fwdGo StoredR.position f n l [] f := ⟨_, rfl⟩
    rw [← hR]
    have HR := Lib.hid hR
    clear hR
    go_enter Tryz.func117, Tryz.ntmps117
    go_wp2_with (go_at_call 144; refine (HV.out _).mono ?_; rintro e w1 ⟨rfl, rfl⟩)
    go_loopw [21] (fun i wr => ∃ (k : Nat) (pv : Value) (acc : List StoredR) (nx : Int), k ≤ l.length ∧ acc.length ≤ k ∧ i = .int .i64 k ∧ Hid (R = fwdGo StoredR.position f n (l.drop k) acc nx) ∧ PgAt w wr (w.heap.size + 1) pv acc nx) (fun i _ => l.length - (intOf i).toNat)
    case atStart =>
      refine ⟨0, .slice none 0 0, [], f, Nat.zero_le _, Nat.le_refl _, rfl, HR, ((Only.refl [] w).alloc _).alloc _, ((Only.refl [] _).alloc _).blk (Blk.new w _ _) (by simp), ?_, World.ownsRow_nil _ _ _ _⟩
      have := Blk.new (w.alloc (.cells #[.slice none 0 0, .int .i64 0, .bool false] 57)) 57 #[.slice none 0 0, .int .i64 f, .bool true]
      simpa using this
    case round =>
      obtain ⟨k, pv, acc, nx, hkl, hak, rfl, HR, hP⟩ := hrel
      obtain ⟨Ap, capp, rfl, hap1, hap2⟩ := own_form hP.own
      have hbR := fun i => hP.blkR.cell i
      have hbRf := fun i => hP.blkR.free i
      have hbP := fun i => hP.blkP.cell i
      have hbPf := fun i => hP.blkP.free i
      by_cases hlt : k < l.length
      · obtain ⟨b, off, rfl, hbb, hcc⟩ := hel k hlt
        have hd := fwdGo_drop StoredR.position f n l k hlt acc nx
        have hks := hk _ (List.getElem_mem hlt)
        obtain ⟨s, hs⟩ : ∃ s, s = l[k] := ⟨_, rfl⟩
        rw [← hs] at hd hcc hks
        have c0 : wr.cell? ⟨b, off + k * 8, none⟩ = some (.int .i64 s.ev.id) := (hP.only.cell hbb (by simp)).trans (hcc 0 (by omega))
        have c1 : wr.cell? ⟨b, off + k * 8 + 1, none⟩ = some (.string s.ev.type) := (hP.only.cell hbb (by simp)).trans (hcc 1 (by omega))
        have c2 : wr.cell? ⟨b, off + k * 8 + 2, none⟩ = some (.string s.ev.data) := (hP.only.cell hbb (by simp)).trans (hcc 2 (by omega))
        have c3 : wr.cell? ⟨b, off + k * 8 + 3, none⟩ = some (.float .f64 s.ev.value) := (hP.only.cell hbb (by simp)).trans (hcc 3 (by omega))
        have c4 : wr.cell? ⟨b, off + k * 8 + 4, none⟩ = some (.string s.stream) := (hP.only.cell hbb (by simp)).trans (hcc 4 (by omega))
        have c5 : wr.cell? ⟨b, off + k * 8 + 5, none⟩ = some (.int .i64 s.version) := (hP.only.cell hbb (by simp)).trans (hcc 5 (by omega))
        have c6 : wr.cell? ⟨b, off + k * 8 + 6, none⟩ = some (.int .i64 s.position) := (hP.only.cell hbb (by simp)).trans (hcc 6 (by omega))
        have c7 : wr.cell? ⟨b, off + k * 8 + 7, none⟩ = some (.int .i64 s.time) := (hP.only.cell hbb (by simp)).trans (hcc 7 (by omega))
        have hKC := Lib.hid (fun W => position_any s W)
        obtain ⟨ky, hky⟩ : ∃ ky, ky = StoredR.position s := ⟨_, rfl⟩
        have HKY := Lib.hid hky
        have hsf := stF
        clear hcc
        by_cases h1 : StoredR.position s < f
        · have HN : Hid (R = fwdGo StoredR.position f n (l.drop (k + 1)) acc nx) := by
            unfold Hid
            rw [HR.out, hd, if_pos h1]
          have HP := Lib.hid hP
          clear hd hP HR hs hel
          go_wp2_with (go_at_call 143; refine (hKC.out _).mono ?_; rintro e w2 ⟨rfl, ho2⟩)
          exact ⟨⟨k + 1, _, acc, nx, hlt, by omega, by simp, HN, HP.out.only0 (((Only.refl [] _).alloc _).trans ho2)⟩, by simp [intOf]; omega⟩
        · by_cases h2 : (acc.length : Int) = n
          · have HN : R = ⟨acc, nx, false⟩ := by
              rw [HR.out, hd, if_neg h1, if_pos h2]
            have h2b : ((acc.length : Int) == n) = true := by rw [beq_iff_eq]; exact h2
            subst HN
            have HP := Lib.hid hP
            clear hd hP HR hs hel
            go_wp2_with (go_at_call 143; refine (hKC.out _).mono ?_; rintro e w2 ⟨rfl, ho2⟩
                         have hP2 := HP.out.only0 (((Only.refl [] _).alloc _).trans ho2)
                         have d1 := fun i => hP2.blkP.cell i
                         have d2 := fun i => hP2.blkP.free i
                         have d3 := fun u v i => (((Only.refl [w.heap.size + 1] w2).setCell (p := ⟨w.heap.size + 1, u, none⟩) (.inl (by simp)) v).blk hP2.blkR (by simp)).cell i
                         have d4 := fun u v i => (((Only.refl [w.heap.size + 1] w2).setCell (p := ⟨w.heap.size + 1, u, none⟩) (.inl (by simp)) v).blk hP2.blkR (by simp)).free i)
            refine bodyPost_ret (v := .tuple #[.agg #[.slice Ap acc.length capp, .int .i64 nx, .bool false], .int .i64 0]) (by simp [results, Tryz.results117, go_sem, d3]) rfl ⟨_, rfl, ?own, ?only⟩
            case own =>
              refine own_only hP2.own (S := [w.heap.size, w.heap.size + 1]) ?_ (fun g hg => by have := hP2.nown g hg; simp; omega)
              iterate 4 (refine Only.setCell ?_ (.inl (by simp)) _)
              exact Only.refl _ _
            case only =>
              iterate 4 (refine Only.setCell ?_ (.inr (by simp)) _)
              exact hP2.only
          · have h2b : ((acc.length : Int) == n) = false := by rw [beq_eq_false_iff_ne]; exact h2
            have HN : Hid (R = fwdGo StoredR.position f n (l.drop (k + 1)) (acc ++ [s]) (StoredR.position s + 1)) := by
              unfold Hid
              rw [HR.out, hd, if_neg h1, if_neg h2]
            have HNX := Lib.hid (fun W => vnext_any (StoredR.position s) ⟨by omega, by omega⟩ W)
            have hakb : acc.length + 1 ≤ 1000001 := by omega
            have HP := Lib.hid hP
            clear hd hP HR hs hel
            go_wp2_with (go_at_call 143; refine (hKC.out _).mono ?_; rintro e w2 ⟨rfl, ho2⟩
                         have hP2 := HP.out.only0 (((Only.refl [] _).alloc _).trans ho2)
                         have d1 := fun i => hP2.blkP.cell i
                         have d2 := fun i => hP2.blkP.free i
                         have hB := ho2.blk (Blk.new wr _ _) (by simp))
            have hlw : wr.heap.size < w2.heap.size := by have := ho2.size; simp at this; omega
            have hrw := HP.out.only.size
            obtain ⟨So, hSo⟩ : ∃ So, So = (Value.slice Ap acc.length capp).ownBlock.toList := ⟨_, rfl⟩
            have hSn : ∀ g ∈ So, w.heap.size ≤ g ∧ g ≠ w.heap.size ∧ g ≠ w.heap.size + 1 ∧ g < wr.heap.size := by
              intro g hg
              rw [hSo] at hg
              have hg' : (Value.slice Ap acc.length capp).ownBlock = some g := by simpa using hg
              have h3 := HP.out.nown g hg'
              have h4 := HP.out.own.lt g hg'
              exact ⟨h4.1, h3.1, h3.2, h4.2⟩
            have nP : w.heap.size + 1 ∉ So := fun q => (hSn _ q).2.2.1 rfl
            have nR : w.heap.size ∉ So := fun q => (hSn _ q).2.1 rfl
            have nB : wr.heap.size ∉ So := fun q => Nat.lt_irrefl _ (hSn _ q).2.2.2
            have F0 := Within.cell (S := So) (hP2.blkP.cell 0) nP
            have G0 := Within.cell (S := So) (hB.cell 0) nB
            have G1 := Within.cell (S := So) (hB.cell 1) nB
            have G2 := Within.cell (S := So) (hB.cell 2) nB
            have G3 := Within.cell (S := So) (hB.cell 3) nB
            have G4 := Within.cell (S := So) (hB.cell 4) nB
            have G5 := Within.cell (S := So) (hB.cell 5) nB
            have G6 := Within.cell (S := So) (hB.cell 6) nB
            have G7 := Within.cell (S := So) (hB.cell 7) nB
            refine wp_region_in2 So [0, 1, 2, 5, 6] [3, 4] [9] [7, 8] [10, 11, 12] (by kernel_rfl) (by kernel_rfl) (by intro c d u a w h; cases d <;> exact h) ?_
            show wpQuiet _ _ _ _ [_, _, _, _, _] _
            repeat (go_big_quiet_step (fail))
            refine wpQuiet_nil ?_
            show wpList _ _ _ [_] _ _
            go_wp2_with fail
            refine check_of (S := So) (((Only.refl So w2).alloc _).drew) ?_
            show wpList _ _ _ [_] _ _
            have hOw : ∀ o, Only [] w2 (w2.alloc o).drew := fun o => ((Only.refl [] w2).alloc o).drew
            have hown0 := fun o => own_only hP2.own (hOw o) (by simp)
            have hnb := Blk.new w2 92 #[.int .i64 s.ev.id, .string s.ev.type, .string s.ev.data, .float .f64 s.ev.value, .string s.stream, .int .i64 s.version, .int .i64 s.position, .int .i64 s.time]
            have hnb' : Blk (w2.alloc (.cells #[.int .i64 s.ev.id, .string s.ev.type, .string s.ev.data, .float .f64 s.ev.value, .string s.stream, .int .i64 s.version, .int .i64 s.position, .int .i64 s.time] 92)).drew w2.heap.size 92 #[.int .i64 s.ev.id, .string s.ev.type, .string s.ev.data, .float .f64 s.ev.value, .string s.stream, .int .i64 s.version, .int .i64 s.position, .int .i64 s.time] := hnb
            refine wpList_append_lies rfl (.tmp 26) (.tmp 28) 28 rfl w.heap.size 92 j0 (.agg #[.int .i64 0, .string ⟨#[]⟩, .string ⟨#[]⟩, .float .f64 0, .string ⟨#[]⟩, .int .i64 0, .int .i64 0, .int .i64 0]) 8 88 Tryz.underlying28 hj hy0 hy1 hy2 rfl (by decide) (.slice Ap acc.length capp) acc.length _ rfl (hown0 _) ⟨w2.heap.size, 0, none⟩ 1 1 [.int .i64 s.ev.id, .string s.ev.type, .string s.ev.data, .float .f64 s.ev.value, .string s.stream, .int .i64 s.version, .int .i64 s.position, .int .i64 s.time] rfl rfl (news_blk hnb') ?c2 (by decide) ?c3 ?c4 ?c5 ?_
            case c2 => simp [Value.oneCell']
            case c3 => unfold maxLen; omega
            case c4 => omega
            case c5 => have := hP2.only.size; simp; omega
            intro g4 cap4 w4 hown4 hgrow4 hlie4 hg4
            have ho24 : Only So w2 w4 := (((Only.refl So w2).alloc _).drew).grown hgrow4 (fun g hg => .inl (by rw [hSo, hg]; simp))
            have hP4 : Blk w4 (w.heap.size + 1) 57 #[.slice Ap acc.length capp, .int .i64 nx, .bool true] := ho24.blk hP2.blkP nP
            have hR4 : Blk w4 w.heap.size 57 #[.slice none 0 0, .int .i64 0, .bool false] := ho24.blk hP2.blkR nR
            clear hgrow4 hlie4 F0 G0 G1 G2 G3 G4 G5 G6 G7 hnb hnb' hown0
            refine wpList_nil ?_
            refine check_of ho24 ?_
            show wpQuiet _ _ _ _ [_] _
            go_frame
            repeat (go_big_quiet_step (fail))
            refine wpQuiet_nil ?_
            show wpList _ _ _ [_] _ _
            go_wp2_with (go_at_call 143; refine (hKC.out _).mono ?_; rintro e w5 ⟨rfl, ho5⟩)
            refine check_of (ho24.trans ho5.of_nil) ?_
            show wpList _ _ _ [_] _ _
            go_wp2_with (go_at_call 146; refine (HNX.out _).mono ?_; rintro e w6 ⟨rfl, rfl⟩)
            refine check_of (ho24.trans ho5.of_nil) ?_
            show wpList _ _ _ [_, _, _] _ _
            have hP5 := ho5.blk hP4 (by simp)
            have e1 := fun i => hP5.cell i
            have e2 := fun i => hP5.free i
            have hOs : ∀ u v, Only [w.heap.size + 1] w5 ((w5.setCell ⟨w.heap.size + 1, 0, none⟩ u).setCell ⟨w.heap.size + 1, 1, none⟩ v) := fun u v => ((Only.refl _ w5).setCell (.inl (by simp)) u).setCell (.inl (by simp)) v
            have hNext : ∀ v, PgAt w ((w5.setCell ⟨w.heap.size + 1, 0, none⟩ (.slice (some ⟨g4, 0, none⟩) (acc.length + 1) cap4)).setCell ⟨w.heap.size + 1, 1, none⟩ (.int .i64 v)) (w.heap.size + 1) (.slice (some ⟨g4, 0, none⟩) (acc.length + 1) cap4) (acc ++ [s]) v := fun v => by
              refine ⟨(hP2.only.step (ho24.trans ho5.of_nil) (fun g hg => .inr (hSn g hg).1)).step (hOs _ _) (fun g hg => by simp at hg; right; omega), (hOs _ _).blk (ho5.blk hR4 (by simp)) (by simp), (hP5.set 0 _).set 1 _, ?_⟩
              have q := own_only (own_only hown4 ho5 (by simp)) (hOs (.slice (some ⟨g4, 0, none⟩) (acc.length + 1) cap4) (.int .i64 v)) (fun g hg => by
                cases hg
                obtain ⟨cur, hcur⟩ := own_type hown4 (g := g4) rfl
                simp
                exact hcur.other hP4 (by decide))
              rw [flat_snoc, List.length_append]
              exact q
            have HNext := Lib.hid hNext
            clear hNext
            go_wp2
            exact ⟨⟨k + 1, _, acc ++ [s], _, hlt, by simp; omega, by simp, HN, HNext.out _⟩, by simp [intOf]; omega⟩
      · have hkn : R = ⟨acc, nx, true⟩ := by
          rw [HR.out, List.drop_of_length_le (by omega)]
          rfl
        subst hkn
        have HP := Lib.hid hP
        clear hP HR hel
        go_wp2
        refine bodyPost_ret (v := .tuple #[.agg #[.slice Ap acc.length capp, .int .i64 nx, .bool true], .int .i64 0]) (by simp [results, Tryz.results117, go_sem, hbR]) rfl ⟨_, rfl, ?own, ?only⟩
        case own =>
          refine own_only HP.out.own (S := [w.heap.size]) ?_ (fun g hg => by simpa using (HP.out.nown g hg).1)
          iterate 3 (refine Only.setCell ?_ (.inl (by simp)) _)
          exact Only.refl _ _
        case only =>
          iterate 3 (refine Only.setCell ?_ (.inr (Nat.le_refl _)) _)
          exact HP.out.only
end
end Go.Proofs.YteinoiicnmemhaaGreatDoor
