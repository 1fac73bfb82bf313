/- Proved here: contracts of functions and plain laws, part 7 of one proof. Conditions: each theorem names its own. -/
import Derived.Test.YteinoiicnmemhaaGreatDoorZ2
import Derived.Test.YteinoiicnmemhaaGreatDoorZ4
set_option linter.unusedSimpArgs false
set_option linter.unusedVariables false
namespace Go.Proofs.YteinoiicnmemhaaGreatDoor
section
open Go.RowKit
theorem stF (W : World) (a : Addr) (b : Nat) (m : Mode) : Sem.run Tryz.prog (store a (.float .f64 b) m) W = stored Tryz.prog W a (.float .f64 b) m := run_store Tryz.prog W a _ m rfl
theorem type_any (s : ByteArray) (w : World) (hs : s.size ≤ maxLen) : Calls Tryz.prog 139 #[.string s] w fun e w' => e = .returned (.bool (nameOk s)) ∧ w = w' := by
  go_enter Tryz.func139, Tryz.ntmps139
  go_wp2_with (go_at_call 52; refine (stream_any s _ hs).mono ?_; rintro e w' ⟨rfl, rfl⟩)
  go_ret
  exact ⟨rfl, rfl⟩
theorem valid_any (e : EventR) (w : World) (hs : e.type.size ≤ maxLen ∧ e.data.size ≤ maxLen) : Calls Tryz.prog 95 #[e.val] w fun e1 w' => e1 = .returned (.bool e.ok) ∧ Only [] w w' := by
  have hd := hs.2
  unfold maxLen at hd
  unfold EventR.val
  by_cases h1 : 1 ≤ e.id
  · cases h2 : nameOk e.type
    · go_enter Tryz.func95, Tryz.ntmps95
      go_wp2_with (go_at_call 139; refine (type_any e.type _ hs.1).mono ?_; rintro e w' ⟨rfl, rfl⟩)
      go_ret
      exact ⟨ret_b (by simp [EventR.ok, h2] <;> omega), (Only.refl [] w).alloc _⟩
    · by_cases h3 : e.data.size ≤ 200
      · go_enter Tryz.func95, Tryz.ntmps95
        go_wp2_with (go_at_call 139; refine (type_any e.type _ hs.1).mono ?_; rintro e w' ⟨rfl, rfl⟩)
        go_ret
        exact ⟨ret_b (by simp [EventR.ok, h1, h2, h3] <;> omega), (Only.refl [] w).alloc _⟩
      · go_enter Tryz.func95, Tryz.ntmps95
        go_wp2_with (go_at_call 139; refine (type_any e.type _ hs.1).mono ?_; rintro e w' ⟨rfl, rfl⟩)
        go_ret
        exact ⟨ret_b (by simp [EventR.ok, h3] <;> omega), (Only.refl [] w).alloc _⟩
  · go_enter Tryz.func95, Tryz.ntmps95
    go_wp2_with (go_at_call 139; refine (type_any e.type _ hs.1).mono ?_; rintro e w' ⟨rfl, rfl⟩)
    go_ret
    exact ⟨ret_b (by simp [EventR.ok, h1] <;> omega), (Only.refl [] w).alloc _⟩
def EvsOk (l : List EventR) : Prop := ∀ e ∈ l, e.type.size ≤ maxLen ∧ e.data.size ≤ maxLen
theorem all_takeE {l : List EventR} {f : EventR → Bool} (k : Nat) (h : k < l.length) : (l.take (k + 1)).all f = ((l.take k).all f && f l[k]) := by
  rw [List.take_succ_eq_append_getElem h, List.all_append]
  simp
theorem all_falseE {l : List EventR} {f : EventR → Bool} {k : Nat} (h : k < l.length) (hf : f l[k] = false) : l.all f = false := by
  rw [Bool.eq_false_iff]
  intro q
  rw [List.all_eq_true] at q
  have := q l[k] (List.getElem_mem h)
  rw [hf] at this
  cases this
set_option maxHeartbeats 1000000 in
theorem events_any {w : World} {v : Value} {l : List EventR} (h : Slc w 4 v l.length (l.flatMap EventR.cells)) (hl : EvsOk l) :
    Calls Tryz.prog 53 #[v] w fun e w' => e = .returned (.int .i64 (eventsE l)) ∧ Only [] w w' := by
  obtain ⟨A, cap, rfl, hnc, hcm, hel⟩ := h.openE EventR.cells (fun _ => rfl)
  unfold maxLen at hcm
  by_cases h0 : l.length = 0
  · have hb : ((l.length : Int) == 0) = true := by simp [h0]
    have hb' : (l.length == 0) = true := by simp [h0]
    have hr : Hid (eventsE l = 1) := by unfold Hid eventsE; rw [if_pos h0]
    clear h0
    go_enter Tryz.func53, Tryz.ntmps53
    go_wp2
    go_ret
    exact ⟨ret_i (by rw [hr.out]), Only.refl _ _⟩
  · have hb : ((l.length : Int) == 0) = false := by rw [beq_eq_false_iff_ne]; omega
    have hb' : (l.length == 0) = false := by rw [beq_eq_false_iff_ne]; omega
    by_cases h8 : 8 < l.length
    · have hr : Hid (eventsE l = 2) := by unfold Hid eventsE; rw [if_neg h0, if_pos h8]
      go_enter Tryz.func53, Tryz.ntmps53
      go_wp2
      go_ret
      exact ⟨ret_i (by rw [hr.out]), Only.refl _ _⟩
    · have hr : Hid (eventsE l = if l.all EventR.ok then 0 else 1) := by unfold Hid eventsE; rw [if_neg h0, if_neg h8]
      go_enter Tryz.func53, Tryz.ntmps53
      go_wp2
      go_loopw [15] (fun i wr => ∃ k : Nat, k ≤ l.length ∧ i = .int .i64 k ∧ Hid ((l.take k).all EventR.ok = true) ∧ Only [] w wr) (fun i _ => l.length - (intOf i).toNat)
      case atStart => exact ⟨0, Nat.zero_le _, rfl, by simp [Hid], Only.refl _ _⟩
      case round =>
        obtain ⟨k, hk, rfl, hT, hO⟩ := hrel
        by_cases hlt : k < l.length
        · obtain ⟨b, off, rfl, hbl, hc⟩ := hel k hlt
          have hz := hl _ (List.getElem_mem hlt)
          have hnext : Hid (l[k].ok = true → (l.take (k + 1)).all EventR.ok = true) := by
            intro q
            rw [all_takeE k hlt, hT.out, q]
            rfl
          have hend : Hid (l[k].ok = false → eventsE l = 1) := by
            intro q
            rw [hr.out, all_falseE hlt q]
            rfl
          obtain ⟨x, hx⟩ : ∃ x, x = l[k] := ⟨_, rfl⟩
          rw [← hx] at hc hz hnext hend
          have c0 : wr.cell? ⟨b, off + k * 4, none⟩ = some (.int .i64 x.id) := (hO.cell hbl (by simp)).trans (hc 0 (by omega))
          have c1 : wr.cell? ⟨b, off + k * 4 + 1, none⟩ = some (.string x.type) := (hO.cell hbl (by simp)).trans (hc 1 (by omega))
          have c2 : wr.cell? ⟨b, off + k * 4 + 2, none⟩ = some (.string x.data) := (hO.cell hbl (by simp)).trans (hc 2 (by omega))
          have c3 : wr.cell? ⟨b, off + k * 4 + 3, none⟩ = some (.float .f64 x.value) := (hO.cell hbl (by simp)).trans (hc 3 (by omega))
          clear hc hel hx
          have hsf := stF
          cases hok : x.ok
          · have HE := Lib.hid (hend.out hok)
            clear hnext hend
            go_wp2_with (go_at_call 95; refine (valid_any x _ hz).mono ?_; rintro e w1 ⟨rfl, ho1⟩; rw [hok])
            go_ret
            exact ⟨ret_i (by rw [HE.out]), (hO.alloc _).trans ho1⟩
          · have HN := Lib.hid (hnext.out hok)
            clear hnext hend
            go_wp2_with (go_at_call 95; refine (valid_any x _ hz).mono ?_; rintro e w1 ⟨rfl, ho1⟩; rw [hok])
            exact ⟨⟨k + 1, hlt, by simp, HN, (hO.alloc _).trans ho1⟩, by simp [intOf]; omega⟩
        · have hfin : Hid (eventsE l = 0) := by
            have := hT.out
            rw [List.take_of_length_le (by omega)] at this
            unfold Hid
            rw [hr.out, this]
            rfl
          go_wp2
          go_ret
          exact ⟨ret_i (by rw [hfin.out]), hO⟩
end
section
open Go.RowKit
theorem mt_zero {a b d : Int} : (⟨a, b, d⟩ : MetaR) = MetaR.zero ↔ a = 0 ∧ b = 0 ∧ d = 0 := by simp [MetaR.zero]
set_option maxHeartbeats 1000000 in
theorem spare_any (c : Cmd) (A : Option Addr) (cap : Nat) (w : World) (hl : c.events.length ≤ 9223372036854775807) (hk : 1 ≤ c.kind ∧ c.kind ≤ 5) :
    Calls Tryz.prog 56 #[c.val (.slice A c.events.length cap)] w fun e w' => e = .returned (.bool c.spare) ∧ Only [] w w' := by
  obtain ⟨kind, time, stream, ex, l, a, b, d⟩ := c
  simp only [Cmd.val] at hl hk ⊢
  have hk' : kind = 1 ∨ kind = 2 ∨ kind = 3 ∨ kind = 4 ∨ kind = 5 := by omega
  rcases hk' with rfl | rfl | rfl | rfl | rfl
  all_goals
    go_enter Tryz.func56, Tryz.ntmps56
    go_wp2
    all_goals
      go_ret
      refine ⟨?_, (Only.refl [] w).alloc _⟩
      first
        | (refine ret_b ?_; simp_all [Cmd.spare, mt_zero]; done)
        | (simp_all [Cmd.spare, mt_zero]; done)
structure CmdOk (c : Cmd) : Prop where
  stream : c.stream.size ≤ maxLen
  evs : EvsOk c.events
set_option maxHeartbeats 2000000 in
theorem check_any (c : Cmd) (v : Value) (w : World) (hs : Slc w 4 v c.events.length (c.events.flatMap EventR.cells)) (ho : CmdOk c) :
    Calls Tryz.prog 20 #[c.val v] w fun e w' => e = .returned (.int .i64 c.check) ∧ Only [] w w' := by
  obtain ⟨A, cap, rfl, hnc, hcm, hel⟩ := hs.openE EventR.cells (fun _ => rfl)
  clear hel
  obtain ⟨ho1, ho2⟩ := ho
  obtain ⟨kind, time, stream, ex, l, a, b, d⟩ := c
  have hl : l.length ≤ 9223372036854775807 := by unfold maxLen at hcm; exact Nat.le_trans hnc (by omega)
  have hl1 : Only [] w (w.alloc (.cells #[.int .i64 kind, .int .i64 time, .string stream, .int .i64 ex, .slice A l.length cap, .int .i64 a, .int .i64 b, .int .i64 d] 40)) := (Only.refl [] w).alloc _
  simp only [Cmd.val] at hs ho1 ho2 ⊢
  clear hcm hnc
  by_cases hk : 1 ≤ kind ∧ kind ≤ 5
  · have hk' : kind = 1 ∨ kind = 2 ∨ kind = 3 ∨ kind = 4 ∨ kind = 5 := by omega
    rcases hk' with rfl | rfl | rfl | rfl | rfl
    all_goals
      have HV := Lib.hid (events_any (hs.only0 hl1) ho2)
      have HP := fun w => Lib.hid (spare_any ⟨_, time, stream, ex, l, a, b, d⟩ A cap w hl hk)
      have HL := Lib.hid hl1
      clear hk hl1 hs ho2
      go_enter Tryz.func20, Tryz.ntmps20
      go_wp2_with (first
        | (go_at_call 51; refine (within_any _ _).mono ?_; rintro e w' ⟨rfl, rfl⟩)
        | (go_at_call 52; refine (stream_any _ _ ho1).mono ?_; rintro e w' ⟨rfl, rfl⟩)
        | (go_at_call 53; refine HV.out.mono ?_; rintro e w1 ⟨rfl, hw1⟩; have hq1 := fun i => (hw1.blk (Blk.new w 40 _) (by simp)).cell i)
        | (go_at_call 54; refine (expects_any _ _).mono ?_; rintro e w' ⟨rfl, rfl⟩)
        | (go_at_call 55; refine (validMeta_any ⟨a, b, d⟩ _).mono ?_; rintro e w2 ⟨rfl, hw2⟩; have hq2 := fun i => (hw2.blk (Blk.new w 40 _) (by simp)).cell i)
        | (go_at_call 56; refine (HP _).out.mono ?_; rintro e w3 ⟨rfl, hw3⟩))
      all_goals
        go_ret
        refine ⟨?_, by first | exact HL.out | exact HL.out.trans hw1 | exact HL.out.trans hw2 | exact HL.out.trans hw3 | exact (HL.out.trans hw1).trans hw3 | exact (HL.out.trans hw2).trans hw3⟩
        try clear hq1
        try clear hq2
        try clear hw3
        try clear hw2
        try clear hw1
        clear HV HP HL
        first
          | (refine ret_i ?_; simp_all [Cmd.check]; done)
          | (simp_all [Cmd.check]; done)
  · have HL := Lib.hid hl1
    clear hl1 hs ho2
    go_enter Tryz.func20, Tryz.ntmps20
    have hck : (Cmd.mk kind time stream ex l ⟨a, b, d⟩).check = 1 := by unfold Cmd.check; rw [if_pos (by simp only []; omega)]
    rw [hck]
    clear hck
    go_wp2
    all_goals
      go_ret
      exact ⟨rfl, HL.out⟩
end
section
open Go.RowKit
theorem young_drop (age now : Int) (ts : List Int) (k : Nat) (h : k < ts.length) : young age now (ts.drop k) = if now - age < ts[k] then 0 else 1 + young age now (ts.drop (k + 1)) := by
  rw [List.drop_eq_getElem_cons h]
  rfl
theorem young_bd (age now : Int) : ∀ ts : List Int, 0 ≤ young age now ts ∧ young age now ts ≤ ts.length
  | [] => ⟨Int.le_refl _, Int.le_refl _⟩
  | t :: l => by
    have := young_bd age now l
    unfold young
    split
    · simp; omega
    · simp; omega
theorem young_any {w : World} {v : Value} {ts : List Int} {age now : Int} (h : Slc w 1 v ts.length (ints ts)) (hn : 0 ≤ now ∧ now ≤ 2199023255552) (ha : 0 ≤ age ∧ age ≤ 2199023255552) :
    Calls Tryz.prog 96 #[.int .i64 age, .int .i64 now, v] w fun e w' => e = .returned (.int .i64 (young age now ts)) ∧ w = w' := by
  obtain ⟨A, cap, rfl, hnc, hcm, hel⟩ := h.openI
  obtain ⟨hn1, hn2⟩ := hn
  obtain ⟨ha1, ha2⟩ := ha
  have hl : ts.length ≤ 9223372036854775807 := by unfold maxLen at hcm; exact Nat.le_trans hnc (by omega)
  clear hcm hnc h
  go_enter Tryz.func96, Tryz.ntmps96
  go_wp2
  go_loop [11] (fun i => ∃ k : Nat, k ≤ ts.length ∧ i = .int .i64 k ∧ Hid (young age now ts = k + young age now (ts.drop k))) (fun i => ts.length - (intOf i).toNat)
  case atStart => exact ⟨0, Nat.zero_le _, rfl, by simp [Hid]⟩
  case round =>
    obtain ⟨k, hk, rfl, hT⟩ := hrel
    by_cases hlt : k < ts.length
    · obtain ⟨b, off, rfl, hb, hc⟩ := hel k hlt
      have hd := young_drop age now ts k hlt
      obtain ⟨t, ht⟩ : ∃ t, t = ts[k] := ⟨_, rfl⟩
      rw [← ht] at hd hc
      by_cases hy : now - age < t
      · have HD : Hid (young age now ts = k) := by unfold Hid; rw [hT.out, hd, if_pos hy]; simp
        clear hd ht hel
        go_wp2
        go_ret
        exact ⟨ret_i (by rw [HD.out]), rfl⟩
      · have HD : Hid (young age now ts = ((k + 1 : Nat) : Int) + young age now (ts.drop (k + 1))) := by unfold Hid; rw [hT.out, hd, if_neg hy]; omega
        clear hd ht hel
        go_wp2
        go_round
        case rel => exact ⟨k + 1, hlt, by go_num, HD⟩
        case measure => simp [intOf]; omega
    · have HD : Hid (young age now ts = ts.length) := by
        have hkl : k = ts.length := by omega
        unfold Hid
        rw [hT.out, hkl, List.drop_length]
        simp [young]
      go_wp2
      go_ret
      exact ⟨ret_i (by rw [HD.out]), rfl⟩
set_option maxHeartbeats 1000000 in
theorem floor_any {w : World} {v : Value} {ts : List Int} {m : MetaR} {floor now : Int} (h : Slc w 1 v ts.length (ints ts)) (hn : 0 ≤ now ∧ now ≤ 2199023255552) (hm : m.ok = true) (hf : 0 ≤ floor ∧ floor ≤ 2199023255552) (hl : ts.length ≤ 1000000000) :
    Calls Tryz.prog 57 #[m.val, .int .i64 floor, .int .i64 now, v] w fun e w' => e = .returned (.int .i64 (floorE m floor now ts)) ∧ Only [] w w' := by
  obtain ⟨A, cap, rfl, hnc, hcm, _⟩ := h.openI
  obtain ⟨a, b, d⟩ := m
  simp [MetaR.ok, within] at hm
  obtain ⟨⟨⟨ha1, ha2⟩, hb1, hb2⟩, hd1, hd2⟩ := hm
  obtain ⟨hf1, hf2⟩ := hf
  have HY := Lib.hid (young_any (w := w.alloc (.cells #[.int .i64 a, .int .i64 b, .int .i64 d] 38)) (age := b) (h.only0 ((Only.refl [] w).alloc _)) hn ⟨hb1, by omega⟩)
  have hyb := young_bd b now ts
  obtain ⟨y, hy⟩ : ∃ y, y = young b now ts := ⟨_, rfl⟩
  rw [← hy] at HY hyb
  obtain ⟨hy1, hy2⟩ := hyb
  have HR : Hid (floorE ⟨a, b, d⟩ floor now ts = min (if 0 < b then max (if 0 < a then max (max (max floor 0) d) (ts.length - a) else max (max floor 0) d) y else (if 0 < a then max (max (max floor 0) d) (ts.length - a) else max (max floor 0) d)) ts.length) := by
    unfold Hid floorE
    rw [hy]
  clear hcm hnc h hn hy
  unfold MetaR.val
  by_cases h1 : 0 < a
  · by_cases h2 : 0 < b
    · rw [if_pos h1, if_pos h2] at HR
      go_enter Tryz.func57, Tryz.ntmps57
      go_wp2_with (go_at_call 96; refine HY.out.mono ?_; rintro e w' ⟨rfl, rfl⟩)
      all_goals
        go_ret
        refine ⟨ret_i ?_, (Only.refl [] w).alloc _⟩
        rw [HR.out]
        omega
    · rw [if_pos h1, if_neg h2] at HR
      go_enter Tryz.func57, Tryz.ntmps57
      go_wp2_with (go_at_call 96; refine HY.out.mono ?_; rintro e w' ⟨rfl, rfl⟩)
      all_goals
        go_ret
        refine ⟨ret_i ?_, (Only.refl [] w).alloc _⟩
        rw [HR.out]
        omega
  · by_cases h2 : 0 < b
    · rw [if_neg h1, if_pos h2] at HR
      go_enter Tryz.func57, Tryz.ntmps57
      go_wp2_with (go_at_call 96; refine HY.out.mono ?_; rintro e w' ⟨rfl, rfl⟩)
      all_goals
        go_ret
        refine ⟨ret_i ?_, (Only.refl [] w).alloc _⟩
        rw [HR.out]
        omega
    · rw [if_neg h1, if_neg h2] at HR
      go_enter Tryz.func57, Tryz.ntmps57
      go_wp2_with (go_at_call 96; refine HY.out.mono ?_; rintro e w' ⟨rfl, rfl⟩)
      all_goals
        go_ret
        refine ⟨ret_i ?_, (Only.refl [] w).alloc _⟩
        rw [HR.out]
        omega
theorem expected_any (want count : Int) (w : World) (hc : 0 ≤ count ∧ count ≤ 2199023255552) : Calls Tryz.prog 59 #[.int .i64 want, .int .i64 count] w fun e w' => e = .returned (.bool (expected want count)) ∧ w = w' := by
  obtain ⟨hc1, hc2⟩ := hc
  by_cases h1 : want = -2
  · subst h1
    go_enter Tryz.func59, Tryz.ntmps59
    go_wp2
    go_ret
    exact ⟨ret_b (by simp [expected]), rfl⟩
  · have b1 : (want == -2) = false := by simpa using h1
    by_cases h2 : want = -1
    · subst h2
      go_enter Tryz.func59, Tryz.ntmps59
      go_wp2
      go_ret
      exact ⟨ret_b (by first | (simp [expected]; done) | (simp [expected]; rfl)), rfl⟩
    · have b2 : (want == -1) = false := by simpa using h2
      by_cases h4 : want = -4
      · subst h4
        go_enter Tryz.func59, Tryz.ntmps59
        go_wp2
        go_ret
        exact ⟨ret_b (by simp [expected]), rfl⟩
      · have b4 : (want == -4) = false := by simpa using h4
        have hr : Hid (expected want count = decide (want = count - 1)) := by unfold Hid expected; rw [if_neg h1, if_neg h2, if_neg h4]
        clear h1 h2 h4
        by_cases h5 : want = count - 1
        · have b5 : (want == count - 1) = true := by simpa using h5
          have hr' : Hid (expected want count = true) := by unfold Hid; rw [hr.out]; simpa using h5
          clear h5
          go_enter Tryz.func59, Tryz.ntmps59
          go_wp2
          go_ret
          exact ⟨ret_b (by rw [hr'.out]), rfl⟩
        · have b5 : (want == count - 1) = false := by simpa using h5
          have hr' : Hid (expected want count = false) := by unfold Hid; rw [hr.out]; simpa using h5
          clear h5
          go_enter Tryz.func59, Tryz.ntmps59
          go_wp2
          go_ret
          exact ⟨ret_b (by rw [hr'.out]), rfl⟩
theorem from_run (n : Int) (w : World) : (callFunc 102 #[.int .u64 n]).run Tryz.prog w = .ok (.value (.float .f64 n.toNat)) w := by kernel_rfl
theorem to_run (b : Nat) (w : World) : (callFunc 103 #[.float .f64 b]).run Tryz.prog w = .ok (.value (.int .u64 b)) w := by kernel_rfl
set_option maxRecDepth 100000 in
theorem canon_any (b : Nat) (w : World) : Calls Tryz.prog 100 #[.float .f64 b] w fun e w' => e = .returned (.float .f64 (canon b)) ∧ w = w' := by
  have hf := fun W => from_run 9221120237041090560 W
  cases hb : isNaN b
  · have hr : Hid (canon b = b) := by unfold Hid canon; rw [hb]; rfl
    unfold isNaN at hb
    go_enter Tryz.func100, Tryz.ntmps100
    go_wp2
    go_ret
    exact ⟨by rw [hr.out]; rfl, rfl⟩
  · have hr : Hid (canon b = 9221120237041090560) := by unfold Hid canon; rw [hb]; rfl
    unfold isNaN at hb
    go_enter Tryz.func100, Tryz.ntmps100
    go_wp2
    go_ret
    exact ⟨by rw [hr.out]; rfl, rfl⟩
end
end Go.Proofs.YteinoiicnmemhaaGreatDoor
