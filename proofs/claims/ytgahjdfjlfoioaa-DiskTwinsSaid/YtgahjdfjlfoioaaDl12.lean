/- DiskTwins: a disk and its twin; the walk. -/
import Derived.Test.YtgahjdfjlfoioaaDl11
import Derived.Test.YtgahjdfjlfoioaaDl9L
set_option linter.unusedVariables false
namespace Go.Proofs.Ytgahjdfjlfoioaa
open Go.RowKit Go.Sort
/-- Two disks that lie apart, above the world a. -/
structure Two (a w : World) (db mb : Nat) (d : DS) (kv : Value) (tb tm : Nat) (t : DS) (kt : Value) (M : Nat) : Prop where
  only : Only [] a w
  dd : DiskAt w db mb d kv
  tt : DiskAt w tb tm t kt
  da : a.heap.size ≤ db ∧ a.heap.size ≤ mb
  ta : a.heap.size ≤ tb ∧ a.heap.size ≤ tm
  ne : db ≠ tb ∧ db ≠ tm ∧ mb ≠ tb ∧ mb ≠ tm
  kd : ∀ g, kv.ownBlock = some g → a.heap.size ≤ g ∧ g ≠ tb ∧ g ≠ tm
  kt : ∀ g, kt.ownBlock = some g → a.heap.size ≤ g ∧ g ≠ db ∧ g ≠ mb
  okd : d.Ok M
  okt : t.Ok M
  big : M ≤ 1000000000
section
variable {a w w' : World} {db mb tb tm M : Nat} {d t d' : DS} {kv kt : Value}
theorem Two.swap (h : Two a w db mb d kv tb tm t kt M) : Two a w tb tm t kt db mb d kv M :=
  ⟨h.only, h.tt, h.dd, h.ta, h.da, ⟨fun e => h.ne.1 e.symm, fun e => h.ne.2.2.1 e.symm, fun e => h.ne.2.1 e.symm, fun e => h.ne.2.2.2 e.symm⟩, h.kt, h.kd, h.okt, h.okd, h.big⟩
theorem Two.keep (h : Two a w db mb d kv tb tm t kt M) (k : Only [] w w') : Two a w' db mb d kv tb tm t kt M :=
  ⟨h.only.trans k, h.dd.only0 k, h.tt.only0 k, h.da, h.ta, h.ne, h.kd, h.kt, h.okd, h.okt, h.big⟩
theorem Two.lead {M' : Nat} (h : Two a w db mb d kv tb tm t kt M) (hl : Leads db mb w kv w' d') (ho : d'.Ok M') (hm : M ≤ M') (hb : M' ≤ 1000000000) : ∃ kv', Two a w' db mb d' kv' tb tm t kt M' := by
  obtain ⟨kv', h1, h2, h3⟩ := hl
  refine ⟨kv', h.only.step h3 (fun i hi => by simp at hi; rcases hi with rfl | rfl; exact .inr h.da.1; exact .inr h.da.2), h1, ?_, h.da, h.ta, h.ne, fun g hg => ?_, h.kt, ho, h.okt.more hm, hb⟩
  · refine h.tt.only h3 ?_ ?_ (fun g hg => ?_)
    · have := h.ne; simp; exact ⟨fun e => this.1 e.symm, fun e => this.2.2.1 e.symm⟩
    · have := h.ne; simp; exact ⟨fun e => this.2.1 e.symm, fun e => this.2.2.2 e.symm⟩
    · have := h.kt g hg; simp; exact this.2
  · rcases h2 g hg with q | q
    · exact h.kd g q
    · have := h.tt.blk.lt
      have := h.tt.map.lt
      have := h.only.size
      omega
theorem two_run {v : Value} {os : List OpR} (h : Two a w db mb d kv tb tm t kt M) (ho : OpsAt w a.heap.size v os) (hd : dataSum os ≤ 20000) (hM : M + 20000 ≤ 1000000000) :
    Calls Try.prog 26 #[.pointer (some ⟨db, 0, none⟩), v] w fun e w' => e = .returned (.tuple #[]) ∧ OpsAt w' a.heap.size v os ∧ Only [db, mb] w w' ∧ ∃ kv', Two a w' db mb (os.foldl runOp d) kv' tb tm t kt (M + 20000) :=
  (run_any h.dd h.okd (by omega) ho h.da).mono fun e w' ⟨q1, q2⟩ => ⟨q1, ho.only (by obtain ⟨_, _, _, q⟩ := q2; exact q) (fun g hg => by have := h.da; simp at hg; omega), (by obtain ⟨_, _, _, q⟩ := q2; exact q),
    h.lead q2 ((run_ok os h.okd).1.more (by omega)) (by omega) hM⟩
theorem two_all (h : Two a w db mb d kv tb tm t kt M) :
    Calls Try.prog 28 #[.pointer (some ⟨db, 0, none⟩)] w fun e w' => ∃ v, e = .returned v ∧ Slc w' 1 v (allOf d).length (strs (allOf d)) ∧ (∀ g, v.ownBlock = some g → w.heap.size ≤ g) ∧ Only [] w w' ∧ Two a w' db mb d kv tb tm t kt M :=
  (all_any h.dd h.okd (by have := h.big; omega)).mono fun e w' ⟨v, q1, q2, q3, q4⟩ => ⟨v, q1, q2, q3, q4, h.keep q4⟩
theorem two_used (h : Two a w db mb d kv tb tm t kt M) :
    Calls Try.prog 12 #[.pointer (some ⟨db, 0, none⟩)] w fun e w' => e = .returned (.int .i64 d.used) ∧ Only [] w w' ∧ Two a w' db mb d kv tb tm t kt M :=
  (used_any h.dd h.okd.fs.bytes (by have := h.big; omega)).mono fun e w' ⟨q1, q2⟩ => ⟨q1, q2, h.keep q2⟩
theorem two_on (h : Two a w db mb d kv tb tm t kt M) :
    Calls Try.prog 16 #[.pointer (some ⟨db, 0, none⟩)] w fun e w' => e = .returned (.bool d.on) ∧ w = w' := on_any h.dd
theorem same_self {w : World} {v1 v2 : Value} {l : List ByteArray} (h1 : Slc w 1 v1 l.length (strs l)) (h2 : Slc w 1 v2 l.length (strs l)) :
    Calls Try.prog 29 #[v1, v2] w fun e w' => e = .returned (.bool true) ∧ Only [] w w' := by
  have := sameTexts_any h1 h2
  simpa using this
end
set_option maxRecDepth 100000 in
set_option maxHeartbeats 2000000 in
theorem twins_go (v1 v2 : Value) (l m : List OpR) (a : World) (h1 : OpsAt a a.heap.size v1 l) (h2 : OpsAt a a.heap.size v2 m)
    (hl : ∀ w, Only [] a w → Calls Try.prog 25 #[v1] w fun e w' => RetB e (LightQ l) ∧ Only [] w w')
    (hm : ∀ w, Only [] a w → Calls Try.prog 25 #[v2] w fun e w' => RetB e (LightQ m) ∧ Only [] w w')
    (hl4 : l.length ≤ 40) (hm4 : m.length ≤ 40) :
    Calls Try.prog 7 #[v1, v2] a fun e w' => e = .returned (.bool true) ∧ Only [] a w' := by
  obtain ⟨A1, cap1, rfl, hnc1, hcm1, hl1, hc1⟩ := h1.slc.cell
  obtain ⟨A2, cap2, rfl, hnc2, hcm2, hl2, hc2⟩ := h2.slc.cell
  unfold maxLen at hcm1 hcm2
  have HL := Lib.hid hl
  have HM := Lib.hid hm
  clear hl hm hl1 hl2 hc1 hc2
  go_enter Try.func7, Try.ntmps7
  go_wp2_with fail
  refine (HL.out a (Only.refl [] a)).mono ?_
  rintro e w1 ⟨⟨b1, rfl, q1⟩, o1⟩
  cases b1
  · clear q1
    go_wp2_with (go_at_call 9; refine (alive_any _).mono ?_; rintro e w3 ⟨rfl, o3⟩)
    go_ret
    exact ⟨rfl, (o1).trans o3⟩
  have hld := (q1 rfl).2
  clear q1
  go_wp2_with fail
  refine (HM.out w1 o1).mono ?_
  rintro e w2 ⟨⟨b2, rfl, q2⟩, o2⟩
  cases b2
  · clear q2
    go_wp2_with (go_at_call 9; refine (alive_any _).mono ?_; rintro e w3 ⟨rfl, o3⟩)
    go_ret
    exact ⟨rfl, (o1.trans o2).trans o3⟩
  have hmd := (q2 rfl).2
  clear q2
  have o12 := o1.trans o2
  go_wp2_with fail
  refine (new_any w2 (room := 0) (by decide)).mono ?_
  rintro e w3 ⟨rfl, hd3, o3⟩
  have o13 := o12.trans o3
  go_wp2_with fail
  refine (run_any hd3 (DS.new_ok 0) (M := 0) (by omega) (h1.only o13 (by simp)) ⟨by have := o12.size; omega, o12.size⟩).mono ?_
  rintro e w4 ⟨rfl, kv4, hd4, hk4, o4⟩
  have hok4 := (run_ok l (DS.new_ok 0))
  obtain ⟨d1, hd1⟩ : ∃ d1, d1 = l.foldl runOp (DS.new 0) := ⟨_, rfl⟩
  rw [← hd1] at hd4 hok4
  have hkl : d1.keep.length = 0 := by have := hok4.2; unfold DS.KeepLe at this; simpa [DS.new] using this
  have hkl8 : d1.keep.length * 8 ≤ 140737488355328 := by omega
  have o14 : Only [] a w4 := o13.step o4 (fun i hi => by have := o12.size; simp at hi; omega)
  have p2 := (h2.only o13 (by simp)).only o4 (fun g hg => by have := o12.size; simp at hg; omega)
  clear hkl hd1
  go_wp2_with fail
  refine (twin_any hd4 hkl8).mono ?_
  rintro e w5 ⟨tb, tm, kt5, rfl, ht5, htb, htm, hkt, o5⟩
  have T5 : Two a w5 (w2.heap.size + 1) w2.heap.size d1 kv4 tb tm d1 kt5 20000 := by
    have s1 := hd4.blk.lt
    have s2 := hd4.map.lt
    have s3 := o12.size
    have s4 := o4.size
    have s5 := o3.size
    refine ⟨o14.trans o5, hd4.only0 o5, ht5, ⟨by omega, by omega⟩, ⟨by omega, by omega⟩, ⟨by omega, by omega, by omega, by omega⟩, fun g hg => ?_, fun g hg => ?_, hok4.1.more (by omega), hok4.1.more (by omega), by omega⟩
    · have := hd4.old g hg
      rcases hk4 g hg with q | q
      · cases q
      · omega
    · have := hkt g hg
      omega
  have p5 := p2.only o5 (by simp)
  clear hd3 hd4 hk4 hok4 hkl8 htb htm hkt p2 ht5
  obtain ⟨db, hdb⟩ : ∃ db, db = w2.heap.size + 1 := ⟨_, rfl⟩
  obtain ⟨mb, hmb⟩ : ∃ mb, mb = w2.heap.size := ⟨_, rfl⟩
  rw [← hdb, ← hmb] at T5
  rw [← hdb]
  clear hdb hmb
  go_wp2_with fail
  refine (two_all T5).mono ?_
  rintro e w6 ⟨v6, rfl, s6, g6, o6, T6⟩
  obtain ⟨A6, cap6, rfl, _⟩ := s6.cell
  go_wp2_with fail
  refine (two_used T6).mono ?_
  rintro e w7 ⟨rfl, o7, T7⟩
  go_wp2_with fail
  refine (two_on T7).mono ?_
  rintro e w7' ⟨rfl, rfl⟩
  go_wp2_with fail
  refine (two_run T7.swap ((p5.only o6 (by simp)).only o7 (by simp)) hmd (by omega)).mono ?_
  rintro e w8 ⟨rfl, p8, o8, kt8, T8'⟩
  have T8 := T8'.swap
  have s8 : Slc w8 1 (.slice A6 (allOf d1).length cap6) (allOf d1).length (strs (allOf d1)) := by
    refine ((s6.only o7 (by simp)).only o8 (fun g hg => ?_))
    have := g6 g hg
    have := T5.tt.blk.lt
    have := T5.tt.map.lt
    simp
    omega
  clear T8'
  go_wp2_with fail
  refine (two_all T8).mono ?_
  rintro e w9 ⟨v9, rfl, s9, g9, o9, T9⟩
  go_wp2_with fail
  refine (same_self s9 (s8.only o9 (by simp))).mono ?_
  rintro e w10 ⟨rfl, o10⟩
  have T10 := T9.keep o10
  go_wp2_with fail
  refine (two_used T10).mono ?_
  rintro e w11 ⟨rfl, o11, T11⟩
  go_wp2_with fail
  refine (two_on T11).mono ?_
  rintro e w11' ⟨rfl, rfl⟩
  go_wp2_with fail
  refine (two_run T11 (((p8.only o9 (by simp)).only o10 (by simp)).only o11 (by simp)) hmd (by omega)).mono ?_
  rintro e w12 ⟨rfl, p12, o12', kv12, T12⟩
  obtain ⟨d2, hd2⟩ : ∃ d2, d2 = m.foldl runOp d1 := ⟨_, rfl⟩
  rw [← hd2] at T12
  clear hd2
  go_wp2_with fail
  refine (alive_any _).mono ?_
  rintro e w13 ⟨rfl, o13'⟩
  have T13 := T12.keep o13'
  go_wp2_with fail
  refine (two_all T13).mono ?_
  rintro e w14 ⟨v14, rfl, s14, g14, o14', T14⟩
  go_wp2_with fail
  refine (two_all T14.swap).mono ?_
  rintro e w15 ⟨v15, rfl, s15, g15, o15, T15'⟩
  have T15 := T15'.swap
  go_wp2_with fail
  refine (same_self (s14.only o15 (by simp)) s15).mono ?_
  rintro e w16 ⟨rfl, o16⟩
  have T16 := T15.keep o16
  go_wp2_with fail
  refine (two_used T16).mono ?_
  rintro e w17 ⟨rfl, o17, T17⟩
  go_wp2_with fail
  refine (two_used T17.swap).mono ?_
  rintro e w18 ⟨rfl, o18, T18'⟩
  have T18 := T18'.swap
  go_wp2_with fail
  refine (two_on T18).mono ?_
  rintro e w18' ⟨rfl, rfl⟩
  go_wp2_with fail
  refine (two_on T18.swap).mono ?_
  rintro e w18' ⟨rfl, rfl⟩
  go_wp2_with fail
  go_ret
  exact ⟨rfl, T18.only⟩
set_option maxRecDepth 100000 in
set_option maxHeartbeats 2000000 in
theorem twins_big (v1 v2 : Value) (l m : List OpR) (a : World) (h1 : OpsAt a a.heap.size v1 l) (h2 : OpsAt a a.heap.size v2 m)
    (hl : ∀ w, Only [] a w → Calls Try.prog 25 #[v1] w fun e w' => RetB e (LightQ l) ∧ Only [] w w')
    (hm : ∀ w, Only [] a w → Calls Try.prog 25 #[v2] w fun e w' => RetB e (LightQ m) ∧ Only [] w w')
    (hb : 40 < l.length ∨ 40 < m.length) :
    Calls Try.prog 7 #[v1, v2] a fun e w' => e = .returned (.bool true) ∧ Only [] a w' := by
  obtain ⟨A1, cap1, rfl, hnc1, hcm1, hl1, hc1⟩ := h1.slc.cell
  obtain ⟨A2, cap2, rfl, hnc2, hcm2, hl2, hc2⟩ := h2.slc.cell
  unfold maxLen at hcm1 hcm2
  have HL := Lib.hid hl
  have HM := Lib.hid hm
  clear hl hm hl1 hl2 hc1 hc2
  by_cases h40 : 40 < l.length
  ·
    go_enter Try.func7, Try.ntmps7
    go_wp2_with fail
    refine (HL.out a (Only.refl [] a)).mono ?_
    rintro e w1 ⟨⟨b1, rfl, q1⟩, o1⟩
    clear q1
    cases b1
    ·
      go_wp2_with (go_at_call 9; refine (alive_any _).mono ?_; rintro e w3 ⟨rfl, o3⟩)
      go_ret
      exact ⟨rfl, (o1).trans o3⟩
    go_wp2_with fail
    refine (HM.out w1 o1).mono ?_
    rintro e w2 ⟨⟨b2, rfl, q2⟩, o2⟩
    clear q2
    cases b2
    ·
      go_wp2_with (go_at_call 9; refine (alive_any _).mono ?_; rintro e w3 ⟨rfl, o3⟩)
      go_ret
      exact ⟨rfl, (o1.trans o2).trans o3⟩
    ·
      go_wp2_with (go_at_call 9; refine (alive_any _).mono ?_; rintro e w3 ⟨rfl, o3⟩)
      go_ret
      exact ⟨rfl, (o1.trans o2).trans o3⟩
  · have h41 : 40 < m.length := by omega
    go_enter Try.func7, Try.ntmps7
    go_wp2_with fail
    refine (HL.out a (Only.refl [] a)).mono ?_
    rintro e w1 ⟨⟨b1, rfl, q1⟩, o1⟩
    clear q1
    cases b1
    ·
      go_wp2_with (go_at_call 9; refine (alive_any _).mono ?_; rintro e w3 ⟨rfl, o3⟩)
      go_ret
      exact ⟨rfl, (o1).trans o3⟩
    go_wp2_with fail
    refine (HM.out w1 o1).mono ?_
    rintro e w2 ⟨⟨b2, rfl, q2⟩, o2⟩
    clear q2
    cases b2
    ·
      go_wp2_with (go_at_call 9; refine (alive_any _).mono ?_; rintro e w3 ⟨rfl, o3⟩)
      go_ret
      exact ⟨rfl, (o1.trans o2).trans o3⟩
    ·
      go_wp2_with (go_at_call 9; refine (alive_any _).mono ?_; rintro e w3 ⟨rfl, o3⟩)
      go_ret
      exact ⟨rfl, (o1.trans o2).trans o3⟩
theorem twinsW (v1 : Value) (l : List OpR) (v2 : Value) (m : List OpR) (a : World) (x1 : Slc a 6 v1 l.length (l.flatMap OpR.cells)) (y1 : ∀ o ∈ l, o.Ok a ∧ o.cells.length = 6) (z1 : ∀ g, v1.ownBlock = some g → g < a.heap.size ∨ l = [])
    (x2 : Slc a 6 v2 m.length (m.flatMap OpR.cells)) (y2 : ∀ o ∈ m, o.Ok a ∧ o.cells.length = 6) (z2 : ∀ g, v2.ownBlock = some g → g < a.heap.size ∨ m = []) :
    Calls Try.prog 7 #[v1, v2] a fun e w' => e = .returned (.bool true) ∧ Only [] a w' := by
  have h1 : OpsAt a a.heap.size v1 l := ⟨x1, fun o ho => by obtain ⟨⟨b1, b2, b3, b4, b5, b6, b7⟩, _⟩ := y1 o ho; exact ⟨b1, b2, b3, b4, b5, b6, b7⟩, z1, Nat.le_refl _⟩
  have h2 : OpsAt a a.heap.size v2 m := ⟨x2, fun o ho => by obtain ⟨⟨b1, b2, b3, b4, b5, b6, b7⟩, _⟩ := y2 o ho; exact ⟨b1, b2, b3, b4, b5, b6, b7⟩, z2, Nat.le_refl _⟩
  have hl : ∀ w, Only [] a w → Calls Try.prog 25 #[v1] w fun e w' => RetB e (LightQ l) ∧ Only [] w w' := fun w hw => light_any (h1.only hw (by simp))
  have hm : ∀ w, Only [] a w → Calls Try.prog 25 #[v2] w fun e w' => RetB e (LightQ m) ∧ Only [] w w' := fun w hw => light_any (h2.only hw (by simp))
  by_cases hb : 40 < l.length ∨ 40 < m.length
  · exact twins_big v1 v2 l m a h1 h2 hl hm hb
  · exact twins_go v1 v2 l m a h1 h2 hl hm (by omega) (by omega)
end Go.Proofs.Ytgahjdfjlfoioaa
