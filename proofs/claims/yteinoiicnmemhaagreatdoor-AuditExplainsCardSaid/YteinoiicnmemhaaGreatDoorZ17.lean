/- Proved here: contracts of functions and plain laws, part 17 of one proof. Conditions: each theorem names its own. -/
import Derived.Test.YteinoiicnmemhaaGreatDoorZ16
set_option linter.unusedSimpArgs false
set_option linter.unusedVariables false
namespace Go.Proofs.YteinoiicnmemhaaGreatDoor
section
open Go.RowKit
set_option maxRecDepth 100000 in
theorem cloneS_any {w : World} {pv : Value} {l : List StoredR} (h : Slc w 8 pv l.length (l.flatMap StoredR.cells)) (hb : l.length ≤ 1000000000) :
    Calls Tryz.prog 121 #[pv] w fun e w' => ∃ v', e = .returned v' ∧ w'.ownsRow w.heap.size 92 8 v' l.length (l.flatMap StoredR.cells) ∧ Only [] w w' := by
  obtain ⟨j0, hj, hy0, hy1, hy2⟩ := info_parts infoSt
  obtain ⟨A, cap, rfl, hnc, hcm, hl, hc⟩ := h.cell
  have hq := fun W a n c n' c' => Lib.run_eql_slice_nil (P := Tryz.prog) W 28 _ a n c n' c' Tryz.underlying28
  cases A with
  | none =>
    have h0 : l = [] := by
      rcases hc with q | ⟨b, off, q, _⟩
      · exact List.length_eq_zero_iff.1 q
      · cases q
    subst h0
    go_enter Tryz.func121, Tryz.ntmps121
    go_wp2
    go_ret
    exact ⟨_, rfl, World.ownsRow_nil _ _ _ _, Only.refl _ _⟩
  | some ad =>
    obtain ⟨b, off, sp⟩ := ad
    have hcell : ∀ j u, (l.flatMap StoredR.cells)[j]? = some u → (w.alloc (.cells #[] 92)).cell? ((⟨b, off, sp⟩ : Addr).add j) = some u := by
      intro j u hu
      have hj : j < (l.flatMap StoredR.cells).length := (List.getElem?_eq_some_iff.1 hu).1
      rcases hc with q | ⟨b', off', q, hb', hcc⟩
      · rw [hl] at hj; omega
      · cases q
        have := hcc j hj
        rw [hu] at this
        rw [show ((⟨b, off, none⟩ : Addr).add j) = ⟨b, off + j, none⟩ by simp [Addr.add]]
        exact (World.cell?_alloc_lt w _ ⟨b, off + j, none⟩ hb').trans this
    have hone : ∀ u ∈ l.flatMap StoredR.cells, u.oneCell' = true := by
      intro u hu
      obtain ⟨x, _, hx⟩ := List.mem_flatMap.1 hu
      simp [StoredR.cells, EventR.cells] at hx
      rcases hx with rfl | rfl | rfl | rfl | rfl | rfl | rfl | rfl <;> rfl
    unfold maxLen at hcm
    obtain ⟨cs, hcs⟩ : ∃ cs, cs = l.flatMap StoredR.cells := ⟨_, rfl⟩
    rw [← hcs] at hcell hone hl ⊢
    clear hc hcs
    go_enter Tryz.func121, Tryz.ntmps121
    go_wp2_with (at_builtin; refine wpList_append_own _ rfl (.tmp 5) (.tmp 6) 28 rfl w.heap.size 92 j0 (.agg #[.int .i64 0, .string ⟨#[]⟩, .string ⟨#[]⟩, .float .f64 0, .string ⟨#[]⟩, .int .i64 0, .int .i64 0, .int .i64 0]) 8 88 Tryz.underlying28 hj hy0 hy1 hy2 rfl (by decide) _ 0 [] rfl (World.ownsRow_made w #[] 0 (Nat.le_refl _) (Nat.zero_le _) rfl) ⟨b, off, sp⟩ l.length cap cs rfl hl hcell ?c2 ?c3 ?c4 ?c5 ?_)
    case c2 => exact hone
    case c3 => unfold maxLen; omega
    case c4 => omega
    case c5 => simp
    intro v' w4 hown' hgrow _
    have hown2 : w4.ownsRow w.heap.size 92 8 v' l.length cs := by simpa using hown'
    have ho4 : Only [] w w4 := ((Only.refl [] w).alloc _).grown hgrow (fun k hk => .inr (by cases hk; exact Nat.le_refl _))
    clear hgrow
    go_wp2
    go_ret
    exact ⟨_, rfl, hown2, ho4⟩
section
variable {a w : World} {R E : List Nat} {sb mb N : Nat} {s : MS}
set_option maxRecDepth 100000 in
theorem everyS_any {M : List Nat} {av : Value} {pf : ByteArray → Value} (h : StAt w M sb mb av pf s) (hs : s.all.length ≤ 1000000) :
    Calls Tryz.prog 109 #[.pointer (some ⟨sb, 0, none⟩)] w fun e w' => ∃ v', e = .returned v' ∧ w'.ownsRow w.heap.size 92 8 v' s.all.length (s.all.flatMap StoredR.cells) ∧ Only [] w w' := by
  have hsl := (Slc.of_own h.own).1
  obtain ⟨A2, cap2, rfl, hnc2, hcm2, hel2⟩ := h.cell
  have c0 : w.cell? ⟨sb, 0, none⟩ = some (.slice A2 s.all.length cap2) := h.blk.cell 0
  have HC := Lib.hid (cloneS_any hsl (by omega))
  clear hel2 hsl
  go_enter Tryz.func109, Tryz.ntmps109
  go_wp2_with (go_at_call 121; refine HC.out.mono ?_; rintro e w1 ⟨v1, rfl, hown1, ho1⟩)
  go_ret
  exact ⟨_, rfl, hown1, ho1⟩
theorem has_every (h : HasS a w R E sb mb s N) (hN : N ≤ 100000) :
    Calls Tryz.prog 109 #[.pointer (some ⟨sb, 0, none⟩)] w fun e w' => ∃ v', e = .returned v' ∧ w'.ownsRow w.heap.size 92 8 v' s.all.length (s.all.flatMap StoredR.cells) ∧ Only [] w w' := by
  obtain ⟨M, av, pf, h1, _⟩ := h.st
  exact everyS_any h1 (by have := h.ok.all; omega)
end
/-! ## SameStored -/
def bitsOf (b : Nat) : Nat := if isNaN b then 9221120237041090560 else b
end
section
open Go.RowKit
set_option maxRecDepth 100000 in
theorem rbits_any (b : Nat) (w : World) : Calls Tryz.prog 140 #[.float .f64 b] w fun e w' => e = .returned (.int .u64 (canon b : Int)) ∧ w = w' := by
  have hf := fun b W => to_run b W
  go_enter Tryz.func140, Tryz.ntmps140
  go_wp2_with (go_at_call 100; refine (canon_any _ _).mono ?_; rintro e w' ⟨rfl, rfl⟩)
  go_ret
  exact ⟨rfl, rfl⟩
end
section
open Go.RowKit
set_option maxRecDepth 100000 in
theorem r1bits_any (b : Nat) (w : World) : Calls Tryz.prog 71 #[.float .f64 b] w fun e w' => e = .returned (.int .u64 (bitsOf b : Int)) ∧ w = w' := by
  have hf := fun W => to_run b W
  cases hb : isNaN b
  · have hr : Hid (bitsOf b = b) := by unfold Hid bitsOf; rw [hb]; rfl
    unfold isNaN at hb
    go_enter Tryz.func71, Tryz.ntmps71
    go_wp2
    go_ret
    exact ⟨by rw [hr.out]; rfl, rfl⟩
  · have hr : Hid (bitsOf b = 9221120237041090560) := by unfold Hid bitsOf; rw [hb]; rfl
    unfold isNaN at hb
    go_enter Tryz.func71, Tryz.ntmps71
    go_wp2
    go_ret
    exact ⟨by rw [hr.out]; rfl, rfl⟩
end
section
open Go.RowKit
def sameFQ (a b : Nat) : Bool := decide (canon a = canon b)
def sameEQ (x y : EventR) : Bool := decide (x.id = y.id) && decide (x.type.toList = y.type.toList) && decide (x.data.toList = y.data.toList) && sameFQ x.value y.value
def sameSQ (x y : StoredR) : Bool := sameEQ x.ev y.ev && decide (x.stream.toList = y.stream.toList) && decide (x.version = y.version) && decide (x.position = y.position) && decide (x.time = y.time)
def sameLQ : List StoredR → List StoredR → Bool
  | [], [] => true
  | x :: l, y :: m => sameSQ x y && sameLQ l m
  | _, _ => false
theorem sameSQ_refl (x : StoredR) : sameSQ x x = true := by simp [sameSQ, sameEQ, sameFQ]
theorem sameLQ_refl : ∀ l : List StoredR, sameLQ l l = true
  | [] => rfl
  | x :: l => by show (sameSQ x x && sameLQ l l) = true; rw [sameSQ_refl, sameLQ_refl l]; rfl
set_option maxRecDepth 100000 in
theorem rsameQ_any (a b : Nat) (w : World) : Calls Tryz.prog 104 #[.float .f64 a, .float .f64 b] w fun e w' => e = .returned (.bool (sameFQ a b)) ∧ w = w' := by
  have HB := Lib.hid (fun (b : Nat) W => rbits_any b W)
  by_cases h : canon a = canon b
  · have hb : ((canon a : Int) == (canon b : Int)) = true := by rw [h]; simp
    have e : sameFQ a b = true := decide_eq_true h
    rw [e]
    clear e h
    go_enter Tryz.func104, Tryz.ntmps104
    go_wp2_with (go_at_call 140; refine (HB.out _ _).mono ?_; rintro e w' ⟨rfl, rfl⟩)
    go_ret
    exact ⟨ret_b (by simp), rfl⟩
  · have hb : ((canon a : Int) == (canon b : Int)) = false := by rw [beq_eq_false_iff_ne]; omega
    have e : sameFQ a b = false := decide_eq_false h
    rw [e]
    clear e h
    go_enter Tryz.func104, Tryz.ntmps104
    go_wp2_with (go_at_call 140; refine (HB.out _ _).mono ?_; rintro e w' ⟨rfl, rfl⟩)
    go_ret
    exact ⟨ret_b (by simp), rfl⟩
set_option maxRecDepth 100000 in
set_option maxHeartbeats 2000000 in
theorem esameQ_any (x y : EventR) (w : World) : Calls Tryz.prog 72 #[.agg #[.int .i64 x.id, .string x.type, .string x.data, .float .f64 x.value], .agg #[.int .i64 y.id, .string y.type, .string y.data, .float .f64 y.value]] w fun e w' => e = .returned (.bool (sameEQ x y)) ∧ Only [] w w' := by
  have HS := Lib.hid (fun W => rsameQ_any x.value y.value W)
  by_cases h1 : x.id = y.id
  · by_cases h2 : x.type.toList = y.type.toList
    · have b2 : (x.type.toList == y.type.toList) = true := by rw [beq_iff_eq]; exact h2
      by_cases h3 : x.data.toList = y.data.toList
      · have b3 : (x.data.toList == y.data.toList) = true := by rw [beq_iff_eq]; exact h3
        go_enter Tryz.func72, Tryz.ntmps72
        go_wp2_with (go_at_call 104; refine (HS.out _).mono ?_; rintro e w' ⟨rfl, rfl⟩)
        go_ret
        exact ⟨ret_b (by simp [sameEQ, h1, h2, h3]), ((Only.refl [] w).alloc _).alloc _⟩
      · have b3 : (x.data.toList == y.data.toList) = false := by rw [beq_eq_false_iff_ne]; exact h3
        go_enter Tryz.func72, Tryz.ntmps72
        go_wp2_with (go_at_call 104; refine (HS.out _).mono ?_; rintro e w' ⟨rfl, rfl⟩)
        go_ret
        exact ⟨ret_b (by simp [sameEQ, h1, h2, h3]), ((Only.refl [] w).alloc _).alloc _⟩
    · have b2 : (x.type.toList == y.type.toList) = false := by rw [beq_eq_false_iff_ne]; exact h2
      go_enter Tryz.func72, Tryz.ntmps72
      go_wp2_with (go_at_call 104; refine (HS.out _).mono ?_; rintro e w' ⟨rfl, rfl⟩)
      go_ret
      exact ⟨ret_b (by simp [sameEQ, h1, h2]), ((Only.refl [] w).alloc _).alloc _⟩
  · go_enter Tryz.func72, Tryz.ntmps72
    go_wp2_with (go_at_call 104; refine (HS.out _).mono ?_; rintro e w' ⟨rfl, rfl⟩)
    go_ret
    exact ⟨ret_b (by simp [sameEQ, h1]), ((Only.refl [] w).alloc _).alloc _⟩
set_option maxRecDepth 100000 in
set_option maxHeartbeats 2000000 in
theorem vsameQ_any (x y : StoredR) (w : World) : Calls Tryz.prog 33 #[.agg #[.int .i64 x.ev.id, .string x.ev.type, .string x.ev.data, .float .f64 x.ev.value, .string x.stream, .int .i64 x.version, .int .i64 x.position, .int .i64 x.time], .agg #[.int .i64 y.ev.id, .string y.ev.type, .string y.ev.data, .float .f64 y.ev.value, .string y.stream, .int .i64 y.version, .int .i64 y.position, .int .i64 y.time]] w fun e w' => e = .returned (.bool (sameSQ x y)) ∧ Only [] w w' := by
  have HE := Lib.hid (fun W => esameQ_any x.ev y.ev W)
  have kB : ∀ cs t o1, Blk ((w.alloc o1).alloc (.cells cs t)) (w.heap.size + 1) t cs := fun cs t o1 => by
    have := Blk.new (w.alloc o1) t cs
    rw [World.size_alloc] at this
    exact this
  cases h1 : sameEQ x.ev y.ev with
  | false =>
    rw [h1] at HE
    go_enter Tryz.func33, Tryz.ntmps33
    go_wp2_with (go_at_call 72; refine (HE.out _).mono ?_; rintro e w1 ⟨rfl, ho1⟩
                 have ha := fun i => (ho1.blk (((Only.refl [] _).alloc _).blk (Blk.new w 92 _) (by simp)) (by simp)).cell i
                 have hb := fun i => (ho1.blk (kB _ _ _) (by simp)).cell i)
    go_ret
    exact ⟨ret_b (by simp [sameSQ, h1]), (((Only.refl [] w).alloc _).alloc _).trans ho1⟩
  | true =>
    rw [h1] at HE
    by_cases h2 : x.stream.toList = y.stream.toList
    · have b2 : (x.stream.toList == y.stream.toList) = true := by rw [beq_iff_eq]; exact h2
      by_cases h3 : x.version = y.version
      · by_cases h4 : x.position = y.position
        · by_cases h5 : x.time = y.time
          · go_enter Tryz.func33, Tryz.ntmps33
            go_wp2_with (go_at_call 72; refine (HE.out _).mono ?_; rintro e w1 ⟨rfl, ho1⟩
                         have ha := fun i => (ho1.blk (((Only.refl [] _).alloc _).blk (Blk.new w 92 _) (by simp)) (by simp)).cell i
                         have hb := fun i => (ho1.blk (kB _ _ _) (by simp)).cell i)
            go_ret
            exact ⟨ret_b (by simp [sameSQ, h1, h2, h3, h4, h5]), (((Only.refl [] w).alloc _).alloc _).trans ho1⟩
          · have b5 : (x.time == y.time) = false := by rw [beq_eq_false_iff_ne]; exact h5
            go_enter Tryz.func33, Tryz.ntmps33
            go_wp2_with (go_at_call 72; refine (HE.out _).mono ?_; rintro e w1 ⟨rfl, ho1⟩
                         have ha := fun i => (ho1.blk (((Only.refl [] _).alloc _).blk (Blk.new w 92 _) (by simp)) (by simp)).cell i
                         have hb := fun i => (ho1.blk (kB _ _ _) (by simp)).cell i)
            go_ret
            exact ⟨ret_b (by simp [sameSQ, h1, h2, h3, h4, h5]), (((Only.refl [] w).alloc _).alloc _).trans ho1⟩
        · have b5 : (x.position == y.position) = false := by rw [beq_eq_false_iff_ne]; exact h4
          go_enter Tryz.func33, Tryz.ntmps33
          go_wp2_with (go_at_call 72; refine (HE.out _).mono ?_; rintro e w1 ⟨rfl, ho1⟩
                       have ha := fun i => (ho1.blk (((Only.refl [] _).alloc _).blk (Blk.new w 92 _) (by simp)) (by simp)).cell i
                       have hb := fun i => (ho1.blk (kB _ _ _) (by simp)).cell i)
          go_ret
          exact ⟨ret_b (by simp [sameSQ, h1, h2, h3, h4]), (((Only.refl [] w).alloc _).alloc _).trans ho1⟩
      · have b5 : (x.version == y.version) = false := by rw [beq_eq_false_iff_ne]; exact h3
        go_enter Tryz.func33, Tryz.ntmps33
        go_wp2_with (go_at_call 72; refine (HE.out _).mono ?_; rintro e w1 ⟨rfl, ho1⟩
                     have ha := fun i => (ho1.blk (((Only.refl [] _).alloc _).blk (Blk.new w 92 _) (by simp)) (by simp)).cell i
                     have hb := fun i => (ho1.blk (kB _ _ _) (by simp)).cell i)
        go_ret
        exact ⟨ret_b (by simp [sameSQ, h1, h2, h3]), (((Only.refl [] w).alloc _).alloc _).trans ho1⟩
    · have b2 : (x.stream.toList == y.stream.toList) = false := by rw [beq_eq_false_iff_ne]; exact h2
      go_enter Tryz.func33, Tryz.ntmps33
      go_wp2_with (go_at_call 72; refine (HE.out _).mono ?_; rintro e w1 ⟨rfl, ho1⟩
                   have ha := fun i => (ho1.blk (((Only.refl [] _).alloc _).blk (Blk.new w 92 _) (by simp)) (by simp)).cell i
                   have hb := fun i => (ho1.blk (kB _ _ _) (by simp)).cell i)
      go_ret
      exact ⟨ret_b (by simp [sameSQ, h1, h2]), (((Only.refl [] w).alloc _).alloc _).trans ho1⟩
theorem sameLQ_drop {l m : List StoredR} {k : Nat} (h1 : k < l.length) (h2 : k < m.length) : sameLQ (l.drop k) (m.drop k) = (sameSQ l[k] m[k] && sameLQ (l.drop (k + 1)) (m.drop (k + 1))) := by
  rw [List.drop_eq_getElem_cons h1, List.drop_eq_getElem_cons h2]
  rfl
theorem sameLQ_len : ∀ (l m : List StoredR), l.length ≠ m.length → sameLQ l m = false
  | [], [], h => absurd rfl h
  | [], _ :: _, _ => rfl
  | _ :: _, [], _ => rfl
  | x :: l, y :: m, h => by
    simp only [sameLQ, sameLQ_len l m (by simpa using h), Bool.and_false]
set_option maxRecDepth 100000 in
set_option maxHeartbeats 2000000 in
theorem eqStQ_any {w : World} {v1 v2 : Value} {l m : List StoredR} (h1 : Slc w 8 v1 l.length (l.flatMap StoredR.cells)) (h2 : Slc w 8 v2 m.length (m.flatMap StoredR.cells)) (hbl : l.length ≤ 1000000) (hbm : m.length ≤ 1000000) :
    Calls Tryz.prog 32 #[v1, v2, .func (.func 33) #[] #[]] w fun e w' => e = .returned (.bool (sameLQ l m)) ∧ Only [] w w' := by
  obtain ⟨A1, cap1, rfl, hn1, hc1, hel1⟩ := h1.openE StoredR.cells (fun _ => rfl)
  obtain ⟨A2, cap2, rfl, hn2, hc2, hel2⟩ := h2.openE StoredR.cells (fun _ => rfl)
  unfold maxLen at hc1 hc2
  clear h1 h2
  by_cases hlm : l.length = m.length
  · have hb : ((l.length : Int) != m.length) = false := by rw [hlm]; simp
    have HLM := Lib.hid hlm
    have hR : Hid (sameLQ l m = sameLQ (l.drop 0) (m.drop 0)) := rfl
    clear hlm
    go_enter Tryz.func32, Tryz.ntmps32
    go_wp2
    go_loopw [17] (fun i wr => ∃ k : Nat, k ≤ l.length ∧ i = .int .i64 k ∧ Hid (sameLQ l m = sameLQ (l.drop k) (m.drop k)) ∧ Only [] w wr) (fun i _ => l.length - (intOf i).toNat)
    case atStart => exact ⟨0, Nat.zero_le _, rfl, hR, Only.refl _ _⟩
    case round =>
      obtain ⟨k, hk, rfl, hT, hO⟩ := hrel
      by_cases hlt : k < l.length
      · have hlt2 : k < m.length := by rw [← HLM.out]; exact hlt
        obtain ⟨b1, off1, rfl, hb1, hcc1⟩ := hel1 k hlt
        obtain ⟨b2, off2, rfl, hb2, hcc2⟩ := hel2 k hlt2
        have hd := sameLQ_drop hlt hlt2
        obtain ⟨x, hx⟩ : ∃ x, x = l[k] := ⟨_, rfl⟩
        obtain ⟨y, hy⟩ : ∃ y, y = m[k] := ⟨_, rfl⟩
        rw [← hx] at hcc1 hd
        rw [← hy] at hcc2 hd
        have c0 : wr.cell? ⟨b1, off1 + k * 8, none⟩ = some (.int .i64 x.ev.id) := (hO.cell hb1 (by simp)).trans (hcc1 0 (by omega))
        have c1 : wr.cell? ⟨b1, off1 + k * 8 + 1, none⟩ = some (.string x.ev.type) := (hO.cell hb1 (by simp)).trans (hcc1 1 (by omega))
        have c2 : wr.cell? ⟨b1, off1 + k * 8 + 2, none⟩ = some (.string x.ev.data) := (hO.cell hb1 (by simp)).trans (hcc1 2 (by omega))
        have c3 : wr.cell? ⟨b1, off1 + k * 8 + 3, none⟩ = some (.float .f64 x.ev.value) := (hO.cell hb1 (by simp)).trans (hcc1 3 (by omega))
        have c4 : wr.cell? ⟨b1, off1 + k * 8 + 4, none⟩ = some (.string x.stream) := (hO.cell hb1 (by simp)).trans (hcc1 4 (by omega))
        have c5 : wr.cell? ⟨b1, off1 + k * 8 + 5, none⟩ = some (.int .i64 x.version) := (hO.cell hb1 (by simp)).trans (hcc1 5 (by omega))
        have c6 : wr.cell? ⟨b1, off1 + k * 8 + 6, none⟩ = some (.int .i64 x.position) := (hO.cell hb1 (by simp)).trans (hcc1 6 (by omega))
        have c7 : wr.cell? ⟨b1, off1 + k * 8 + 7, none⟩ = some (.int .i64 x.time) := (hO.cell hb1 (by simp)).trans (hcc1 7 (by omega))
        have kk : ∀ (o : Obj) (r : Nat) u, (y.cells)[r]? = some u → r < 8 → (wr.alloc o).cell? ⟨b2, off2 + k * 8 + r, none⟩ = some u := fun o r u hu hr => (((hO.alloc o).cell hb2 (by simp)).trans (hcc2 r hr)).trans hu
        have d0 : ∀ o, (wr.alloc o).cell? ⟨b2, off2 + k * 8, none⟩ = some (.int .i64 y.ev.id) := fun o => kk o 0 _ rfl (by omega)
        have d1 : ∀ o, (wr.alloc o).cell? ⟨b2, off2 + k * 8 + 1, none⟩ = some (.string y.ev.type) := fun o => kk o 1 _ rfl (by omega)
        have d2 : ∀ o, (wr.alloc o).cell? ⟨b2, off2 + k * 8 + 2, none⟩ = some (.string y.ev.data) := fun o => kk o 2 _ rfl (by omega)
        have d3 : ∀ o, (wr.alloc o).cell? ⟨b2, off2 + k * 8 + 3, none⟩ = some (.float .f64 y.ev.value) := fun o => kk o 3 _ rfl (by omega)
        have d4 : ∀ o, (wr.alloc o).cell? ⟨b2, off2 + k * 8 + 4, none⟩ = some (.string y.stream) := fun o => kk o 4 _ rfl (by omega)
        have d5 : ∀ o, (wr.alloc o).cell? ⟨b2, off2 + k * 8 + 5, none⟩ = some (.int .i64 y.version) := fun o => kk o 5 _ rfl (by omega)
        have d6 : ∀ o, (wr.alloc o).cell? ⟨b2, off2 + k * 8 + 6, none⟩ = some (.int .i64 y.position) := fun o => kk o 6 _ rfl (by omega)
        have d7 : ∀ o, (wr.alloc o).cell? ⟨b2, off2 + k * 8 + 7, none⟩ = some (.int .i64 y.time) := fun o => kk o 7 _ rfl (by omega)
        have HS := Lib.hid (fun W => vsameQ_any x y W)
        have hsf := stF
        have hki : (k : Int) < m.length := by omega
        clear hcc1 hcc2 hx hy hel1 hel2 kk
        cases hs : sameSQ x y with
        | true =>
          rw [hs] at HS
          have HN : Hid (sameLQ l m = sameLQ (l.drop (k + 1)) (m.drop (k + 1))) := by unfold Hid; rw [hT.out, hd, hs, Bool.true_and]
          clear hd hs hT
          go_wp2_with (go_at_call 33; refine (HS.out _).mono ?_; rintro e w1 ⟨rfl, ho1⟩)
          exact ⟨⟨k + 1, hlt, by simp, HN, ((hO.alloc _).alloc _).trans ho1⟩, by simp [intOf]; omega⟩
        | false =>
          rw [hs] at HS
          have HN : Hid (sameLQ l m = false) := by unfold Hid; rw [hT.out, hd, hs, Bool.false_and]
          clear hd hs hT
          go_wp2_with (go_at_call 33; refine (HS.out _).mono ?_; rintro e w1 ⟨rfl, ho1⟩)
          go_ret
          exact ⟨ret_b (by rw [HN.out]), ((hO.alloc _).alloc _).trans ho1⟩
      · have HN : Hid (sameLQ l m = true) := by
          unfold Hid
          rw [hT.out, List.drop_of_length_le (by omega), List.drop_of_length_le (by have := HLM.out; omega)]
          rfl
        clear hel1 hel2
        go_wp2
        go_ret
        exact ⟨ret_b (by rw [HN.out]), hO⟩
  · have hb : ((l.length : Int) != m.length) = true := by rw [bne_iff_ne]; omega
    have HN : Hid (sameLQ l m = false) := sameLQ_len l m hlm
    clear hlm hel1 hel2
    go_enter Tryz.func32, Tryz.ntmps32
    go_wp2
    go_ret
    exact ⟨ret_b (by rw [HN.out]), Only.refl _ _⟩
end
section
open Go.RowKit
theorem young_mono (age : Int) : ∀ (ts : List Int) (n1 n2 : Int), n1 ≤ n2 → young age n1 ts ≤ young age n2 ts
  | [], _, _, _ => Int.le_refl _
  | t :: ts, n1, n2, h => by
    have hn : ∀ (l : List Int) (n : Int), 0 ≤ young age n l := fun l n => (young_bd age n l).1
    simp only [young]
    by_cases h1 : n1 - age < t
    · rw [if_pos h1]
      split
      · exact Int.le_refl _
      · have := hn ts n2
        omega
    · rw [if_neg h1, if_neg (by omega)]
      have := young_mono age ts n1 n2 h
      omega
theorem floorE_mono (m : MetaR) (f n1 n2 : Int) (ts : List Int) (h : n1 ≤ n2) : floorE m f n1 ts ≤ floorE m f n2 ts := by
  unfold floorE
  dsimp only
  have := young_mono m.maxAge ts n1 n2 h
  split
  · omega
  · exact Int.le_refl _
theorem floorE_ge (m : MetaR) (f now : Int) (ts : List Int) : min f ts.length ≤ floorE m f now ts := by
  unfold floorE
  dsimp only
  generalize young m.maxAge now ts = y
  split <;> split <;> omega
theorem times_congr {all all' : List StoredR} {x : StreamR} (hb : ∀ p ∈ x.places, 0 ≤ p ∧ p < all.length) (ha : ∃ more, all' = all ++ more) : times all' x = times all x := by
  obtain ⟨more, rfl⟩ := ha
  unfold times
  refine List.map_congr_left fun p hp => ?_
  obtain ⟨h0, h1⟩ := hb p hp
  obtain ⟨q, rfl⟩ := Int.eq_ofNat_of_zero_le h0
  have hq : q < all.length := by omega
  unfold timeAt
  rw [Int.toNat_natCast, List.getElem?_append_left hq]
end
section
open Go.RowKit
structure DStr where
  name : ByteArray
  mt : MetaR
  kept : Int
  deleted : Bool
structure RS where
  l : List StoredR
  s : List DStr
  now : Int
  done : Int
def putD : List DStr → DStr → List DStr
  | [], x => [x]
  | y :: l, x => if y.name = x.name then x :: l else y :: putD l x
def firstAt (id : Int) : List StoredR → Int → Int
  | [], _ => -1
  | e :: l, k => if e.ev.id = id then k else firstAt id l (k + 1)
def idsAt : List EventR → List StoredR → Bool
  | [], _ => true
  | _ :: _, [] => false
  | e :: es, x :: xs => decide (x.ev.id = e.id) && idsAt es xs
def fitsD (e count : Int) : Bool := if e = -2 then true else if e = -1 then decide (count = 0) else if e = -4 then decide (0 < count) else decide (e = count - 1) && decide (0 < count)
namespace RS
def new : RS := ⟨[], [], 0, 0⟩
def get (r : RS) (n : ByteArray) : DStr := (r.s.find? (fun x => decide (x.name = n))).getD ⟨n, MetaR.zero, 0, false⟩
def put (r : RS) (x : DStr) : RS := { r with s := putD r.s x }
def of (r : RS) (n : ByteArray) : List StoredR := r.l.filter (fun e => decide (e.stream = n))
def floor (r : RS) (n : ByteArray) : Int := floorE (r.get n).mt (r.get n).kept r.now ((r.of n).map (·.time))
def keep (r : RS) (n : ByteArray) : RS := r.put { r.get n with kept := r.floor n }
def tick (r : RS) (t : Int) : RS := { r with now := max r.now t, done := r.done + 1 }
def goodAt (c : Cmd) (l : List StoredR) (v : Int) : Bool :=
  decide (v + c.events.length ≤ l.length) && (decide (c.expected = -2) || decide (c.expected = -4) || decide (c.expected = v - 1)) && idsAt c.events (l.drop v.toNat)
def wrongD (l : List StoredR) : Ans := ⟨22, l.length - 1, 0, false⟩
def act (r : RS) (c : Cmd) : Ans × RS :=
  let l := r.of c.stream
  let here : Ans := ⟨0, l.length, r.l.length, false⟩
  if c.kind = 2 then (here, ((r.keep c.stream).put { (r.keep c.stream).get c.stream with mt := c.mt }).keep c.stream)
  else if c.kind = 3 then
    if fitsD c.expected l.length = false then (wrongD l, r.keep c.stream)
    else (here, (r.put { r.get c.stream with deleted := true }).keep c.stream)
  else
    let v := firstAt ((c.events.head?).map (·.id) |>.getD 0) l 0
    if 0 ≤ v then (if goodAt c l v then ⟨0, v, ((l[(v + c.events.length - 1).toNat]?).map (·.position)).getD 0, true⟩ else wrongD l, r.keep c.stream)
    else if fitsD c.expected l.length = false then (wrongD l, r.keep c.stream)
    else (⟨0, l.length, r.l.length + c.events.length - 1, false⟩, { r with l := r.l ++ storedOf c.stream r.now c.events l.length r.l.length }.keep c.stream)
end RS
def RS.do (r : RS) (c : Cmd) : Ans × RS :=
  if c.check ≠ 0 then (⟨c.check, 0, 0, false⟩, r)
  else
    let r1 := r.tick c.time
    if 4 ≤ c.kind then (⟨0, 0, r.l.length, false⟩, r1)
    else if (r1.get c.stream).deleted then (⟨23, 0, 0, false⟩, r1.keep c.stream)
    else r1.act c
theorem get_name (r : RS) (n : ByteArray) : (r.get n).name = n := by
  unfold RS.get
  cases h : r.s.find? (fun x => decide (x.name = n)) with
  | none => rfl
  | some x => simpa using List.find?_some h
theorem putD_find (n : ByteArray) : ∀ (l : List DStr) (x : DStr), (putD l x).find? (fun y => decide (y.name = n)) = if x.name = n then some x else l.find? (fun y => decide (y.name = n))
  | [], x => by
    by_cases h : x.name = n
    · simp [putD, h]
    · simp [putD, h]
  | y :: l, x => by
    unfold putD
    by_cases h : y.name = x.name
    · rw [if_pos h, List.find?_cons, List.find?_cons]
      by_cases q : x.name = n
      · simp [q]
      · simp [q, h]
    · rw [if_neg h, List.find?_cons, List.find?_cons, putD_find n l x]
      by_cases q : x.name = n
      · have hy : ¬y.name = n := fun e => h (e.trans q.symm)
        simp [q, hy]
      · simp [q]
theorem get_put (r : RS) (x : DStr) (n : ByteArray) : (r.put x).get n = if x.name = n then x else r.get n := by
  unfold RS.put RS.get
  dsimp only
  rw [putD_find]
  split <;> rfl
theorem get_keep (r : RS) (m n : ByteArray) : (r.keep m).get n = if m = n then { r.get m with kept := r.floor m } else r.get n := by
  unfold RS.keep
  rw [get_put]
  dsimp only
  rw [get_name]
/-- What the two floors come to. -/
theorem floorE_mid {m : MetaR} {f k now : Int} {ts : List Int} (h1 : f ≤ k) (h2 : k ≤ floorE m f now ts) : floorE m k now ts = floorE m f now ts := by
  unfold floorE at *
  dsimp only at *
  generalize young m.maxAge now ts = y at *
  by_cases q1 : 0 < m.maxCount
  · by_cases q2 : 0 < m.maxAge
    · simp only [if_pos q1, if_pos q2] at *
      omega
    · simp only [if_pos q1, if_neg q2] at *
      omega
  · by_cases q2 : 0 < m.maxAge
    · simp only [if_neg q1, if_pos q2] at *
      omega
    · simp only [if_neg q1, if_neg q2] at *
      omega
theorem floorE_self (m : MetaR) (f now : Int) (ts : List Int) (hf : f ≤ ts.length) : floorE m (floorE m f now ts) now ts = floorE m f now ts :=
  floorE_mid (by have := floorE_ge m f now ts; omega) (Int.le_refl _)
theorem young_app (age now : Int) : ∀ (ts us : List Int), young age now ts ≤ young age now (ts ++ us)
  | [], us => (young_bd age now us).1
  | t :: ts, us => by
    simp only [List.cons_append, young]
    split
    · exact Int.le_refl _
    · have := young_app age now ts us
      omega
theorem floorE_app {m : MetaR} {f k now : Int} {ts us : List Int} (h0 : f ≤ ts.length) (h1 : f ≤ k) (h2 : k ≤ floorE m f now ts) : floorE m (floorE m f now ts) now (ts ++ us) = floorE m k now (ts ++ us) := by
  have hy := young_app m.maxAge now ts us
  unfold floorE at *
  dsimp only at *
  rw [List.length_append]
  generalize young m.maxAge now ts = y at *
  generalize young m.maxAge now (ts ++ us) = y' at *
  by_cases q1 : 0 < m.maxCount
  · by_cases q2 : 0 < m.maxAge
    · simp only [if_pos q1, if_pos q2] at *
      omega
    · simp only [if_pos q1, if_neg q2] at *
      omega
  · by_cases q2 : 0 < m.maxAge
    · simp only [if_neg q1, if_pos q2] at *
      omega
    · simp only [if_neg q1, if_neg q2] at *
      omega
/-- The document's state is the same as the program's. -/
structure Alike (s : MS) (r : RS) : Prop where
  l : r.l = s.all
  now : r.now = s.now
  done : r.done = s.done
  mt : ∀ n, (r.get n).mt = (s.find n).mt
  del : ∀ n, (r.get n).deleted = (s.find n).deleted
  kept : ∀ n, (s.find n).floor ≤ (r.get n).kept ∧ (r.get n).kept ≤ s.floorS n
section
variable {s : MS} {r : RS} {N : Nat}
theorem alike_new : Alike MS.new RS.new := ⟨rfl, rfl, rfl, fun _ => rfl, fun _ => rfl, fun n => ⟨Int.le_refl _, (floorS_bd _ n).1⟩⟩
theorem Alike.of (h : Alike s r) (h2 : s.Inv2) (n : ByteArray) : r.of n = (s.find n).places.map (evAt s.all) := by
  unfold RS.of
  rw [h.l, h2.1 n]
theorem times_evAt (all : List StoredR) (x : StreamR) : (x.places.map (evAt all)).map (·.time) = times all x := by
  unfold times
  rw [List.map_map]
  refine List.map_congr_left fun p _ => ?_
  show (evAt all p).time = timeAt all p
  unfold evAt timeAt
  cases all[p.toNat]? <;> rfl
theorem Alike.times (h : Alike s r) (h2 : s.Inv2) (n : ByteArray) : (r.of n).map (·.time) = times s.all (s.find n) := by rw [h.of h2, times_evAt]
theorem Alike.len (h : Alike s r) (h2 : s.Inv2) (n : ByteArray) : (r.of n).length = (s.find n).places.length := by rw [h.of h2, List.length_map]
theorem Alike.floor (h : Alike s r) (h2 : s.Inv2) (n : ByteArray) : r.floor n = s.floorS n := by
  unfold RS.floor MS.floorS MS.floorOf
  rw [h.times h2, h.mt, h.now]
  exact floorE_mid (h.kept n).1 (h.kept n).2
theorem Alike.tick (h : Alike s r) (t : Int) : Alike (s.tick t) (r.tick t) :=
  ⟨h.l, by show max r.now t = max s.now t; rw [h.now], by show r.done + 1 = s.done + 1; rw [h.done], h.mt, h.del, fun n => ⟨(h.kept n).1, Int.le_trans (h.kept n).2 (floorE_mono _ _ _ _ _ (by show s.now ≤ max s.now t; omega))⟩⟩
end
end
section
open Go.RowKit
section
variable {s s1 : MS} {r r1 R : RS} {N : Nat} {c : Cmd} {n : ByteArray} {A more : List StoredR} {y : StreamR} {X : DStr}
theorem floorOf_eq (s : MS) (x : StreamR) : s.floorOf x = floorE x.mt x.floor s.now (times s.all x) := rfl
theorem alike_put (h : Alike s1 r1) (hpl : ∀ m, ∀ p ∈ (s1.find m).places, 0 ≤ p ∧ p < s1.all.length) (hA : A = s1.all ++ more) (hR1 : R.l = A) (hR2 : R.now = r1.now) (hR3 : R.done = r1.done)
    (hget : ∀ m, R.get m = if n = m then X else r1.get m) (hm : X.mt = y.mt) (hd : X.deleted = y.deleted) (hk : X.kept = floorE y.mt y.floor s1.now (times A y)) (hf : y.floor ≤ (times A y).length) :
    Alike (({ s1 with all := A } : MS).keep n y) R := by
  have hfind : ∀ m, (({ s1 with all := A } : MS).keep n y).find m = if n = m then { y with floor := floorE y.mt y.floor s1.now (times A y) } else s1.find m := fun m => by
    unfold MS.keep
    rw [find_put]
    rfl
  have hnow : (({ s1 with all := A } : MS).keep n y).now = s1.now := rfl
  have hall : (({ s1 with all := A } : MS).keep n y).all = A := rfl
  have hfs : ∀ m, (({ s1 with all := A } : MS).keep n y).floorS m = if n = m then floorE y.mt (floorE y.mt y.floor s1.now (times A y)) s1.now (times A y) else s1.floorS m := fun m => by
    unfold MS.floorS
    rw [floorOf_eq, hfind, hnow, hall]
    by_cases e : n = m
    · rw [if_pos e, if_pos e]
      rfl
    · rw [if_neg e, if_neg e, times_congr (hpl m) ⟨more, hA⟩]
      rfl
  refine ⟨hR1, hR2.trans h.now, hR3.trans h.done, fun m => ?_, fun m => ?_, fun m => ?_⟩
  · rw [hget, hfind]
    split
    · exact hm
    · exact h.mt m
  · rw [hget, hfind]
    split
    · exact hd
    · exact h.del m
  · rw [hget, hfind, hfs]
    split
    · dsimp only
      rw [floorE_self _ _ _ _ hf, hk]
      exact ⟨Int.le_refl _, Int.le_refl _⟩
    · exact h.kept m
theorem get_putkeep (r : RS) {x : DStr} {n : ByteArray} (hx : x.name = n) (m : ByteArray) : ((r.put x).keep n).get m = if n = m then { x with kept := floorE x.mt x.kept r.now ((r.of n).map (·.time)) } else r.get m := by
  have h1 : (r.put x).get n = x := by rw [get_put, if_pos hx]
  have h2 : (r.put x).floor n = floorE x.mt x.kept r.now ((r.of n).map (·.time)) := by
    unfold RS.floor
    rw [h1]
    rfl
  rw [get_keep, h1, h2]
  by_cases e : n = m
  · rw [if_pos e, if_pos e]
  · rw [if_neg e, if_neg e, get_put, hx, if_neg e]
theorem same_all (s : MS) : ({ s with all := s.all } : MS) = s := rfl
theorem check_expects (h : c.check = 0) (hk : c.kind = 1 ∨ c.kind = 3) : expects c.expected = true := by
  unfold Cmd.check at h
  split at h
  · cases h
  · split at h
    · cases h
    · split at h
      · rename_i q
        exact absurd h q.2
      · split at h
        · cases h
        · rename_i q
          cases he : expects c.expected with
          | true => rfl
          | false => exact absurd ⟨hk, he⟩ q
theorem fits_expected {e : Int} (h : expects e = true) (k : Nat) : fitsD e k = expected e k := by
  unfold fitsD expected
  split
  · rfl
  · split
    · rfl
    · split
      · rfl
      · unfold expects within at h
        simp only [Bool.or_eq_true, Bool.and_eq_true, decide_eq_true_eq] at h
        by_cases q : e = (k : Int) - 1
        · rw [decide_eq_true q, decide_eq_true (by omega : (0 : Int) < k)]
          rfl
        · rw [decide_eq_false q]
          rfl
theorem idAt_ev (all : List StoredR) (p : Int) : idAt all p = (evAt all p).ev.id := by
  unfold idAt evAt
  cases all[p.toNat]? <;> rfl
theorem first_ev (all : List StoredR) (id : Int) : ∀ (ps : List Int) (k : Int), firstAt id (ps.map (evAt all)) k = firstOf all id ps k
  | [], _ => rfl
  | p :: ps, k => by
    simp only [List.map_cons, firstAt, firstOf, idAt_ev]
    split
    · rfl
    · exact first_ev all id ps (k + 1)
theorem ids_ev (all : List StoredR) : ∀ (es : List EventR) (ps : List Int), idsAt es (ps.map (evAt all)) = sameIds all es ps
  | [], ps => by cases ps <;> rfl
  | e :: es, [] => rfl
  | e :: es, p :: ps => by
    simp only [List.map_cons, idsAt, sameIds, idAt_ev]
    rw [ids_ev all es ps]
theorem again_good (h : Alike s r) (hi : s.Inv) (h2 : s.Inv2) (hl : 1 ≤ c.events.length) {v : Int} (hv : 0 ≤ v) (f : Int) :
    (if RS.goodAt c (r.of n) v then (⟨0, v, (((r.of n)[(v + c.events.length - 1).toNat]?).map (·.position)).getD 0, true⟩ : Ans) else RS.wrongD (r.of n)) = s.again c { s.find n with floor := f } v := by
  have hlen : (r.of n).length = (s.find n).places.length := h.len h2 n
  have hw : RS.wrongD (r.of n) = wrong { s.find n with floor := f } := by unfold RS.wrongD wrong; rw [hlen]
  have hids : idsAt c.events ((r.of n).drop v.toNat) = sameIds s.all c.events ((s.find n).places.drop v.toNat) := by rw [h.of h2, ← List.map_drop, ids_ev]
  unfold MS.again
  dsimp only
  by_cases h1 : v + c.events.length ≤ (s.find n).places.length
  · by_cases h3 : fitsAgain c v = true
    · have h4 : (decide (c.expected = -2) || decide (c.expected = -4) || decide (c.expected = v - 1)) = true := by
        unfold fitsAgain at h3
        simp only [Bool.or_eq_true, Bool.and_eq_true, decide_eq_true_eq] at h3 ⊢
        omega
      have hg : RS.goodAt c (r.of n) v = sameIds s.all c.events ((s.find n).places.drop v.toNat) := by
        unfold RS.goodAt
        rw [h4, hlen, decide_eq_true h1, hids]
        simp
      have hc : ¬(fitsAgain c v = false ∨ ((s.find n).places.length : Int) - v < c.events.length) := by rw [h3]; simp; omega
      rw [if_neg hc, hg]
      cases hs : sameIds s.all c.events ((s.find n).places.drop v.toNat) with
      | false => simp [hw]
      | true =>
        simp only [if_true]
        congr 1
        obtain ⟨k, hk⟩ : ∃ k : Nat, (v + c.events.length - 1).toNat = k := ⟨_, rfl⟩
        rw [hk, h.of h2, List.getElem?_map]
        have hkl : k < (s.find n).places.length := by omega
        rw [List.getElem?_eq_getElem hkl]
        simp only [Option.map_some, Option.getD_some]
        obtain ⟨p, hp, q1, q2, q3⟩ := hi.plc n k hkl
        rw [q1, evAt_nat hp]
        exact hi.pos p hp
    · have h4 : RS.goodAt c (r.of n) v = false := by
        unfold RS.goodAt
        unfold fitsAgain at h3
        simp only [Bool.or_eq_true, Bool.and_eq_true, decide_eq_true_eq] at h3
        have : (decide (c.expected = -2) || decide (c.expected = -4) || decide (c.expected = v - 1)) = false := by
          simp only [Bool.or_eq_false_iff, decide_eq_false_iff_not]
          omega
        rw [this]
        simp
      have hc : fitsAgain c v = false ∨ ((s.find n).places.length : Int) - v < c.events.length := .inl (by simpa using h3)
      rw [h4, if_pos hc, if_neg (by simp)]
      exact hw
  · have h4 : RS.goodAt c (r.of n) v = false := by
      unfold RS.goodAt
      rw [hlen, decide_eq_false h1]
      simp
    have hc : fitsAgain c v = false ∨ ((s.find n).places.length : Int) - v < c.events.length := .inr (by omega)
    rw [h4, if_pos hc, if_neg (by simp)]
    exact hw
/-- One command: the same answer, and the states stay alike. -/
theorem alike_do (h : Alike s r) (hi : s.Inv) (h2 : s.Inv2) (ho : s.Ok N) (c : Cmd) : (r.do c).1 = (s.do c).1 ∧ Alike (s.do c).2 (r.do c).2 := by
  unfold RS.do MS.do
  by_cases hk : c.check = 0
  · have hc : ¬ c.check ≠ 0 := by simp [hk]
    rw [if_neg hc, if_neg hc]
    dsimp only
    have hz := check_zero hk
    by_cases h4 : c.kind = 4 ∨ c.kind = 5
    · have h5 : 4 ≤ c.kind := by omega
      rw [if_pos h5, if_pos h4]
      exact ⟨by rw [h.l], h.tick c.time⟩
    · have h5 : ¬ 4 ≤ c.kind := by omega
      rw [if_neg h5, if_neg h4]
      have h1 := h.tick c.time
      have hi1 : (s.tick c.time).Inv := ⟨hi.pos, hi.plc, hi.ver⟩
      have h21 : (s.tick c.time).Inv2 := ⟨h2.1, h2.2⟩
      have hfi : ∀ m, ((s.tick c.time).find m).floor ≤ ((s.tick c.time).find m).places.length ∧ ∀ p ∈ ((s.tick c.time).find m).places, 0 ≤ p ∧ p < (s.tick c.time).all.length := fun m => ⟨(ho.find m).2.2.1, (ho.find m).2.2.2.2⟩
      obtain ⟨s1, hs1⟩ : ∃ s1, s.tick c.time = s1 := ⟨_, rfl⟩
      obtain ⟨r1, hr1⟩ : ∃ r1, r.tick c.time = r1 := ⟨_, rfl⟩
      rw [hs1] at h1 hi1 h21 hfi ⊢
      rw [hr1] at h1 ⊢
      clear hs1 hr1 h hi h2 ho
      obtain ⟨n, hn⟩ : ∃ n, c.stream = n := ⟨_, rfl⟩
      have hpl := fun m => (hfi m).2
      have hlen := h1.len h21 n
      have hfl := h1.floor h21 n
      have hbd := floorS_bd s1 n
      have hts := h1.times h21 n
      have htl : (times s1.all (s1.find n)).length = (s1.find n).places.length := times_len _ _
      rw [hn]
      rw [h1.del n]
      by_cases hdel : (s1.find n).deleted = true
      · rw [if_pos hdel, if_pos hdel]
        refine ⟨rfl, h1.l, h1.now, h1.done, fun m => ?_, fun m => ?_, fun m => ?_⟩
        · rw [get_keep]
          split
          · rename_i e; subst e; exact h1.mt _
          · exact h1.mt m
        · rw [get_keep]
          split
          · rename_i e; subst e; exact h1.del _
          · exact h1.del m
        · rw [get_keep]
          split
          · rename_i e
            subst e
            dsimp only
            rw [hfl]
            refine ⟨?_, Int.le_refl _⟩
            have h5 := floorE_ge (s1.find n).mt (s1.find n).floor s1.now (times s1.all (s1.find n))
            have h6 := (hfi n).1
            unfold MS.floorS
            rw [floorOf_eq]
            omega
          · exact h1.kept m
      · rw [if_neg hdel, if_neg hdel]
        have hfo : s1.floorOf (s1.find n) = s1.floorS n := rfl
        have hself : floorE (s1.find n).mt (s1.floorS n) s1.now (times s1.all (s1.find n)) = s1.floorS n := by
          rw [← hfo, floorOf_eq]
          exact floorE_self _ _ _ _ (by rw [htl]; exact (hfi n).1)
        -- the stream is kept as it is
        have hkeep : Alike (s1.keep n { s1.find n with floor := s1.floorS n }) (r1.keep n) := by
          rw [← same_all s1]
          refine alike_put (more := []) h1 hpl (by simp) h1.l rfl rfl (fun m => get_keep r1 n m) (h1.mt n) (h1.del n) ?_ ?_
          · show r1.floor n = floorE (s1.find n).mt (s1.floorS n) s1.now (times s1.all (s1.find n))
            rw [hfl, hself]
          · show s1.floorS n ≤ (times s1.all (s1.find n)).length
            rw [htl]
            exact hbd.2
        unfold RS.act MS.act
        dsimp only
        rw [hn]
        by_cases k2 : c.kind = 2
        · rw [if_pos k2, if_pos k2]
          refine ⟨by rw [hlen, h1.l], ?_⟩
          rw [← same_all s1]
          refine alike_put (more := []) (X := { r1.get n with mt := c.mt, kept := floorE c.mt (s1.floorS n) s1.now (times s1.all (s1.find n)) }) h1 hpl (by simp) h1.l rfl rfl (fun m => ?_) rfl (h1.del n) rfl ?_
          · have hq : (r1.keep n).get n = { r1.get n with kept := r1.floor n } := by rw [get_keep, if_pos rfl]
            refine (get_putkeep (r1.keep n) (x := { (r1.keep n).get n with mt := c.mt }) (n := n) (get_name _ _) m).trans ?_
            by_cases e : n = m
            · rw [if_pos e, if_pos e, hq]
              show ({ name := (r1.get n).name, mt := c.mt, kept := floorE c.mt (r1.floor n) r1.now ((r1.of n).map (·.time)), deleted := (r1.get n).deleted } : DStr) = _
              rw [hfl, hts, h1.now]
            · rw [if_neg e, if_neg e, get_keep, if_neg e]
          · show s1.floorS n ≤ (times s1.all (s1.find n)).length
            rw [htl]
            exact hbd.2
        · rw [if_neg k2, if_neg k2]
          have hw : RS.wrongD (r1.of n) = wrong { s1.find n with floor := s1.floorS n } := by unfold RS.wrongD wrong; rw [hlen]
          by_cases k3 : c.kind = 3
          · rw [if_pos k3, if_pos k3, hlen, fits_expected (check_expects hk (.inr k3))]
            cases hex : expected c.expected (s1.find n).places.length with
            | false =>
              simp only [if_true, Bool.false_eq_true, if_false]
              exact ⟨hw, hkeep⟩
            | true =>
              simp only [Bool.true_eq_false, if_false, if_true]
              refine ⟨by rw [h1.l], ?_⟩
              rw [← same_all s1]
              refine alike_put (more := []) (X := { r1.get n with deleted := true, kept := s1.floorS n }) h1 hpl (by simp) h1.l rfl rfl (fun m => ?_) (h1.mt n) rfl ?_ ?_
              · refine (get_putkeep r1 (x := { r1.get n with deleted := true }) (n := n) (get_name _ _) m).trans ?_
                by_cases e : n = m
                · rw [if_pos e, if_pos e]
                  show ({ name := (r1.get n).name, mt := (r1.get n).mt, kept := r1.floor n, deleted := true } : DStr) = _
                  rw [hfl]
                · rw [if_neg e, if_neg e]
              · show s1.floorS n = floorE (s1.find n).mt (s1.floorS n) s1.now (times s1.all (s1.find n))
                rw [hself]
              · show s1.floorS n ≤ (times s1.all (s1.find n)).length
                rw [htl]
                exact hbd.2
          · rw [if_neg k3, if_neg k3]
            have k1 : c.kind = 1 := by omega
            have hel := (hz.2.2.2.2 k1).1
            have hfirst : firstAt (((c.events.head?).map (·.id)).getD 0) (r1.of n) 0 = s1.first { s1.find n with floor := s1.floorS n } (((c.events.head?).map (·.id)).getD 0) := by
              rw [h1.of h21, first_ev]
              rfl
            rw [hfirst]
            obtain ⟨v, hv⟩ : ∃ v, s1.first { s1.find n with floor := s1.floorS n } (((c.events.head?).map (·.id)).getD 0) = v := ⟨_, rfl⟩
            have hv' : s1.first { s1.find n with floor := s1.floorOf (s1.find n) } (((c.events.head?).map (·.id)).getD 0) = v := hv
            rw [hv, hv']
            by_cases hv0 : 0 ≤ v
            · rw [if_pos hv0, if_pos hv0]
              exact ⟨again_good h1 hi1 h21 hel hv0 _, hkeep⟩
            · rw [if_neg hv0, if_neg hv0, hlen, fits_expected (check_expects hk (.inl k1))]
              cases hex : expected c.expected (s1.find n).places.length with
              | false =>
                simp only [if_true, Bool.false_eq_true, if_false]
                exact ⟨hw, hkeep⟩
              | true =>
                simp only [Bool.true_eq_false, if_false, if_true]
                unfold MS.append
                dsimp only
                rw [hn, h1.l, h1.now]
                refine ⟨rfl, ?_⟩
                obtain ⟨st, hst⟩ : ∃ st, storedOf n s1.now c.events (s1.find n).places.length s1.all.length = st := ⟨_, rfl⟩
                have hsl : st.length = c.events.length := by rw [← hst, storedOf_len]
                have hss : ∀ e ∈ st, e.stream = n := by rw [← hst]; exact storedOf_stream _ _ _ _ _
                rw [hst]
                -- the times behind it
                have hof : ({ r1 with l := s1.all ++ st, now := s1.now } : RS).of n = (s1.find n).places.map (evAt s1.all) ++ st := by
                  show (s1.all ++ st).filter _ = _
                  rw [List.filter_append, h21.1 n]
                  congr 1
                  exact List.filter_eq_self.2 (fun e he => by simpa using hss e he)
                have htimes : times (s1.all ++ st) { s1.find n with places := (s1.find n).places ++ rangeFrom c.events.length s1.all.length, floor := s1.floorOf (s1.find n) } = times s1.all (s1.find n) ++ st.map (·.time) := by
                  rw [← times_evAt, ← times_evAt]
                  dsimp only
                  rw [List.map_append, List.map_append, ← hsl, range_evAt]
                  congr 2
                  refine List.map_congr_left fun p hp => ?_
                  obtain ⟨q0, q1⟩ := hpl n p hp
                  obtain ⟨q, rfl⟩ := Int.eq_ofNat_of_zero_le q0
                  exact evAt_append (by omega)
                have happ := floorE_app (m := (s1.find n).mt) (f := (s1.find n).floor) (k := (r1.get n).kept) (now := s1.now) (ts := times s1.all (s1.find n)) (us := st.map (·.time)) (by rw [htl]; exact (hfi n).1) (h1.kept n).1 (h1.kept n).2
                refine alike_put (more := st) (A := s1.all ++ st) (X := { r1.get n with kept := floorE (s1.find n).mt (r1.get n).kept s1.now (times s1.all (s1.find n) ++ st.map (·.time)) }) h1 hpl rfl rfl h1.now.symm rfl (fun m => ?_) (h1.mt n) (h1.del n) ?_ ?_
                · rw [get_keep]
                  by_cases e : n = m
                  · rw [if_pos e, if_pos e]
                    show ({ (r1.get n) with kept := _ } : DStr) = _
                    congr 1
                    unfold RS.floor
                    rw [hof, List.map_append, times_evAt]
                    have hg : ({ r1 with l := s1.all ++ st, now := s1.now } : RS).get n = r1.get n := rfl
                    rw [hg, h1.mt n]
                  · rw [if_neg e, if_neg e]
                    rfl
                · rw [htimes]
                  exact happ.symm
                · rw [htimes, List.length_append, htl]
                  have : s1.floorOf (s1.find n) ≤ (s1.find n).places.length := hbd.2
                  show s1.floorOf (s1.find n) ≤ _
                  omega
  · have hc : c.check ≠ 0 := hk
    rw [if_pos hc, if_pos hc]
    exact ⟨rfl, h⟩
end
end
end Go.Proofs.YteinoiicnmemhaaGreatDoor
