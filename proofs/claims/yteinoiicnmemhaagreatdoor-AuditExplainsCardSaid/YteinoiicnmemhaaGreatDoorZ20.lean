/- Proved here: contracts of functions and plain laws, part 20 of one proof. Conditions: each theorem names its own. -/
import Derived.Test.YteinoiicnmemhaaGreatDoorZ8
import Derived.Test.YteinoiicnmemhaaGreatDoorZ17
import Derived.Test.YteinoiicnmemhaaGreatDoorZ19
import Derived.Test.YteinoiicnmemhaaGreatDoorProg
import Derived.Deep.AppendLies
import Derived.Lib.AppendZeros
set_option linter.unusedSimpArgs false
set_option linter.unusedVariables false
namespace Go.Proofs.YteinoiicnmemhaaGreatDoor
section
open Go Go.RowKit Go.Sort
theorem slc_new1 {w : World} {e : TypeId} {size : Nat} {cs : List Value} (hs : cs.length = 1 * size) : Slc (w.alloc (.cells cs.toArray e)) size (.slice (some ⟨w.heap.size, 0, none⟩) 1 1) 1 cs := by
  have hb := Blk.new w e cs.toArray
  refine ⟨_, 1, rfl, hs, Nat.le_refl _, by simp [maxLen], fun _ => ⟨w.heap.size, 0, rfl, hb.lt, fun j hj => ?_⟩⟩
  rw [Nat.zero_add, hb.cell j]
  simp
theorem run_append_zero {P : Program} (w : World) (t e ty : TypeId) (A B : Option Addr) (size n cap c : Nat) (ht : P.underlying t = some (.slice e)) (hs : (Go.sizeOf e).run P w = .ok size w) (hnc : n ≤ cap) :
    (Builtin.append_ #[t, t] ty #[.slice A n cap, .slice B 0 c]).run P w = .ok (.slice A n cap) w := by
  cases A <;> cases B <;> simp [Builtin.append_, run_underlying ht, hs, hnc, Builtin.lenOf, Builtin.firstCells, storeCells, loadCells, loadCellsFrom]
theorem run_app {P : Program} {w : World} (t ty : TypeId) (base : Nat) (e : TypeId) (z : Value) (size bytes : Nat) (ht : P.underlying t = some (.slice e)) (hi : (P.info? e).map (fun i => (i.zero, i.size, i.bytes)) = some (some z, size, bytes))
    (hzs : z.cells.size = size) (hsz : 0 < size) {v : Value} {n : Nat} {xs : List Value} (hown : w.ownsRow base e size v n xs) {u : Value} {m : Nat} {cells : List Value} (hsl : Slc w size u m cells)
    (h1 : ∀ u ∈ cells, u.oneCell' = true) (hb : (n + m) * bytes ≤ 140737488355328) (hm : n + m ≤ maxLen) (hbase : base ≤ w.heap.size) :
    ∃ A cap w', (Builtin.append_ #[t, t] ty #[v, u]).run P w = .ok (.slice A (n + m) cap) w' ∧ w'.ownsRow base e size (.slice A (n + m) cap) (n + m) (xs ++ cells) ∧ Only v.ownBlock.toList w w' ∧
      ∀ g, (Value.slice A (n + m) cap).ownBlock = some g → v.ownBlock = some g ∨ w.heap.size ≤ g := by
  obtain ⟨i, hi1, hi2, hi3, hi4⟩ := info_parts hi
  obtain ⟨B, c, rfl, hl, hc1, hc2, hc⟩ := hsl
  by_cases h0 : m = 0
  · subst h0
    have hcn : cells = [] := List.eq_nil_of_length_eq_zero (by rw [hl]; simp)
    subst hcn
    obtain ⟨A, cap, rfl, hnc, _⟩ := own_form hown
    have hs : (Go.sizeOf e).run P w = .ok size w := by simp [Go.sizeOf, typeInfo, hi1, hi3]
    exact ⟨A, cap, w, run_append_zero w t e ty A B size n cap c ht hs hnc, by simpa using hown, Only.refl _ _, fun g hg => .inl hg⟩
  · obtain ⟨b, off, rfl, hb1, hcc⟩ := hc (by omega)
    obtain ⟨g, cap, w', hr, h2, h3, h4, _⟩ := run_append_lies (P := P) w t ty base e i z size bytes ht hi1 hi2 hi3 hi4 hzs hsz v n xs hown ⟨b, off, none⟩ m c cells hl (fun j x hx => by
      have hj : j < cells.length := (List.getElem?_eq_some_iff.1 hx).1
      rw [show ((⟨b, off, none⟩ : Addr).add j) = ⟨b, off + j, none⟩ by simp [Addr.add], hcc j hj, hx]) h1 (by omega) hm hb hbase w.heap.size rfl
    refine ⟨_, cap, w', hr, h2, (Only.refl _ _).grown h3 (fun k hk => .inl (by simp [hk])), fun x hx => ?_⟩
    have hx' : g = x := by simpa [Value.ownBlock] using hx
    subst hx'
    rcases h4 with h4 | h4
    · exact .inl h4
    · exact .inr (by omega)
theorem toList_decJ (a b : ByteArray) : (a.toList == b.toList) = decide (a = b) := by
  rw [ByteArray.toList_eq, ByteArray.toList_eq]
  by_cases h : a = b
  · rw [h]; simp
  · rw [decide_eq_false h, beq_eq_false_iff_ne]
    exact fun e => h (ba_inj e)
/-- From w to w' only blocks of H turned; those of H' are of H or new. -/
structure Stepped (w w' : World) (H H' : List Nat) : Prop where
  only : ∃ S, Only S w w' ∧ ∀ b ∈ S, b ∈ H
  blk : ∀ b ∈ H', b ∈ H ∨ w.heap.size ≤ b
section
variable {a w w' w'' : World} {H H' H'' : List Nat}
theorem Stepped.refl (w : World) (H : List Nat) : Stepped w w H H := ⟨⟨[], Only.refl _ _, by simp⟩, fun b hb => .inl hb⟩
theorem Stepped.size (h : Stepped w w' H H') : w.heap.size ≤ w'.heap.size := by
  obtain ⟨⟨S, h1, _⟩, _⟩ := h
  exact h1.size
theorem Stepped.trans (h : Stepped w w' H H') (k : Stepped w' w'' H' H'') : Stepped w w'' H H'' := by
  have hz := h.size
  obtain ⟨⟨S, h1, h2⟩, h3⟩ := h
  obtain ⟨⟨T, k1, k2⟩, k3⟩ := k
  refine ⟨⟨S ++ T.filter (fun b => decide (b < w.heap.size)), ?_, fun b hb => ?_⟩, fun b hb => ?_⟩
  · refine (h1.mono (fun b hb => List.mem_append_left _ hb)).step k1 (fun b hb => ?_)
    by_cases q : b < w.heap.size
    · exact .inl (List.mem_append_right _ (List.mem_filter.2 ⟨hb, by simpa using q⟩))
    · exact .inr (by omega)
  · rcases List.mem_append.1 hb with q | q
    · exact h2 b q
    · obtain ⟨q1, q2⟩ := List.mem_filter.1 q
      rcases h3 b (k2 b q1) with q3 | q3
      · exact q3
      · have : b < w.heap.size := by simpa using q2
        omega
  · rcases k3 b hb with q | q
    · exact h3 b q
    · exact .inr (by omega)
theorem Stepped.then0 (h : Stepped w w' H H') (k : Only [] w' w'') : Stepped w w'' H H' := h.trans ⟨⟨[], k, by simp⟩, fun b hb => .inl hb⟩
theorem Stepped.first0 (k : Only [] w w') (h : Stepped w' w'' H H') : Stepped w w'' H H' := Stepped.trans ⟨⟨[], k, by simp⟩, fun b hb => .inl hb⟩ h
theorem Stepped.of {S : List Nat} (k : Only S w w') (hS : ∀ b ∈ S, b ∈ H) (hb : ∀ b ∈ H', b ∈ H ∨ w.heap.size ≤ b) : Stepped w w' H H' := ⟨⟨S, k, hS⟩, hb⟩
/-- Above the world a. -/
theorem Stepped.above (h : Stepped w w' H H') (ha : Only [] a w) (hH : ∀ b ∈ H, a.heap.size ≤ b) : Only [] a w' ∧ ∀ b ∈ H', a.heap.size ≤ b := by
  obtain ⟨⟨S, h1, h2⟩, h3⟩ := h
  refine ⟨ha.step h1 (fun b hb => .inr (hH b (h2 b hb))), fun b hb => ?_⟩
  rcases h3 b hb with q | q
  · exact hH b q
  · exact Nat.le_trans ha.size q
end
theorem infoDs : (Tryz.prog.info? 82).map (fun i => (i.zero, i.size, i.bytes)) = some (some (.agg #[.string ⟨#[]⟩, .int .i64 0, .int .i64 0, .int .i64 0, .int .i64 0, .bool false]), 6, 56) := by kernel_rfl
def DStr.cells (x : DStr) : List Value := [.string x.name, .int .i64 x.mt.maxCount, .int .i64 x.mt.maxAge, .int .i64 x.mt.before, .int .i64 x.kept, .bool x.deleted]
def dcells (l : List DStr) : List Value := l.flatMap DStr.cells
theorem dcells_one (l : List DStr) : ∀ u ∈ dcells l, u.oneCell' = true := by
  intro u hu
  obtain ⟨x, _, hx⟩ := List.mem_flatMap.1 hu
  simp [DStr.cells] at hx
  rcases hx with rfl | rfl | rfl | rfl | rfl | rfl <;> rfl
/-- The document's state r lies in block rb, its events in vl, its streams in vs. -/
structure DocAt (w : World) (rb : Nat) (vl vs : Value) (r : RS) : Prop where
  blk : Blk w rb 31 #[vl, vs, .int .i64 r.now, .int .i64 r.done]
  l : w.ownsRow 0 92 8 vl r.l.length (r.l.flatMap StoredR.cells)
  s : w.ownsRow 0 82 6 vs r.s.length (dcells r.s)
def hD (rb : Nat) (vl vs : Value) : List Nat := rb :: (vl.ownBlock.toList ++ vs.ownBlock.toList)
structure HasD (a w : World) (H : List Nat) (rb : Nat) (r : RS) : Prop where
  din : ∃ vl vs, DocAt w rb vl vs r ∧ H = hD rb vl vs
  only : Only [] a w
  above : ∀ b ∈ H, a.heap.size ≤ b
def DTo (a w : World) (H : List Nat) (rb : Nat) (r : RS) (w' : World) : Prop := ∃ H', HasD a w' H' rb r ∧ Stepped w w' H H'
section
variable {a w w' w'' : World} {H H' S : List Nat} {rb : Nat} {vl vs : Value} {r : RS}
theorem DocAt.lt (h : DocAt w rb vl vs r) : ∀ b ∈ hD rb vl vs, b < w.heap.size := by
  intro b hb
  simp only [hD, List.mem_cons, List.mem_append, Option.mem_toList] at hb
  rcases hb with rfl | q | q
  · exact h.blk.lt
  · exact (h.l.lt b q).2
  · exact (h.s.lt b q).2
theorem DocAt.only (h : DocAt w rb vl vs r) (k : Only S w w') (hd : ∀ b ∈ hD rb vl vs, b ∉ S) : DocAt w' rb vl vs r :=
  ⟨k.blk h.blk (hd rb (by simp [hD])), own_only h.l k (fun g hg => hd g (by simp [hD, hg])), own_only h.s k (fun g hg => hd g (by simp [hD, hg]))⟩
theorem DocAt.only0 (h : DocAt w rb vl vs r) (k : Only [] w w') : DocAt w' rb vl vs r := h.only k (by simp)
theorem DocAt.ne (h : DocAt w rb vl vs r) : (∀ g, vl.ownBlock = some g → g ≠ rb) ∧ (∀ g, vs.ownBlock = some g → g ≠ rb) ∧ ∀ g, vl.ownBlock = some g → vs.ownBlock ≠ some g := by
  refine ⟨fun g hg => ?_, fun g hg => ?_, fun g hg q => ?_⟩
  · obtain ⟨cur, hc⟩ := own_type h.l hg
    exact hc.other h.blk (by decide)
  · obtain ⟨cur, hc⟩ := own_type h.s hg
    exact hc.other h.blk (by decide)
  · obtain ⟨c1, hc1⟩ := own_type h.l hg
    obtain ⟨c2, hc2⟩ := own_type h.s q
    exact hc1.other hc2 (by decide) rfl
theorem HasD.lt (h : HasD a w H rb r) : ∀ b ∈ H, b < w.heap.size := by
  obtain ⟨⟨vl, vs, h1, rfl⟩, _⟩ := h
  exact h1.lt
theorem HasD.keep (h : HasD a w H rb r) (k : Only S w w') (ha : ∀ b ∈ S, a.heap.size ≤ b) (hS : ∀ b ∈ H, b ∉ S) : HasD a w' H rb r := by
  obtain ⟨⟨vl, vs, h1, rfl⟩, ho, hab⟩ := h
  exact ⟨⟨vl, vs, h1.only k hS, rfl⟩, ho.step k (fun i hi => .inr (ha i hi)), hab⟩
theorem HasD.keep0 (h : HasD a w H rb r) (k : Only [] w w') : HasD a w' H rb r := h.keep k (by simp) (by simp)
theorem DTo.trans (h : Stepped w w' H H') (k : DTo a w' H' rb r w'') : DTo a w H rb r w'' := by
  obtain ⟨H2, k1, k2⟩ := k
  exact ⟨H2, k1, h.trans k2⟩
theorem hasD_of {r' : RS} {vl' vs' : Value} (h : HasD a w H rb r) (h1 : DocAt w' rb vl' vs' r') (k : Stepped w w' H (hD rb vl' vs')) : DTo a w H rb r' w' := by
  obtain ⟨q1, q2⟩ := k.above h.only h.above
  exact ⟨_, ⟨⟨vl', vs', h1, rfl⟩, q1, q2⟩, k⟩
/-- What is read of a state: its fields, each event, each stream. -/
theorem DocAt.open (h : DocAt w rb vl vs r) : ∃ Al cl As cs, vl = .slice Al r.l.length cl ∧ vs = .slice As r.s.length cs ∧ r.l.length ≤ cl ∧ cl ≤ maxLen ∧ r.s.length ≤ cs ∧ cs ≤ maxLen ∧
    (∀ j (hj : j < r.l.length), ∃ b off, Al = some ⟨b, off, none⟩ ∧ b < w.heap.size ∧ ∀ i, i < 8 → w.cell? ⟨b, off + j * 8 + i, none⟩ = (r.l[j].cells)[i]?) ∧
    (∀ j (hj : j < r.s.length), ∃ b off, As = some ⟨b, off, none⟩ ∧ b < w.heap.size ∧ ∀ i, i < 6 → w.cell? ⟨b, off + j * 6 + i, none⟩ = (r.s[j].cells)[i]?) := by
  obtain ⟨Al, cl, e1, q1, q2, q3⟩ := (Slc.of_own h.l).1.openE StoredR.cells (fun _ => rfl)
  obtain ⟨As, cs, e2, q4, q5, q6⟩ := (Slc.of_own h.s).1.openE DStr.cells (fun _ => rfl)
  exact ⟨Al, cl, As, cs, e1, e2, q1, q2, q4, q5, q3, q6⟩
end
end
section
open Go Go.RowKit Go.Sort
theorem eqD_t {x s : ByteArray} (h : x = s) : (x.toList == s.toList) = true := by rw [h]; simp
theorem eqD_f {x s : ByteArray} (h : ¬ x = s) : (x.toList == s.toList) = false := by rw [toList_decJ, decide_eq_false h]
theorem dfits_any (want : Int) (count : Nat) (w : World) (hc : count ≤ 1000000) : Calls Tryz.prog 30 #[.int .i64 want, .int .i64 count] w fun e w' => e = .returned (.bool (fitsD want count)) ∧ w = w' := by
  by_cases h1 : want = -2
  · subst h1
    go_enter Tryz.func30, Tryz.ntmps30
    go_wp2
    go_ret
    exact ⟨ret_b (by simp [fitsD]), rfl⟩
  · have b1 : (want == -2) = false := by simpa using h1
    by_cases h2 : want = -1
    · subst h2
      obtain ⟨bb, hbb⟩ : ∃ bb, ((count : Int) == 0) = bb := ⟨_, rfl⟩
      have hr : fitsD (-1) count = bb := by rw [← hbb]; unfold fitsD; rw [if_neg (by decide), if_pos rfl]; rfl
      rw [hr]
      clear hr
      go_enter Tryz.func30, Tryz.ntmps30
      go_wp2
      go_ret
      exact ⟨rfl, rfl⟩
    · have b2 : (want == -1) = false := by simpa using h2
      by_cases h4 : want = -4
      · subst h4
        have hr : fitsD (-4) count = decide (0 < count) := by unfold fitsD; rw [if_neg (by decide), if_neg (by decide), if_pos rfl]; congr 1; apply propext; constructor <;> intro <;> omega
        rw [hr]
        clear hr
        go_enter Tryz.func30, Tryz.ntmps30
        go_wp2
        go_ret
        exact ⟨rfl, rfl⟩
      · have b4 : (want == -4) = false := by simpa using h4
        have hr : Hid (fitsD want count = (decide (want = (count : Int) - 1) && decide ((0 : Int) < count))) := by unfold Hid fitsD; rw [if_neg h1, if_neg h2, if_neg h4]
        have e1 := IntWalk.i64_in ((count : Int) - 1) ⟨by omega, by omega⟩
        clear h1 h2 h4
        by_cases h5 : want = (count : Int) - 1
        · have b5 : (want == (count : Int) - 1) = true := by simpa using h5
          have hr' : Hid (fitsD want count = decide (0 < count)) := by
            unfold Hid
            rw [hr.out, decide_eq_true h5, Bool.true_and]
            congr 1
            apply propext
            constructor <;> intro <;> omega
          clear h5
          rw [hr'.out]
          go_enter Tryz.func30, Tryz.ntmps30
          go_wp2
          go_ret
          exact ⟨rfl, rfl⟩
        · have b5 : (want == (count : Int) - 1) = false := by simpa using h5
          have hr' : Hid (fitsD want count = false) := by unfold Hid; rw [hr.out, decide_eq_false h5]; rfl
          clear h5
          rw [hr'.out]
          go_enter Tryz.func30, Tryz.ntmps30
          go_wp2
          go_ret
          exact ⟨rfl, rfl⟩
def dIx (l : List DStr) (n : ByteArray) : Int := if l.findIdx (fun x => decide (x.name = n)) < l.length then (l.findIdx (fun x => decide (x.name = n)) : Int) else -1
theorem dIx_hit {l : List DStr} {n : ByteArray} {j : Nat} (hj : j < l.length) (hb : ∀ k (hk : k < j) (hl : k < l.length), ¬ l[k].name = n) (h : l[j].name = n) : dIx l n = j ∧ l.find? (fun x => decide (x.name = n)) = some l[j] := by
  have hi : l.findIdx (fun x => decide (x.name = n)) = j := by
    refine (List.findIdx_eq hj).2 ⟨by simpa using h, fun k hk => by simpa using hb k hk (by omega)⟩
  refine ⟨by unfold dIx; rw [hi, if_pos hj], ?_⟩
  refine List.find?_eq_some_iff_getElem.2 ⟨by simpa using h, j, hj, rfl, fun k hk => by simpa using hb k hk (by omega)⟩
theorem dIx_end {l : List DStr} {n : ByteArray} (hb : ∀ k (hl : k < l.length), ¬ l[k].name = n) : dIx l n = -1 ∧ l.find? (fun x => decide (x.name = n)) = none := by
  have hf : l.find? (fun x => decide (x.name = n)) = none := List.find?_eq_none.2 (fun x hx => by
    obtain ⟨k, hk, rfl⟩ := List.getElem_of_mem hx
    simpa using hb k hk)
  refine ⟨?_, hf⟩
  unfold dIx
  rw [if_neg]
  intro q
  have h1 := List.findIdx_getElem (p := fun x : DStr => decide (x.name = n)) (xs := l) (w := q)
  exact hb _ q (by simpa using h1)
section
variable {a w : World} {H : List Nat} {rb : Nat} {r : RS}
set_option maxRecDepth 100000 in
set_option maxHeartbeats 1000000 in
theorem dstream_any (h : HasD a w H rb r) (n : ByteArray) :
    Calls Tryz.prog 68 #[.pointer (some ⟨rb, 0, none⟩), .string n] w fun e w' => e = .returned (.int .i64 (dIx r.s n)) ∧ Only [] w w' := by
  obtain ⟨⟨vl, vs, hA, rfl⟩, -, -⟩ := h
  obtain ⟨Al, cl, As, cs, rfl, rfl, -, -, hm1, hm2, -, hS⟩ := hA.open
  unfold maxLen at hm2
  have f1 : w.cell? ⟨rb, 1, none⟩ = some (.slice As r.s.length cs) := hA.blk.cell 1
  have hrb := hA.blk.lt
  have HS := Lib.hid hS
  clear hS hA
  go_enter Tryz.func68, Tryz.ntmps68
  go_wp2
  go_loopw [5] (fun iv wr => ∃ j : Nat, j ≤ r.s.length ∧ iv = .int .i64 j ∧ Only [] w wr ∧ Hid (∀ k (hk : k < j) (hl : k < r.s.length), ¬ r.s[k].name = n)) (fun iv _ => r.s.length - (intOf iv).toNat)
  case atStart => exact ⟨0, Nat.zero_le _, rfl, Only.refl _ _, fun k hk => absurd hk (Nat.not_lt_zero _)⟩
  case round =>
    obtain ⟨j, hj, rfl, hO, hs⟩ := hrel
    have g1 : wr.cell? ⟨rb, 1, none⟩ = some (.slice As r.s.length cs) := (hO.cell hrb (by simp)).trans f1
    by_cases hlt : j < r.s.length
    · obtain ⟨b, off, rfl, hb, hcell⟩ := HS.out j hlt
      obtain ⟨x, hx⟩ : ∃ x, x = r.s[j] := ⟨_, rfl⟩
      have c0 : wr.cell? ⟨b, off + j * 6, none⟩ = some (.string x.name) := (hO.cell (p := ⟨b, off + j * 6, none⟩) hb (by simp)).trans (by have := hcell 0 (by omega); rw [← hx] at this; exact this)
      by_cases he : x.name = n
      · have hf := (dIx_hit hlt hs.out (by rw [← hx]; exact he)).1
        have he2 := eqD_t he
        clear hcell hx he
        go_wp2
        go_ret
        rw [hf]
        exact ⟨rfl, hO⟩
      · have hs2 : Hid (∀ k (hk : k < j + 1) (hl : k < r.s.length), ¬ r.s[k].name = n) := fun k hk hl => by
          by_cases e : k = j
          · subst e
            rw [← hx]
            exact he
          · exact hs.out k (by omega) hl
        have he2 := eqD_f he
        clear hcell hx hs he
        go_wp2
        go_round
        case rel => exact ⟨j + 1, hlt, by simp, hO, hs2⟩
        case measure => simp [intOf]; omega
    · have hf := (dIx_end (fun k hl => hs.out k (by omega) hl)).1
      clear hs
      go_wp2
      go_ret
      rw [hf]
      exact ⟨rfl, hO⟩
theorem stored_one (l : List StoredR) : ∀ u ∈ l.flatMap StoredR.cells, u.oneCell' = true := by
  intro u hu
  obtain ⟨x, _, hx⟩ := List.mem_flatMap.1 hu
  simp [StoredR.cells, EventR.cells] at hx
  rcases hx with rfl | rfl | rfl | rfl | rfl | rfl | rfl | rfl <;> rfl
theorem app8 {W : World} {base : Nat} {v : Value} {l : List StoredR} (hown : W.ownsRow base 92 8 v l.length (l.flatMap StoredR.cells)) (hb : base ≤ W.heap.size) (hl : l.length ≤ 1000000) (x : StoredR) :
    ∃ A cap w', (Builtin.append_ #[28, 28] 28 #[v, .slice (some ⟨W.heap.size, 0, none⟩) 1 1]).run Tryz.prog (W.alloc (.cells #[.int .i64 x.ev.id, .string x.ev.type, .string x.ev.data, .float .f64 x.ev.value, .string x.stream, .int .i64 x.version, .int .i64 x.position, .int .i64 x.time] 92)) = .ok (.slice A (l.length + 1) cap) w' ∧ w'.ownsRow base 92 8 (.slice A (l.length + 1) cap) (l ++ [x]).length ((l ++ [x]).flatMap StoredR.cells) ∧ Only v.ownBlock.toList (W.alloc (.cells #[.int .i64 x.ev.id, .string x.ev.type, .string x.ev.data, .float .f64 x.ev.value, .string x.stream, .int .i64 x.version, .int .i64 x.position, .int .i64 x.time] 92)) w' := by
  obtain ⟨A, cap, w', h1, h2, h3, _⟩ := run_app (P := Tryz.prog) (w := W.alloc (.cells #[.int .i64 x.ev.id, .string x.ev.type, .string x.ev.data, .float .f64 x.ev.value, .string x.stream, .int .i64 x.version, .int .i64 x.position, .int .i64 x.time] 92)) 28 28 base 92 (.agg #[.int .i64 0, .string ⟨#[]⟩, .string ⟨#[]⟩, .float .f64 0, .string ⟨#[]⟩, .int .i64 0, .int .i64 0, .int .i64 0]) 8 88 Tryz.underlying28 infoSt rfl (by decide) (hown.alloc _) (slc_new1 (w := W) (e := 92) (size := 8) (cs := x.cells) rfl) (by simpa using stored_one [x]) (by omega) (by unfold maxLen; omega) (Nat.le_trans hb (by simp))
  refine ⟨A, cap, w', h1, ?_, h3⟩
  rw [List.length_append]
  simpa using h2
theorem of_succ (l : List StoredR) (n : ByteArray) {k : Nat} (h : k < l.length) : (l.take (k + 1)).filter (fun e => decide (e.stream = n)) = (l.take k).filter (fun e => decide (e.stream = n)) ++ if l[k].stream = n then [l[k]] else [] := by
  rw [List.take_succ_eq_append_getElem h, List.filter_append]
  congr 1
  by_cases q : l[k].stream = n
  · simp [q]
  · simp [q]
set_option maxRecDepth 100000 in
set_option maxHeartbeats 2000000 in
theorem dof_any (h : HasD a w H rb r) (hl : r.l.length ≤ 1000000) (n : ByteArray) :
    Calls Tryz.prog 28 #[.pointer (some ⟨rb, 0, none⟩), .string n] w fun e w' => ∃ v', e = .returned v' ∧ w'.ownsRow w.heap.size 92 8 v' (r.of n).length ((r.of n).flatMap StoredR.cells) ∧ Only [] w w' := by
  obtain ⟨⟨vl, vs, hA, rfl⟩, -, -⟩ := h
  obtain ⟨Al, cl, As, cs, rfl, rfl, -, hcm1, -, -, hel1, -⟩ := hA.open
  unfold maxLen at hcm1
  have f0 : w.cell? ⟨rb, 0, none⟩ = some (.slice Al r.l.length cl) := hA.blk.cell 0
  have hrb := hA.blk.lt
  have hsf := stF
  obtain ⟨l, hle⟩ : ∃ l, r.l = l := ⟨_, rfl⟩
  have hof : r.of n = l.filter (fun e => decide (e.stream = n)) := by rw [← hle]; rfl
  rw [hof]
  rw [hle] at hel1 f0 hl
  clear hA hof hle
  go_enter Tryz.func28, Tryz.ntmps28
  go_wp2
  go_loopw [5, 6] (fun o i wr => ∃ (k : Nat) (A : Option Addr) (cap : Nat), k ≤ l.length ∧ i = .int .i64 k ∧ o = .slice A ((l.take k).filter (fun e => decide (e.stream = n))).length cap ∧ wr.ownsRow w.heap.size 92 8 (.slice A ((l.take k).filter (fun e => decide (e.stream = n))).length cap) ((l.take k).filter (fun e => decide (e.stream = n))).length (((l.take k).filter (fun e => decide (e.stream = n))).flatMap StoredR.cells) ∧ Only [] w wr) (fun _ i _ => l.length - (intOf i).toNat)
  case atStart => exact ⟨0, none, 0, Nat.zero_le _, rfl, rfl, World.ownsRow_nil _ _ _ _, Only.refl _ _⟩
  case round =>
    obtain ⟨k, A, cap, hk, rfl, rfl, hown, hO⟩ := hrel
    have g0 : wr.cell? ⟨rb, 0, none⟩ = some (.slice Al l.length cl) := (hO.cell hrb (by simp)).trans f0
    have hfew : ((l.take k).filter (fun e => decide (e.stream = n))).length ≤ k := Nat.le_trans (List.length_filter_le _ _) (by rw [List.length_take]; omega)
    by_cases hlt : k < l.length
    · obtain ⟨b, off, rfl, hbb, hcc⟩ := hel1 k hlt
      have hnx := of_succ l n hlt
      obtain ⟨x, hx⟩ : ∃ x, x = l[k] := ⟨_, rfl⟩
      rw [← hx] at hcc hnx
      have c0 : wr.cell? ⟨b, off + k * 8, none⟩ = some (.int .i64 x.ev.id) := (hO.cell hbb (by simp)).trans (hcc 0 (by omega))
      have c1 : wr.cell? ⟨b, off + k * 8 + 1, none⟩ = some (.string x.ev.type) := (hO.cell hbb (by simp)).trans (hcc 1 (by omega))
      have c2 : wr.cell? ⟨b, off + k * 8 + 2, none⟩ = some (.string x.ev.data) := (hO.cell hbb (by simp)).trans (hcc 2 (by omega))
      have c3 : wr.cell? ⟨b, off + k * 8 + 3, none⟩ = some (.float .f64 x.ev.value) := (hO.cell hbb (by simp)).trans (hcc 3 (by omega))
      have c4 : wr.cell? ⟨b, off + k * 8 + 4, none⟩ = some (.string x.stream) := (hO.cell hbb (by simp)).trans (hcc 4 (by omega))
      have c5 : wr.cell? ⟨b, off + k * 8 + 5, none⟩ = some (.int .i64 x.version) := (hO.cell hbb (by simp)).trans (hcc 5 (by omega))
      have c6 : wr.cell? ⟨b, off + k * 8 + 6, none⟩ = some (.int .i64 x.position) := (hO.cell hbb (by simp)).trans (hcc 6 (by omega))
      have c7 : wr.cell? ⟨b, off + k * 8 + 7, none⟩ = some (.int .i64 x.time) := (hO.cell hbb (by simp)).trans (hcc 7 (by omega))
      obtain ⟨L, hL⟩ : ∃ L, L = (l.take k).filter (fun e => decide (e.stream = n)) := ⟨_, rfl⟩
      rw [← hL] at hown hfew hnx ⊢
      clear hcc hx hel1 hL
      by_cases he : x.stream = n
      · rw [if_pos he] at hnx
        have HNX := Lib.hid hnx
        have he2 := eqD_t he
        obtain ⟨A4, c4', w4, hr4, hown4, hO4⟩ := app8 (W := wr) (base := w.heap.size) hown hO.size (by omega) x
        have HR4 := Lib.hid hr4
        clear hr4 hnx he
        go_wp2_with (at_builtin; refine Lib.wpList_append_run _ rfl (.tmp 26) (.tmp 34) 28 28 rfl _ _ rfl rfl _ _ HR4.out ?_)
        have hb3 := fun g hg => (World.ownsRow.lt hown g hg).1
        have hO5 : Only [] w w4 := (hO.alloc _).step hO4 (fun g hg => .inr (by have := hb3 g (by simpa using hg); omega))
        go_round
        case rel =>
          refine ⟨k + 1, A4, c4', hlt, by simp, ?_, ?_, hO5⟩
          · rw [HNX.out, List.length_append]
            rfl
          · rw [HNX.out]
            simpa using hown4
        case measure => simp [intOf]; omega
      · rw [if_neg he, List.append_nil] at hnx
        have HNX := Lib.hid hnx
        have he2 := eqD_f he
        clear hnx he
        go_wp2
        go_round
        case rel =>
          refine ⟨k + 1, A, cap, hlt, by simp, ?_, ?_, hO⟩
          · rw [HNX.out]
          · rw [HNX.out]
            exact hown
        case measure => simp [intOf]; omega
    · have hkl : k = l.length := by omega
      subst hkl
      rw [List.take_length] at hown ⊢
      obtain ⟨L, hL⟩ : ∃ L, L = l.filter (fun e => decide (e.stream = n)) := ⟨_, rfl⟩
      rw [← hL] at hown ⊢
      have HL := Lib.hid hL
      clear hel1 hL
      go_wp2
      go_ret
      refine ⟨_, rfl, ?_, hO⟩
      rw [← HL.out]
      exact hown
def DStr.val (x : DStr) : Value := .agg #[.string x.name, .int .i64 x.mt.maxCount, .int .i64 x.mt.maxAge, .int .i64 x.mt.before, .int .i64 x.kept, .bool x.deleted]
set_option maxRecDepth 100000 in
set_option maxHeartbeats 2000000 in
theorem dget_any (h : HasD a w H rb r) (n : ByteArray) :
    Calls Tryz.prog 26 #[.pointer (some ⟨rb, 0, none⟩), .string n] w fun e w' => e = .returned (r.get n).val ∧ Only [] w w' := by
  have HIx := Lib.hid fun (W : World) (k : Only [] w W) => dstream_any (h.keep0 k) n
  obtain ⟨⟨vl, vs, hA, rfl⟩, -, -⟩ := h
  obtain ⟨Al, cl, As, cs, rfl, rfl, -, -, hm1, hm2, -, hS⟩ := hA.open
  unfold maxLen at hm2
  have f1 : w.cell? ⟨rb, 1, none⟩ = some (.slice As r.s.length cs) := hA.blk.cell 1
  have hrb := hA.blk.lt
  by_cases hin : ∃ j, ∃ hj : j < r.s.length, (∀ k (hk : k < j) (hl : k < r.s.length), ¬ r.s[k].name = n) ∧ r.s[j].name = n
  · obtain ⟨j, hj, hb, he⟩ := hin
    obtain ⟨h1, h2⟩ := dIx_hit hj hb he
    have hget : r.get n = r.s[j] := by unfold RS.get; rw [h2]; rfl
    rw [hget]
    rw [h1] at HIx
    obtain ⟨b, off, rfl, hbb, hcc⟩ := hS j hj
    obtain ⟨x, hx⟩ : ∃ x, r.s[j] = x := ⟨_, rfl⟩
    rw [hx] at hcc ⊢
    clear h1 h2 hget hb he hx hS hA
    go_enter Tryz.func26, Tryz.ntmps26
    go_wp2_with fail
    refine (HIx.out _ ((Only.refl _ _).alloc _)).mono ?_
    rintro e1 w1 ⟨rfl, k1⟩
    have hk := k1.blk (Blk.new w 82 #[.string ⟨#[]⟩, .int .i64 0, .int .i64 0, .int .i64 0, .int .i64 0, .bool false]) (by simp)
    have hO1 : Only [] w w1 := ((Only.refl _ _).alloc _).trans k1
    have hf := hk.free
    have hc := hk.cell
    have g1 : w1.cell? ⟨rb, 1, none⟩ = some (.slice (some ⟨b, off, none⟩) r.s.length cs) := (hO1.cell (p := ⟨rb, 1, none⟩) hrb (by simp)).trans f1
    have d0 : w1.cell? ⟨b, off + j * 6, none⟩ = some (.string x.name) := (hO1.cell (p := ⟨b, off + j * 6, none⟩) hbb (by simp)).trans (hcc 0 (by omega))
    have d1 : w1.cell? ⟨b, off + j * 6 + 1, none⟩ = some (.int .i64 x.mt.maxCount) := (hO1.cell (p := ⟨b, off + j * 6 + 1, none⟩) hbb (by simp)).trans (hcc 1 (by omega))
    have d2 : w1.cell? ⟨b, off + j * 6 + 2, none⟩ = some (.int .i64 x.mt.maxAge) := (hO1.cell (p := ⟨b, off + j * 6 + 2, none⟩) hbb (by simp)).trans (hcc 2 (by omega))
    have d3 : w1.cell? ⟨b, off + j * 6 + 3, none⟩ = some (.int .i64 x.mt.before) := (hO1.cell (p := ⟨b, off + j * 6 + 3, none⟩) hbb (by simp)).trans (hcc 3 (by omega))
    have d4 : w1.cell? ⟨b, off + j * 6 + 4, none⟩ = some (.int .i64 x.kept) := (hO1.cell (p := ⟨b, off + j * 6 + 4, none⟩) hbb (by simp)).trans (hcc 4 (by omega))
    have d5 : w1.cell? ⟨b, off + j * 6 + 5, none⟩ = some (.bool x.deleted) := (hO1.cell (p := ⟨b, off + j * 6 + 5, none⟩) hbb (by simp)).trans (hcc 5 (by omega))
    clear hcc
    go_wp2
    have hS6 := (((((hk.set 0 (.string x.name)).set 1 (.int .i64 x.mt.maxCount)).set 2 (.int .i64 x.mt.maxAge)).set 3 (.int .i64 x.mt.before)).set 4 (.int .i64 x.kept)).set 5 (.bool x.deleted)
    have hO6 : Only [] w ((((((w1.setCell ⟨w.heap.size, 0, none⟩ (.string x.name)).setCell ⟨w.heap.size, 1, none⟩ (.int .i64 x.mt.maxCount)).setCell ⟨w.heap.size, 2, none⟩ (.int .i64 x.mt.maxAge)).setCell ⟨w.heap.size, 3, none⟩ (.int .i64 x.mt.before)).setCell ⟨w.heap.size, 4, none⟩ (.int .i64 x.kept)).setCell ⟨w.heap.size, 5, none⟩ (.bool x.deleted)) := by
      iterate 6 (refine Only.setCell ?_ (.inr (Nat.le_refl _)) _)
      exact hO1
    obtain ⟨W3, hW3⟩ : ∃ W3, ((((((w1.setCell ⟨w.heap.size, 0, none⟩ (.string x.name)).setCell ⟨w.heap.size, 1, none⟩ (.int .i64 x.mt.maxCount)).setCell ⟨w.heap.size, 2, none⟩ (.int .i64 x.mt.maxAge)).setCell ⟨w.heap.size, 3, none⟩ (.int .i64 x.mt.before)).setCell ⟨w.heap.size, 4, none⟩ (.int .i64 x.kept)).setCell ⟨w.heap.size, 5, none⟩ (.bool x.deleted)) = W3 := ⟨_, rfl⟩
    rw [hW3] at hS6 hO6 ⊢
    have hc6 := hS6.cell
    refine bodyPost_ret (v := .agg #[.string x.name, .int .i64 x.mt.maxCount, .int .i64 x.mt.maxAge, .int .i64 x.mt.before, .int .i64 x.kept, .bool x.deleted]) (by simp [results, Tryz.results26, go_sem, hc6]) rfl ⟨rfl, hO6⟩
  · have hall : ∀ k (hl : k < r.s.length), ¬ r.s[k].name = n := by
      intro k
      induction k using Nat.strongRecOn with
      | _ k ih => exact fun hl q => hin ⟨k, hl, fun i hi hil => ih i hi hil, q⟩
    obtain ⟨h1, h2⟩ := dIx_end hall
    have hget : r.get n = ⟨n, MetaR.zero, 0, false⟩ := by unfold RS.get; rw [h2]; rfl
    rw [hget]
    rw [h1] at HIx
    clear h1 h2 hget hall hin hS hA
    go_enter Tryz.func26, Tryz.ntmps26
    go_wp2_with fail
    refine (HIx.out _ ((Only.refl _ _).alloc _)).mono ?_
    rintro e1 w1 ⟨rfl, k1⟩
    have hk := k1.blk (Blk.new w 82 #[.string ⟨#[]⟩, .int .i64 0, .int .i64 0, .int .i64 0, .int .i64 0, .bool false]) (by simp)
    have hO1 : Only [] w w1 := ((Only.refl _ _).alloc _).trans k1
    have hf := hk.free
    have hc := hk.cell
    go_wp2
    have hS6 := (((((hk.set 0 (.string n)).set 1 (.int .i64 0)).set 2 (.int .i64 0)).set 3 (.int .i64 0)).set 4 (.int .i64 0)).set 5 (.bool false)
    have hO6 : Only [] w ((((((w1.setCell ⟨w.heap.size, 0, none⟩ (.string n)).setCell ⟨w.heap.size, 1, none⟩ (.int .i64 0)).setCell ⟨w.heap.size, 2, none⟩ (.int .i64 0)).setCell ⟨w.heap.size, 3, none⟩ (.int .i64 0)).setCell ⟨w.heap.size, 4, none⟩ (.int .i64 0)).setCell ⟨w.heap.size, 5, none⟩ (.bool false)) := by
      iterate 6 (refine Only.setCell ?_ (.inr (Nat.le_refl _)) _)
      exact hO1
    obtain ⟨W3, hW3⟩ : ∃ W3, ((((((w1.setCell ⟨w.heap.size, 0, none⟩ (.string n)).setCell ⟨w.heap.size, 1, none⟩ (.int .i64 0)).setCell ⟨w.heap.size, 2, none⟩ (.int .i64 0)).setCell ⟨w.heap.size, 3, none⟩ (.int .i64 0)).setCell ⟨w.heap.size, 4, none⟩ (.int .i64 0)).setCell ⟨w.heap.size, 5, none⟩ (.bool false)) = W3 := ⟨_, rfl⟩
    rw [hW3] at hS6 hO6 ⊢
    have hc6 := hS6.cell
    refine bodyPost_ret (v := .agg #[.string n, .int .i64 0, .int .i64 0, .int .i64 0, .int .i64 0, .bool false]) (by simp [results, Tryz.results26, go_sem, hc6]) rfl ⟨rfl, hO6⟩
end
end
section
open Go Go.RowKit Go.Sort
theorem stagesFirst3 {P : Program} {C : World → Prop} {Q : Exit → Act → World → Prop} {l : List Oper} {H A : List Nat} {r : List (List Nat × List Nat)} {K : Act → World → Prop} {a : Act} {w : World} (h : wpQuiet P l.toArray C (fun a' => wpT1 P l.toArray C Q (opsAt l A) (wpStages P l C Q K r) a' w) (opsAt l H) a) : wpStages P l C Q K ((H, A) :: r) a w := h
theorem stagesDoneD {P : Program} {C : World → Prop} {Q : Exit → Act → World → Prop} {l : List Oper} {a : Act} {w : World} (h : Q .normal a w) : wpT1 P l.toArray C Q (opsAt l []) (wpStages P l C Q (fun a w => wpList P l.toArray Q (opsAt l []) a w) []) a w := h
set_option maxRecDepth 100000 in
set_option maxHeartbeats 2000000 in
theorem dfloorP_any {w : World} {v : Value} {ts : List Int} (m : MetaR) (f now : Int) (hm : m.ok = true) (hf : -1000000000000 ≤ f ∧ f ≤ 1000000000000) (hn : 0 ≤ now ∧ now ≤ 1099511627776) (hv : Slc w 1 v ts.length (ints ts)) (hl : ts.length ≤ 1000000) :
    Calls Tryz.prog 101 #[.agg #[.int .i64 m.maxCount, .int .i64 m.maxAge, .int .i64 m.before], .int .i64 f, .int .i64 now, v] w fun e w' => e = .returned (.int .i64 (floorE m f now ts)) ∧ Only [] w w' := by
  obtain ⟨A, cap, rfl, -, hcm, hel⟩ := hv.openI
  unfold maxLen at hcm
  clear hv
  obtain ⟨mc, age, bf⟩ := m
  have hmb : (0 ≤ mc ∧ mc ≤ 1099511627776) ∧ (0 ≤ age ∧ age ≤ 1099511627776) ∧ (0 ≤ bf ∧ bf ≤ 1099511627776) := by
    unfold MetaR.ok within at hm
    simp only [Bool.and_eq_true, decide_eq_true_eq] at hm
    omega
  clear hm
  dsimp only
  obtain ⟨W0, hW⟩ : ∃ W0, w.alloc (.cells #[.int .i64 mc, .int .i64 age, .int .i64 bf] 38) = W0 := ⟨_, rfl⟩
  have hB : Blk W0 w.heap.size 38 #[.int .i64 mc, .int .i64 age, .int .i64 bf] := by rw [← hW]; exact Blk.new _ _ _
  have hOw : Only [] w W0 := by rw [← hW]; exact (Only.refl _ _).alloc _
  have hc1 : W0.cell? ⟨w.heap.size, 1, none⟩ = some (.int .i64 age) := hB.cell 1
  have hbl := hB.lt
  have hW0 := hOw.size
  have e9 := IntWalk.i64_in ((ts.length : Int) - mc) ⟨by omega, by omega⟩
  have HW := Lib.hid hW
  have HO := Lib.hid hOw
  clear hW hB
  by_cases q5 : 0 < mc
  · have q6 : decide (0 < mc) = true := decide_eq_true q5
    by_cases q7 : 0 < age
    · have q8 : decide (0 < age) = true := decide_eq_true q7
      have HFl : Hid (floorE ⟨mc, age, bf⟩ f now ts = min (max (max (max (max f 0) bf) ((ts.length : Int) - mc)) (young age now ts)) ts.length) := by unfold Hid floorE; dsimp only; rw [if_pos q5, if_pos q7]
      go_enter Tryz.func101, Tryz.ntmps101
      go_wp2_with fail
      rw [HW.out]
      go_loopw [10] (fun i wr => ∃ j : Nat, j ≤ ts.length ∧ i = .int .i64 j ∧ Only [] W0 wr ∧ Hid (young age now ts = j + young age now (ts.drop j))) (fun i _ => ts.length - (intOf i).toNat)
      case atStart => exact ⟨0, Nat.zero_le _, rfl, Only.refl _ _, Lib.hid (by simp)⟩
      case round =>
        obtain ⟨j, hj, rfl, hO, hy⟩ := hrel
        have g1 := Within.cell (S := []) ((hO.cell (p := ⟨w.heap.size, 1, none⟩) hbl (by simp)).trans hc1) (by simp)
        have e1 := IntWalk.i64_in (-9223372036854775808 + age) ⟨by omega, by omega⟩
        have e2 := IntWalk.i64_in (now - age) ⟨by omega, by omega⟩
        have q1 : decide (now < -9223372036854775808 + age) = false := decide_eq_false (by omega)
        by_cases hlt : j < ts.length
        · obtain ⟨b, off, rfl, hb, hcell⟩ := hel j hlt
          have hyd := young_drop age now ts j hlt
          obtain ⟨t, ht⟩ : ∃ t, ts[j] = t := ⟨_, rfl⟩
          rw [ht] at hcell hyd
          have g2 := Within.cell (S := []) ((hO.cell (p := ⟨b, off + j, none⟩) (Nat.lt_of_lt_of_le hb hW0) (by simp)).trans ((HO.out.cell (p := ⟨b, off + j, none⟩) hb (by simp)).trans hcell)) (by simp)
          have q2 : decide ((j : Int) < (ts.length : Int)) = true := decide_eq_true (by omega)
          by_cases hg : t > now - age
          · have q3 : decide (t > now - age) = true := decide_eq_true hg
            rw [if_pos (by omega)] at hyd
            have HY : Hid (young age now ts = j) := by unfold Hid; rw [hy.out, hyd]; omega
            clear hyd ht hcell hy
            go_wp2_with fail
            refine wp_region_stages (C := fun W => ∃ p : Within [] wr, W = p.W) [([0, 1, 2, 3, 4, 5, 6, 7, 8, 9, 10, 11, 12, 13, 14, 15, 16, 17, 18, 19, 20, 21, 22], [])] [] (by kernel_rfl) (by kernel_rfl) (by intro c d u a w h; cases d <;> exact h) ⟨⟨_, (Only.refl _ _).drew⟩, rfl⟩ ?_
            refine stagesFirst3 ?_
            show wpQuiet _ _ _ _ [_, _, _, _, _, _, _, _, _, _, _, _, _, _, _, _, _, _, _, _, _, _, _] _
            repeat (go_big_quiet_step (fail))
            refine wpQuiet_nil ?_
            refine stagesDoneD ?_
            go_wp2
            go_ret
            exact ⟨by rw [HFl.out, HY.out]; exact ret_i (by omega), (HO.out.trans hO).drew⟩
          · have q3 : decide (t > now - age) = false := decide_eq_false hg
            rw [if_neg (by omega)] at hyd
            have HY : Hid (young age now ts = ((j + 1 : Nat) : Int) + young age now (ts.drop (j + 1))) := by unfold Hid; rw [hy.out, hyd]; omega
            clear hyd ht hcell hy
            go_wp2_with fail
            refine wp_region_stages (C := fun W => ∃ p : Within [] wr, W = p.W) [([0, 1, 2, 3, 4, 5, 6, 7, 8, 9, 10, 11, 12, 13, 14, 15, 16, 17, 18, 19, 20, 21, 22], [])] [] (by kernel_rfl) (by kernel_rfl) (by intro c d u a w h; cases d <;> exact h) ⟨⟨_, (Only.refl _ _).drew⟩, rfl⟩ ?_
            refine stagesFirst3 ?_
            show wpQuiet _ _ _ _ [_, _, _, _, _, _, _, _, _, _, _, _, _, _, _, _, _, _, _, _, _, _, _] _
            repeat (go_big_quiet_step (fail))
            refine wpQuiet_nil ?_
            refine stagesDoneD ?_
            go_wp2
            go_round
            case rel => exact ⟨j + 1, hlt, by simp, hO.drew, HY⟩
            case measure => simp [intOf]; omega
        · have hje : j = ts.length := by omega
          have q2 : decide ((j : Int) < (ts.length : Int)) = false := decide_eq_false (by omega)
          have HY : Hid (young age now ts = j) := by unfold Hid; rw [hy.out, hje, List.drop_length]; simp [young]
          clear hy hje
          go_wp2_with fail
          refine wp_region_stages (C := fun W => ∃ p : Within [] wr, W = p.W) [([0, 1, 2, 3, 4, 5, 6, 7, 8, 9, 10, 11, 12, 13, 14, 15, 16, 17, 18, 19, 20, 21, 22], [])] [] (by kernel_rfl) (by kernel_rfl) (by intro c d u a w h; cases d <;> exact h) ⟨⟨_, (Only.refl _ _).drew⟩, rfl⟩ ?_
          refine stagesFirst3 ?_
          show wpQuiet _ _ _ _ [_, _, _, _, _, _, _, _, _, _, _, _, _, _, _, _, _, _, _, _, _, _, _] _
          repeat (go_big_quiet_step (fail))
          refine wpQuiet_nil ?_
          refine stagesDoneD ?_
          go_wp2
          go_ret
          exact ⟨by rw [HFl.out, HY.out]; exact ret_i (by omega), (HO.out.trans hO).drew⟩
    · have q8 : decide (0 < age) = false := decide_eq_false q7
      have HFl : Hid (floorE ⟨mc, age, bf⟩ f now ts = min (max (max (max f 0) bf) ((ts.length : Int) - mc)) ts.length) := by unfold Hid floorE; dsimp only; rw [if_pos q5, if_neg q7]
      clear hel
      go_enter Tryz.func101, Tryz.ntmps101
      go_wp2
      go_ret
      exact ⟨by rw [HFl.out]; exact ret_i (by omega), (Only.refl _ _).alloc _⟩
  · have q6 : decide (0 < mc) = false := decide_eq_false q5
    by_cases q7 : 0 < age
    · have q8 : decide (0 < age) = true := decide_eq_true q7
      have HFl : Hid (floorE ⟨mc, age, bf⟩ f now ts = min (max (max (max f 0) bf) (young age now ts)) ts.length) := by unfold Hid floorE; dsimp only; rw [if_neg q5, if_pos q7]
      go_enter Tryz.func101, Tryz.ntmps101
      go_wp2_with fail
      rw [HW.out]
      go_loopw [10] (fun i wr => ∃ j : Nat, j ≤ ts.length ∧ i = .int .i64 j ∧ Only [] W0 wr ∧ Hid (young age now ts = j + young age now (ts.drop j))) (fun i _ => ts.length - (intOf i).toNat)
      case atStart => exact ⟨0, Nat.zero_le _, rfl, Only.refl _ _, Lib.hid (by simp)⟩
      case round =>
        obtain ⟨j, hj, rfl, hO, hy⟩ := hrel
        have g1 := Within.cell (S := []) ((hO.cell (p := ⟨w.heap.size, 1, none⟩) hbl (by simp)).trans hc1) (by simp)
        have e1 := IntWalk.i64_in (-9223372036854775808 + age) ⟨by omega, by omega⟩
        have e2 := IntWalk.i64_in (now - age) ⟨by omega, by omega⟩
        have q1 : decide (now < -9223372036854775808 + age) = false := decide_eq_false (by omega)
        by_cases hlt : j < ts.length
        · obtain ⟨b, off, rfl, hb, hcell⟩ := hel j hlt
          have hyd := young_drop age now ts j hlt
          obtain ⟨t, ht⟩ : ∃ t, ts[j] = t := ⟨_, rfl⟩
          rw [ht] at hcell hyd
          have g2 := Within.cell (S := []) ((hO.cell (p := ⟨b, off + j, none⟩) (Nat.lt_of_lt_of_le hb hW0) (by simp)).trans ((HO.out.cell (p := ⟨b, off + j, none⟩) hb (by simp)).trans hcell)) (by simp)
          have q2 : decide ((j : Int) < (ts.length : Int)) = true := decide_eq_true (by omega)
          by_cases hg : t > now - age
          · have q3 : decide (t > now - age) = true := decide_eq_true hg
            rw [if_pos (by omega)] at hyd
            have HY : Hid (young age now ts = j) := by unfold Hid; rw [hy.out, hyd]; omega
            clear hyd ht hcell hy
            go_wp2_with fail
            refine wp_region_stages (C := fun W => ∃ p : Within [] wr, W = p.W) [([0, 1, 2, 3, 4, 5, 6, 7, 8, 9, 10, 11, 12, 13, 14, 15, 16, 17, 18, 19, 20, 21, 22], [])] [] (by kernel_rfl) (by kernel_rfl) (by intro c d u a w h; cases d <;> exact h) ⟨⟨_, (Only.refl _ _).drew⟩, rfl⟩ ?_
            refine stagesFirst3 ?_
            show wpQuiet _ _ _ _ [_, _, _, _, _, _, _, _, _, _, _, _, _, _, _, _, _, _, _, _, _, _, _] _
            repeat (go_big_quiet_step (fail))
            refine wpQuiet_nil ?_
            refine stagesDoneD ?_
            go_wp2
            go_ret
            exact ⟨by rw [HFl.out, HY.out]; exact ret_i (by omega), (HO.out.trans hO).drew⟩
          · have q3 : decide (t > now - age) = false := decide_eq_false hg
            rw [if_neg (by omega)] at hyd
            have HY : Hid (young age now ts = ((j + 1 : Nat) : Int) + young age now (ts.drop (j + 1))) := by unfold Hid; rw [hy.out, hyd]; omega
            clear hyd ht hcell hy
            go_wp2_with fail
            refine wp_region_stages (C := fun W => ∃ p : Within [] wr, W = p.W) [([0, 1, 2, 3, 4, 5, 6, 7, 8, 9, 10, 11, 12, 13, 14, 15, 16, 17, 18, 19, 20, 21, 22], [])] [] (by kernel_rfl) (by kernel_rfl) (by intro c d u a w h; cases d <;> exact h) ⟨⟨_, (Only.refl _ _).drew⟩, rfl⟩ ?_
            refine stagesFirst3 ?_
            show wpQuiet _ _ _ _ [_, _, _, _, _, _, _, _, _, _, _, _, _, _, _, _, _, _, _, _, _, _, _] _
            repeat (go_big_quiet_step (fail))
            refine wpQuiet_nil ?_
            refine stagesDoneD ?_
            go_wp2
            go_round
            case rel => exact ⟨j + 1, hlt, by simp, hO.drew, HY⟩
            case measure => simp [intOf]; omega
        · have hje : j = ts.length := by omega
          have q2 : decide ((j : Int) < (ts.length : Int)) = false := decide_eq_false (by omega)
          have HY : Hid (young age now ts = j) := by unfold Hid; rw [hy.out, hje, List.drop_length]; simp [young]
          clear hy hje
          go_wp2_with fail
          refine wp_region_stages (C := fun W => ∃ p : Within [] wr, W = p.W) [([0, 1, 2, 3, 4, 5, 6, 7, 8, 9, 10, 11, 12, 13, 14, 15, 16, 17, 18, 19, 20, 21, 22], [])] [] (by kernel_rfl) (by kernel_rfl) (by intro c d u a w h; cases d <;> exact h) ⟨⟨_, (Only.refl _ _).drew⟩, rfl⟩ ?_
          refine stagesFirst3 ?_
          show wpQuiet _ _ _ _ [_, _, _, _, _, _, _, _, _, _, _, _, _, _, _, _, _, _, _, _, _, _, _] _
          repeat (go_big_quiet_step (fail))
          refine wpQuiet_nil ?_
          refine stagesDoneD ?_
          go_wp2
          go_ret
          exact ⟨by rw [HFl.out, HY.out]; exact ret_i (by omega), (HO.out.trans hO).drew⟩
    · have q8 : decide (0 < age) = false := decide_eq_false q7
      have HFl : Hid (floorE ⟨mc, age, bf⟩ f now ts = min (max (max f 0) bf) ts.length) := by unfold Hid floorE; dsimp only; rw [if_neg q5, if_neg q7]
      clear hel
      go_enter Tryz.func101, Tryz.ntmps101
      go_wp2
      go_ret
      exact ⟨by rw [HFl.out]; exact ret_i (by omega), (Only.refl _ _).alloc _⟩
end
section
open Go Go.RowKit Go.Sort
theorem appI {W : World} {base : Nat} {v : Value} {l : List Int} (hown : W.ownsRow base 3 1 v l.length (ints l)) (hb : base ≤ W.heap.size) (hl : l.length ≤ 1000000) (x : Int) :
    ∃ A cap w', (Builtin.append_ #[48, 48] 48 #[v, .slice (some ⟨W.heap.size, 0, none⟩) 1 1]).run Tryz.prog (W.alloc (.cells #[.int .i64 x] 3)) = .ok (.slice A (l.length + 1) cap) w' ∧ w'.ownsRow base 3 1 (.slice A (l.length + 1) cap) (l ++ [x]).length (ints (l ++ [x])) ∧ Only v.ownBlock.toList (W.alloc (.cells #[.int .i64 x] 3)) w' := by
  obtain ⟨A, cap, w', h1, h2, h3, _⟩ := run_app (P := Tryz.prog) (w := W.alloc (.cells #[.int .i64 x] 3)) 48 48 base 3 (.int .i64 0) 1 8 Tryz.underlying48 infoI rfl (by decide) (hown.alloc _) (slc_new1 (w := W) (e := 3) (size := 1) (cs := ints [x]) rfl) (by intro u hu; simp [ints] at hu; subst hu; rfl) (by omega) (by unfold maxLen; omega) (Nat.le_trans hb (by simp))
  refine ⟨A, cap, w', h1, ?_, h3⟩
  rw [List.length_append]
  simpa [ints] using h2
section
variable {a w : World} {H : List Nat} {rb : Nat} {r : RS}
set_option maxRecDepth 100000 in
set_option maxHeartbeats 2000000 in
theorem dfloor_any (h : HasD a w H rb r) (n : ByteArray) (hl : r.l.length ≤ 1000000) (hm : (r.get n).mt.ok = true) (hk : 0 ≤ (r.get n).kept ∧ (r.get n).kept ≤ 1000000000) (hn : 0 ≤ r.now ∧ r.now ≤ 1099511627776) :
    Calls Tryz.prog 69 #[.pointer (some ⟨rb, 0, none⟩), .string n] w fun e w' => e = .returned (.int .i64 (r.floor n)) ∧ Only [] w w' := by
  have HOf := Lib.hid (dof_any h hl n)
  have HGt := Lib.hid fun (W : World) (k : Only [] w W) => dget_any (h.keep0 k) n
  have hofl : (r.of n).length ≤ 1000000 := Nat.le_trans (List.length_filter_le _ _) hl
  obtain ⟨⟨vl, vs, hA, rfl⟩, -, -⟩ := h
  have f2 : w.cell? ⟨rb, 2, none⟩ = some (.int .i64 r.now) := hA.blk.cell 2
  have hrb := hA.blk.lt
  obtain ⟨L, hL⟩ : ∃ L, r.of n = L := ⟨_, rfl⟩
  obtain ⟨x, hx⟩ : ∃ x, r.get n = x := ⟨_, rfl⟩
  have hfl : r.floor n = floorE x.mt x.kept r.now (L.map (·.time)) := by unfold RS.floor; rw [hL, hx]
  rw [hfl]
  rw [hL] at HOf hofl
  rw [hx] at HGt hm hk
  unfold DStr.val at HGt
  have HFp := Lib.hid fun (W : World) (v : Value) (hv : Slc W 1 v (L.map (·.time)).length (ints (L.map (·.time)))) => dfloorP_any (w := W) x.mt x.kept r.now hm (by omega) hn hv (by rw [List.length_map]; exact hofl)
  obtain ⟨nw, hnw⟩ : ∃ nw, r.now = nw := ⟨_, rfl⟩
  rw [hnw] at HFp f2 ⊢
  have htl : (L.map (·.time)).length = L.length := List.length_map ..
  clear hA hL hx hfl hm hk hn hl hnw
  go_enter Tryz.func69, Tryz.ntmps69
  go_wp2_with fail
  refine HOf.out.mono ?_
  rintro e1 w1 ⟨v1, rfl, hown1, k1⟩
  obtain ⟨A1, c1, rfl, -, -, hel⟩ := (Slc.of_own hown1).1.openE StoredR.cells (fun _ => rfl)
  clear hown1
  go_wp2_with fail
  go_loopw [6, 7] (fun o i wr => ∃ (k : Nat) (A : Option Addr) (cap : Nat), k ≤ L.length ∧ i = .int .i64 k ∧ o = .slice A k cap ∧ wr.ownsRow w1.heap.size 3 1 (.slice A k cap) k (ints ((L.map (·.time)).take k)) ∧ Only [] w1 wr) (fun _ i _ => L.length - (intOf i).toNat)
  case atStart => exact ⟨0, none, 0, Nat.zero_le _, rfl, rfl, by rw [List.take_zero]; exact World.ownsRow_nil _ _ _ _, Only.refl _ _⟩
  case round =>
    obtain ⟨k, A, cap, hk, rfl, rfl, hown, hO⟩ := hrel
    by_cases hlt : k < L.length
    · obtain ⟨b, off, rfl, hbb, hcc⟩ := hel k hlt
      have htk : (L.map (·.time)).take (k + 1) = (L.map (·.time)).take k ++ [L[k].time] := by rw [List.take_succ_eq_append_getElem (by simpa using hlt), List.getElem_map]
      obtain ⟨t, ht⟩ : ∃ t, L[k].time = t := ⟨_, rfl⟩
      have hc7 : w1.cell? ⟨b, off + k * 8 + 7, none⟩ = some (.int .i64 t) := by rw [← ht]; exact hcc 7 (by omega)
      have c7 : wr.cell? ⟨b, off + k * 8 + 7, none⟩ = some (.int .i64 t) := (hO.cell (p := ⟨b, off + k * 8 + 7, none⟩) hbb (by simp)).trans hc7
      rw [ht] at htk
      have hkl : ((L.map (·.time)).take k).length = k := by rw [List.length_take, List.length_map]; omega
      obtain ⟨A4, c4', w4, hr4, hown4, hO4⟩ := appI (W := wr) (base := w1.heap.size) (v := .slice A k cap) (l := (L.map (·.time)).take k) (by rw [hkl]; exact hown) hO.size (by rw [hkl]; omega) t
      have hkl2 : ((L.map (·.time)).take k ++ [t]).length = k + 1 := by rw [List.length_append, hkl]; rfl
      rw [hkl] at hr4
      rw [hkl, hkl2, ← htk] at hown4
      have HR4 := Lib.hid hr4
      have HW4 := Lib.hid hown4
      have hb3 := fun g hg => (World.ownsRow.lt hown g hg).1
      have hO5 : Only [] w1 w4 := (hO.alloc _).step hO4 (fun g hg => .inr (by have := hb3 g (by simpa using hg); omega))
      have HO5 := Lib.hid hO5
      clear hcc hr4 hown4 htk ht hc7 hkl hkl2 hO4 hO5 hb3
      go_wp2_with (at_builtin; refine Lib.wpList_append_run _ rfl (.tmp 18) (.tmp 24) 48 48 rfl _ _ rfl rfl _ _ HR4.out ?_)
      go_round
      case rel => exact ⟨k + 1, A4, c4', hlt, by simp, rfl, HW4.out, HO5.out⟩
      case measure => simp [intOf]; omega
    · have hkl : k = L.length := by omega
      subst hkl
      rw [← htl, List.take_length] at hown
      have hts := (Slc.of_own hown).1
      rw [htl] at hts
      have HTs := Lib.hid hts
      have hwr : Only [] w wr := k1.trans hO
      clear hown hel hts
      go_wp2_with fail
      refine (HGt.out _ hwr).mono ?_
      rintro e2 w2 ⟨rfl, k2⟩
      have hw2 : Only [] w w2 := hwr.trans k2
      obtain ⟨W3, hW3⟩ : ∃ W3, w2.alloc (.cells #[.string x.name, .int .i64 x.mt.maxCount, .int .i64 x.mt.maxAge, .int .i64 x.mt.before, .int .i64 x.kept, .bool x.deleted] 82) = W3 := ⟨_, rfl⟩
      have hB3 : Blk W3 w2.heap.size 82 #[.string x.name, .int .i64 x.mt.maxCount, .int .i64 x.mt.maxAge, .int .i64 x.mt.before, .int .i64 x.kept, .bool x.deleted] := by rw [← hW3]; exact Blk.new _ _ _
      have hw3 : Only [] w W3 := by rw [← hW3]; exact hw2.alloc _
      have hwr3 : Only [] wr W3 := by rw [← hW3]; exact k2.alloc _
      have d1 := Within.cell (S := []) (show W3.cell? ⟨w2.heap.size, 1, none⟩ = some (.int .i64 x.mt.maxCount) from hB3.cell 1) (by simp)
      have d2 := Within.cell (S := []) (show W3.cell? ⟨w2.heap.size, 2, none⟩ = some (.int .i64 x.mt.maxAge) from hB3.cell 2) (by simp)
      have d3 := Within.cell (S := []) (show W3.cell? ⟨w2.heap.size, 3, none⟩ = some (.int .i64 x.mt.before) from hB3.cell 3) (by simp)
      have d4 := Within.cell (S := []) (show W3.cell? ⟨w2.heap.size, 4, none⟩ = some (.int .i64 x.kept) from hB3.cell 4) (by simp)
      have d6 := Within.cell (S := []) ((hw3.cell (p := ⟨rb, 2, none⟩) hrb (by simp)).trans f2) (by simp)
      go_wp2_with fail
      refine wp_region_in [] [0, 1, 2, 3, 4, 5, 6, 7, 8] [9] [10] (by kernel_rfl) (by kernel_rfl) (by intro c d u a w h; cases d <;> exact h) ?_
      show wpQuiet _ _ _ _ [_, _, _, _, _, _, _, _, _] _
      repeat (go_big_quiet_step (fail))
      refine wpQuiet_nil ?_
      show wpList _ _ _ [_] _ _
      have kd : Only [] W3 W3.drew := (Only.refl _ _).drew
      go_wp2_with (go_at_call 101; refine (HFp.out _ _ (by rw [htl]; exact HTs.out.only0 (hwr3.trans kd))).mono ?_; rintro e3 w4 ⟨rfl, k4⟩)
      refine check_of (S := []) (kd.trans k4) ?_
      show wpList _ _ _ [_] _ _
      go_wp2
      go_ret
      exact ⟨rfl, hw3.trans (kd.trans k4)⟩
end
end
section
open Go Go.RowKit Go.Sort
/-- What the contracts ask of the document's state. -/
structure RS.Fine (r : RS) : Prop where
  few : r.l.length ≤ 1000000
  mt : ∀ n, (r.get n).mt.ok = true
  kept : ∀ n, 0 ≤ (r.get n).kept ∧ (r.get n).kept ≤ 1000000000
  now : 0 ≤ r.now ∧ r.now ≤ 1099511627776
theorem filt_succ (p : StoredR → Bool) (l : List StoredR) {k : Nat} (h : k < l.length) : (l.take (k + 1)).filter p = (l.take k).filter p ++ if p l[k] = true then [l[k]] else [] := by
  rw [List.take_succ_eq_append_getElem h, List.filter_append]
  congr 1
  by_cases q : p l[k] = true
  · simp [q]
  · simp [q]
theorem fldD3 (W : World) (a b c d e f : Value) : Sem.run Tryz.prog (Instr.field 82 (.agg #[a, b, c, d, e, f]) 3) W = .ok f W := by kernel_rfl
section
variable {a w : World} {H : List Nat} {rb : Nat} {r : RS}
set_option maxRecDepth 100000 in
set_option maxHeartbeats 2000000 in
theorem dseen_any (h : HasD a w H rb r) (hf : r.Fine) (n : ByteArray) :
    Calls Tryz.prog 106 #[.pointer (some ⟨rb, 0, none⟩), .string n] w fun e w' => ∃ v', e = .returned v' ∧ w'.ownsRow w.heap.size 92 8 v' (r.seenD n).length ((r.seenD n).flatMap StoredR.cells) ∧ Only [] w w' := by
  have HGt := Lib.hid fun (m : ByteArray) (W : World) (k : Only [] w W) => dget_any (h.keep0 k) m
  have HFl := Lib.hid fun (m : ByteArray) (W : World) (k : Only [] w W) => dfloor_any (h.keep0 k) m hf.few (hf.mt m) (hf.kept m) hf.now
  have hl := hf.few
  obtain ⟨⟨vl, vs, hA, rfl⟩, -, -⟩ := h
  obtain ⟨Al, cl, As, cs, rfl, rfl, -, hcm1, -, -, hel1, -⟩ := hA.open
  unfold maxLen at hcm1
  have f0 : w.cell? ⟨rb, 0, none⟩ = some (.slice Al r.l.length cl) := hA.blk.cell 0
  have hrb := hA.blk.lt
  have hsf := stF
  have hfd3 := fldD3
  obtain ⟨p, hp⟩ : ∃ p, r.seenP n = p := ⟨_, rfl⟩
  have HP := Lib.hid hp
  obtain ⟨l, hle⟩ : ∃ l, r.l = l := ⟨_, rfl⟩
  have hof : r.seenD n = l.filter p := by rw [← hle, ← hp]; rfl
  rw [hof]
  rw [hle] at hel1 f0 hl
  clear hA hof hle hp hf
  go_enter Tryz.func106, Tryz.ntmps106
  go_wp2
  go_loopw [5, 6] (fun o i wr => ∃ (k : Nat) (A : Option Addr) (cap : Nat), k ≤ l.length ∧ i = .int .i64 k ∧ o = .slice A ((l.take k).filter p).length cap ∧ wr.ownsRow w.heap.size 92 8 (.slice A ((l.take k).filter p).length cap) ((l.take k).filter p).length (((l.take k).filter p).flatMap StoredR.cells) ∧ Only [] w wr) (fun _ i _ => l.length - (intOf i).toNat)
  case atStart => exact ⟨0, none, 0, Nat.zero_le _, rfl, rfl, World.ownsRow_nil _ _ _ _, Only.refl _ _⟩
  case round =>
    obtain ⟨k, A, cap, hk, rfl, rfl, hown, hO⟩ := hrel
    have g0 : wr.cell? ⟨rb, 0, none⟩ = some (.slice Al l.length cl) := (hO.cell hrb (by simp)).trans f0
    have hfew : ((l.take k).filter p).length ≤ k := Nat.le_trans (List.length_filter_le _ _) (by rw [List.length_take]; omega)
    by_cases hlt : k < l.length
    · obtain ⟨b, off, rfl, hbb, hcc⟩ := hel1 k hlt
      have hnx := filt_succ p l hlt
      obtain ⟨x, hx⟩ : ∃ x, x = l[k] := ⟨_, rfl⟩
      rw [← hx] at hcc hnx
      have c0 : wr.cell? ⟨b, off + k * 8, none⟩ = some (.int .i64 x.ev.id) := (hO.cell hbb (by simp)).trans (hcc 0 (by omega))
      have c1 : wr.cell? ⟨b, off + k * 8 + 1, none⟩ = some (.string x.ev.type) := (hO.cell hbb (by simp)).trans (hcc 1 (by omega))
      have c2 : wr.cell? ⟨b, off + k * 8 + 2, none⟩ = some (.string x.ev.data) := (hO.cell hbb (by simp)).trans (hcc 2 (by omega))
      have c3 : wr.cell? ⟨b, off + k * 8 + 3, none⟩ = some (.float .f64 x.ev.value) := (hO.cell hbb (by simp)).trans (hcc 3 (by omega))
      have c4 : wr.cell? ⟨b, off + k * 8 + 4, none⟩ = some (.string x.stream) := (hO.cell hbb (by simp)).trans (hcc 4 (by omega))
      have c5 : wr.cell? ⟨b, off + k * 8 + 5, none⟩ = some (.int .i64 x.version) := (hO.cell hbb (by simp)).trans (hcc 5 (by omega))
      have c6 : wr.cell? ⟨b, off + k * 8 + 6, none⟩ = some (.int .i64 x.position) := (hO.cell hbb (by simp)).trans (hcc 6 (by omega))
      have c7 : wr.cell? ⟨b, off + k * 8 + 7, none⟩ = some (.int .i64 x.time) := (hO.cell hbb (by simp)).trans (hcc 7 (by omega))
      obtain ⟨L, hL⟩ : ∃ L, L = (l.take k).filter p := ⟨_, rfl⟩
      rw [← hL] at hown hfew hnx ⊢
      clear hcc hx hel1 hL
      obtain ⟨wb, hwb⟩ : ∃ W, W = wr.alloc (.cells #[.int .i64 x.ev.id, .string x.ev.type, .string x.ev.data, .float .f64 x.ev.value, .string x.stream, .int .i64 x.version, .int .i64 x.position, .int .i64 x.time] 92) := ⟨_, rfl⟩
      have hBb : Blk wb wr.heap.size 92 #[.int .i64 x.ev.id, .string x.ev.type, .string x.ev.data, .float .f64 x.ev.value, .string x.stream, .int .i64 x.version, .int .i64 x.position, .int .i64 x.time] := by rw [hwb]; exact Blk.new _ _ _
      have krb : Only [] wr wb := by rw [hwb]; exact (Only.refl _ _).alloc _
      have HWb := Lib.hid hwb
      have hOb : Only [] w wb := hO.trans krb
      have hownb := own_only hown krb (by simp)
      have S4 := Within.cell (S := []) (show wb.cell? ⟨wr.heap.size, 4, none⟩ = some (.string x.stream) from hBb.cell 4) (by simp)
      have S5 := Within.cell (S := []) (show wb.cell? ⟨wr.heap.size, 5, none⟩ = some (.int .i64 x.version) from hBb.cell 5) (by simp)
      have kd : Only [] wb wb.drew := (Only.refl _ _).drew
      have HG := Lib.hid (HGt.out x.stream)
      have HF := Lib.hid (HFl.out x.stream)
      unfold DStr.val at HG
      have hpx : p x = ((decide (n.toList = []) || decide (x.stream = n)) && !(r.get x.stream).deleted && decide (r.floor x.stream ≤ x.version)) := by rw [← HP.out]; rfl
      obtain ⟨de, hde⟩ : ∃ d, (r.get x.stream).deleted = d := ⟨_, rfl⟩
      obtain ⟨fl, hfl⟩ : ∃ f, r.floor x.stream = f := ⟨_, rfl⟩
      rw [hde] at hpx HG
      rw [hfl] at hpx HF
      clear hwb hde hfl
      by_cases hn : n.toList = []
      · have hcond : (decide (n.toList = []) || decide (x.stream = n)) = true := by simp [hn]
        have e1 : (n.toList == ([] : List UInt8)) = true := by simp [hn]
        have hpq : p x = (!de && decide (fl ≤ x.version)) := by rw [hpx]; simp [hcond]
        clear hpx
        cases de with
        | true =>
          rw [hpq, if_neg (by simp), List.append_nil] at hnx
          have HNX := Lib.hid hnx
          clear hnx hpq
          go_wp2_with fail
          rw [← HWb.out]
          refine wp_region_stages (C := fun W => ∃ p : Within [] wb, W = p.W) [([0, 1, 2, 3, 4, 5, 6, 7, 8, 9, 10, 11], [12, 13]), ([14, 15, 16, 17, 18, 19, 20, 21], [22]), ([23, 24], [])] [] (by kernel_rfl) (by kernel_rfl) (by intro c d u a w h; cases d <;> exact h) ⟨⟨_, (Only.refl _ _).drew⟩, rfl⟩ ?_
          refine stagesFirst ?_
          show wpQuiet _ _ _ _ [_, _, _, _, _, _, _, _, _, _, _, _] _
          repeat (go_big_quiet_step (fail))
          refine wpQuiet_nil ?_
          show wpList _ _ _ [_] _ _
          go_wp2_with (go_at_call 26; refine (HG.out _ (hOb.trans kd)).mono ?_; rintro e w9 ⟨rfl, ho9⟩)
          refine check_of (S := []) (kd.trans ho9) ?_
          show wpList _ _ _ [_] _ _
          go_wp2
          refine check_of (S := []) (kd.trans ho9) ?_
          refine stagesNext ?_
          show wpQuiet _ _ _ _ [_, _, _, _, _, _, _, _] _
          try go_frame
          repeat (go_big_quiet_step (fail))
          refine wpQuiet_nil ?_
          show wpList _ _ _ [_] _ _
          go_wp2
          refine check_of (S := []) (kd.trans ho9) ?_
          refine stagesNext ?_
          show wpQuiet _ _ _ _ [_, _] _
          try go_frame
          repeat (go_big_quiet_step (fail))
          refine wpQuiet_nil ?_
          refine stagesDoneD ?_
          go_wp2
          go_round
          case rel =>
            refine ⟨k + 1, A, cap, hlt, by simp, ?_, ?_, hOb.trans (kd.trans ho9)⟩
            · rw [HNX.out]
            · rw [HNX.out]
              exact own_only hownb (kd.trans ho9) (by simp)
          case measure => simp [intOf]; omega
        | false =>
          by_cases hv : fl ≤ x.version
          · rw [hpq, if_pos (by simp [hv])] at hnx
            have HNX := Lib.hid hnx
            clear hnx hpq
            go_wp2_with fail
            rw [← HWb.out]
            refine wp_region_stages (C := fun W => ∃ p : Within [] wb, W = p.W) [([0, 1, 2, 3, 4, 5, 6, 7, 8, 9, 10, 11], [12, 13]), ([14, 15, 16, 17, 18, 19, 20, 21], [22]), ([23, 24], [])] [] (by kernel_rfl) (by kernel_rfl) (by intro c d u a w h; cases d <;> exact h) ⟨⟨_, (Only.refl _ _).drew⟩, rfl⟩ ?_
            refine stagesFirst ?_
            show wpQuiet _ _ _ _ [_, _, _, _, _, _, _, _, _, _, _, _] _
            repeat (go_big_quiet_step (fail))
            refine wpQuiet_nil ?_
            show wpList _ _ _ [_] _ _
            go_wp2_with (go_at_call 26; refine (HG.out _ (hOb.trans kd)).mono ?_; rintro e w9 ⟨rfl, ho9⟩)
            refine check_of (S := []) (kd.trans ho9) ?_
            show wpList _ _ _ [_] _ _
            go_wp2
            refine check_of (S := []) (kd.trans ho9) ?_
            refine stagesNext ?_
            show wpQuiet _ _ _ _ [_, _, _, _, _, _, _, _] _
            try go_frame
            repeat (go_big_quiet_step (fail))
            refine wpQuiet_nil ?_
            show wpList _ _ _ [_] _ _
            go_wp2_with (go_at_call 69; refine (HF.out _ (hOb.trans (kd.trans ho9))).mono ?_; rintro e w10 ⟨rfl, ho10⟩)
            refine check_of (S := []) (kd.trans (ho9.trans ho10)) ?_
            refine stagesNext ?_
            show wpQuiet _ _ _ _ [_, _] _
            try go_frame
            repeat (go_big_quiet_step (fail))
            refine wpQuiet_nil ?_
            refine stagesDoneD ?_
            obtain ⟨A4, c4', w4, hr4, hown4, hO4⟩ := app8 (W := w10) (base := w.heap.size) (own_only hownb (kd.trans (ho9.trans ho10)) (by simp)) (hOb.trans (kd.trans (ho9.trans ho10))).size (by omega) x
            have HR4 := Lib.hid hr4
            have hBx := (kd.trans (ho9.trans ho10)).blk hBb (by simp)
            have b0 : w10.cell? ⟨wr.heap.size, 0, none⟩ = some (.int .i64 x.ev.id) := hBx.cell 0
            have b1 : w10.cell? ⟨wr.heap.size, 1, none⟩ = some (.string x.ev.type) := hBx.cell 1
            have b2 : w10.cell? ⟨wr.heap.size, 2, none⟩ = some (.string x.ev.data) := hBx.cell 2
            have b3 : w10.cell? ⟨wr.heap.size, 3, none⟩ = some (.float .f64 x.ev.value) := hBx.cell 3
            have b4 : w10.cell? ⟨wr.heap.size, 4, none⟩ = some (.string x.stream) := hBx.cell 4
            have b5 : w10.cell? ⟨wr.heap.size, 5, none⟩ = some (.int .i64 x.version) := hBx.cell 5
            have b6 : w10.cell? ⟨wr.heap.size, 6, none⟩ = some (.int .i64 x.position) := hBx.cell 6
            have b7 : w10.cell? ⟨wr.heap.size, 7, none⟩ = some (.int .i64 x.time) := hBx.cell 7
            clear hr4
            go_wp2_with (at_builtin; refine Lib.wpList_append_run _ rfl (.tmp 49) (.tmp 51) 28 28 rfl _ _ rfl rfl _ _ HR4.out ?_)
            have hb3 := fun g hg => (World.ownsRow.lt hown g hg).1
            have hO5 : Only [] w w4 := ((hOb.trans (kd.trans (ho9.trans ho10))).alloc _).step hO4 (fun g hg => .inr (by have := hb3 g (by simpa using hg); omega))
            go_round
            case rel =>
              refine ⟨k + 1, A4, c4', hlt, by simp, ?_, ?_, hO5⟩
              · rw [HNX.out, List.length_append]
                rfl
              · rw [HNX.out]
                simpa using hown4
            case measure => simp [intOf]; omega
          · rw [hpq, if_neg (by simp [hv]), List.append_nil] at hnx
            have HNX := Lib.hid hnx
            clear hnx hpq
            go_wp2_with fail
            rw [← HWb.out]
            refine wp_region_stages (C := fun W => ∃ p : Within [] wb, W = p.W) [([0, 1, 2, 3, 4, 5, 6, 7, 8, 9, 10, 11], [12, 13]), ([14, 15, 16, 17, 18, 19, 20, 21], [22]), ([23, 24], [])] [] (by kernel_rfl) (by kernel_rfl) (by intro c d u a w h; cases d <;> exact h) ⟨⟨_, (Only.refl _ _).drew⟩, rfl⟩ ?_
            refine stagesFirst ?_
            show wpQuiet _ _ _ _ [_, _, _, _, _, _, _, _, _, _, _, _] _
            repeat (go_big_quiet_step (fail))
            refine wpQuiet_nil ?_
            show wpList _ _ _ [_] _ _
            go_wp2_with (go_at_call 26; refine (HG.out _ (hOb.trans kd)).mono ?_; rintro e w9 ⟨rfl, ho9⟩)
            refine check_of (S := []) (kd.trans ho9) ?_
            show wpList _ _ _ [_] _ _
            go_wp2
            refine check_of (S := []) (kd.trans ho9) ?_
            refine stagesNext ?_
            show wpQuiet _ _ _ _ [_, _, _, _, _, _, _, _] _
            try go_frame
            repeat (go_big_quiet_step (fail))
            refine wpQuiet_nil ?_
            show wpList _ _ _ [_] _ _
            go_wp2_with (go_at_call 69; refine (HF.out _ (hOb.trans (kd.trans ho9))).mono ?_; rintro e w10 ⟨rfl, ho10⟩)
            refine check_of (S := []) (kd.trans (ho9.trans ho10)) ?_
            refine stagesNext ?_
            show wpQuiet _ _ _ _ [_, _] _
            try go_frame
            repeat (go_big_quiet_step (fail))
            refine wpQuiet_nil ?_
            refine stagesDoneD ?_
            go_wp2
            go_round
            case rel =>
              refine ⟨k + 1, A, cap, hlt, by simp, ?_, ?_, hOb.trans (kd.trans (ho9.trans ho10))⟩
              · rw [HNX.out]
              · rw [HNX.out]
                exact own_only hownb (kd.trans (ho9.trans ho10)) (by simp)
            case measure => simp [intOf]; omega
      · by_cases he : x.stream = n
        · have hcond : (decide (n.toList = []) || decide (x.stream = n)) = true := by simp [he]
          have e1 : (n.toList == ([] : List UInt8)) = false := by simpa using hn
          have he2 := eqD_t he
          clear he
          have hpq : p x = (!de && decide (fl ≤ x.version)) := by rw [hpx]; simp [hcond]
          clear hpx
          cases de with
          | true =>
            rw [hpq, if_neg (by simp), List.append_nil] at hnx
            have HNX := Lib.hid hnx
            clear hnx hpq
            go_wp2_with fail
            rw [← HWb.out]
            refine wp_region_stages (C := fun W => ∃ p : Within [] wb, W = p.W) [([0, 1, 2, 3, 4, 5, 6, 7, 8, 9, 10, 11], [12, 13]), ([14, 15, 16, 17, 18, 19, 20, 21], [22]), ([23, 24], [])] [] (by kernel_rfl) (by kernel_rfl) (by intro c d u a w h; cases d <;> exact h) ⟨⟨_, (Only.refl _ _).drew⟩, rfl⟩ ?_
            refine stagesFirst ?_
            show wpQuiet _ _ _ _ [_, _, _, _, _, _, _, _, _, _, _, _] _
            repeat (go_big_quiet_step (fail))
            refine wpQuiet_nil ?_
            show wpList _ _ _ [_] _ _
            go_wp2_with (go_at_call 26; refine (HG.out _ (hOb.trans kd)).mono ?_; rintro e w9 ⟨rfl, ho9⟩)
            refine check_of (S := []) (kd.trans ho9) ?_
            show wpList _ _ _ [_] _ _
            go_wp2
            refine check_of (S := []) (kd.trans ho9) ?_
            refine stagesNext ?_
            show wpQuiet _ _ _ _ [_, _, _, _, _, _, _, _] _
            try go_frame
            repeat (go_big_quiet_step (fail))
            refine wpQuiet_nil ?_
            show wpList _ _ _ [_] _ _
            go_wp2
            refine check_of (S := []) (kd.trans ho9) ?_
            refine stagesNext ?_
            show wpQuiet _ _ _ _ [_, _] _
            try go_frame
            repeat (go_big_quiet_step (fail))
            refine wpQuiet_nil ?_
            refine stagesDoneD ?_
            go_wp2
            go_round
            case rel =>
              refine ⟨k + 1, A, cap, hlt, by simp, ?_, ?_, hOb.trans (kd.trans ho9)⟩
              · rw [HNX.out]
              · rw [HNX.out]
                exact own_only hownb (kd.trans ho9) (by simp)
            case measure => simp [intOf]; omega
          | false =>
            by_cases hv : fl ≤ x.version
            · rw [hpq, if_pos (by simp [hv])] at hnx
              have HNX := Lib.hid hnx
              clear hnx hpq
              go_wp2_with fail
              rw [← HWb.out]
              refine wp_region_stages (C := fun W => ∃ p : Within [] wb, W = p.W) [([0, 1, 2, 3, 4, 5, 6, 7, 8, 9, 10, 11], [12, 13]), ([14, 15, 16, 17, 18, 19, 20, 21], [22]), ([23, 24], [])] [] (by kernel_rfl) (by kernel_rfl) (by intro c d u a w h; cases d <;> exact h) ⟨⟨_, (Only.refl _ _).drew⟩, rfl⟩ ?_
              refine stagesFirst ?_
              show wpQuiet _ _ _ _ [_, _, _, _, _, _, _, _, _, _, _, _] _
              repeat (go_big_quiet_step (fail))
              refine wpQuiet_nil ?_
              show wpList _ _ _ [_] _ _
              go_wp2_with (go_at_call 26; refine (HG.out _ (hOb.trans kd)).mono ?_; rintro e w9 ⟨rfl, ho9⟩)
              refine check_of (S := []) (kd.trans ho9) ?_
              show wpList _ _ _ [_] _ _
              go_wp2
              refine check_of (S := []) (kd.trans ho9) ?_
              refine stagesNext ?_
              show wpQuiet _ _ _ _ [_, _, _, _, _, _, _, _] _
              try go_frame
              repeat (go_big_quiet_step (fail))
              refine wpQuiet_nil ?_
              show wpList _ _ _ [_] _ _
              go_wp2_with (go_at_call 69; refine (HF.out _ (hOb.trans (kd.trans ho9))).mono ?_; rintro e w10 ⟨rfl, ho10⟩)
              refine check_of (S := []) (kd.trans (ho9.trans ho10)) ?_
              refine stagesNext ?_
              show wpQuiet _ _ _ _ [_, _] _
              try go_frame
              repeat (go_big_quiet_step (fail))
              refine wpQuiet_nil ?_
              refine stagesDoneD ?_
              obtain ⟨A4, c4', w4, hr4, hown4, hO4⟩ := app8 (W := w10) (base := w.heap.size) (own_only hownb (kd.trans (ho9.trans ho10)) (by simp)) (hOb.trans (kd.trans (ho9.trans ho10))).size (by omega) x
              have HR4 := Lib.hid hr4
              have hBx := (kd.trans (ho9.trans ho10)).blk hBb (by simp)
              have b0 : w10.cell? ⟨wr.heap.size, 0, none⟩ = some (.int .i64 x.ev.id) := hBx.cell 0
              have b1 : w10.cell? ⟨wr.heap.size, 1, none⟩ = some (.string x.ev.type) := hBx.cell 1
              have b2 : w10.cell? ⟨wr.heap.size, 2, none⟩ = some (.string x.ev.data) := hBx.cell 2
              have b3 : w10.cell? ⟨wr.heap.size, 3, none⟩ = some (.float .f64 x.ev.value) := hBx.cell 3
              have b4 : w10.cell? ⟨wr.heap.size, 4, none⟩ = some (.string x.stream) := hBx.cell 4
              have b5 : w10.cell? ⟨wr.heap.size, 5, none⟩ = some (.int .i64 x.version) := hBx.cell 5
              have b6 : w10.cell? ⟨wr.heap.size, 6, none⟩ = some (.int .i64 x.position) := hBx.cell 6
              have b7 : w10.cell? ⟨wr.heap.size, 7, none⟩ = some (.int .i64 x.time) := hBx.cell 7
              clear hr4
              go_wp2_with (at_builtin; refine Lib.wpList_append_run _ rfl (.tmp 49) (.tmp 51) 28 28 rfl _ _ rfl rfl _ _ HR4.out ?_)
              have hb3 := fun g hg => (World.ownsRow.lt hown g hg).1
              have hO5 : Only [] w w4 := ((hOb.trans (kd.trans (ho9.trans ho10))).alloc _).step hO4 (fun g hg => .inr (by have := hb3 g (by simpa using hg); omega))
              go_round
              case rel =>
                refine ⟨k + 1, A4, c4', hlt, by simp, ?_, ?_, hO5⟩
                · rw [HNX.out, List.length_append]
                  rfl
                · rw [HNX.out]
                  simpa using hown4
              case measure => simp [intOf]; omega
            · rw [hpq, if_neg (by simp [hv]), List.append_nil] at hnx
              have HNX := Lib.hid hnx
              clear hnx hpq
              go_wp2_with fail
              rw [← HWb.out]
              refine wp_region_stages (C := fun W => ∃ p : Within [] wb, W = p.W) [([0, 1, 2, 3, 4, 5, 6, 7, 8, 9, 10, 11], [12, 13]), ([14, 15, 16, 17, 18, 19, 20, 21], [22]), ([23, 24], [])] [] (by kernel_rfl) (by kernel_rfl) (by intro c d u a w h; cases d <;> exact h) ⟨⟨_, (Only.refl _ _).drew⟩, rfl⟩ ?_
              refine stagesFirst ?_
              show wpQuiet _ _ _ _ [_, _, _, _, _, _, _, _, _, _, _, _] _
              repeat (go_big_quiet_step (fail))
              refine wpQuiet_nil ?_
              show wpList _ _ _ [_] _ _
              go_wp2_with (go_at_call 26; refine (HG.out _ (hOb.trans kd)).mono ?_; rintro e w9 ⟨rfl, ho9⟩)
              refine check_of (S := []) (kd.trans ho9) ?_
              show wpList _ _ _ [_] _ _
              go_wp2
              refine check_of (S := []) (kd.trans ho9) ?_
              refine stagesNext ?_
              show wpQuiet _ _ _ _ [_, _, _, _, _, _, _, _] _
              try go_frame
              repeat (go_big_quiet_step (fail))
              refine wpQuiet_nil ?_
              show wpList _ _ _ [_] _ _
              go_wp2_with (go_at_call 69; refine (HF.out _ (hOb.trans (kd.trans ho9))).mono ?_; rintro e w10 ⟨rfl, ho10⟩)
              refine check_of (S := []) (kd.trans (ho9.trans ho10)) ?_
              refine stagesNext ?_
              show wpQuiet _ _ _ _ [_, _] _
              try go_frame
              repeat (go_big_quiet_step (fail))
              refine wpQuiet_nil ?_
              refine stagesDoneD ?_
              go_wp2
              go_round
              case rel =>
                refine ⟨k + 1, A, cap, hlt, by simp, ?_, ?_, hOb.trans (kd.trans (ho9.trans ho10))⟩
                · rw [HNX.out]
                · rw [HNX.out]
                  exact own_only hownb (kd.trans (ho9.trans ho10)) (by simp)
              case measure => simp [intOf]; omega
        · have hcond : p x = false := by rw [hpx]; simp [hn, he]
          have e1 : (n.toList == ([] : List UInt8)) = false := by simpa using hn
          have he2 := eqD_f he
          rw [hcond, if_neg (by simp), List.append_nil] at hnx
          have HNX := Lib.hid hnx
          clear hnx hcond hpx he
          go_wp2_with fail
          rw [← HWb.out]
          refine wp_region_stages (C := fun W => ∃ p : Within [] wb, W = p.W) [([0, 1, 2, 3, 4, 5, 6, 7, 8, 9, 10, 11], [12, 13]), ([14, 15, 16, 17, 18, 19, 20, 21], [22]), ([23, 24], [])] [] (by kernel_rfl) (by kernel_rfl) (by intro c d u a w h; cases d <;> exact h) ⟨⟨_, (Only.refl _ _).drew⟩, rfl⟩ ?_
          refine stagesFirst ?_
          show wpQuiet _ _ _ _ [_, _, _, _, _, _, _, _, _, _, _, _] _
          repeat (go_big_quiet_step (fail))
          refine wpQuiet_nil ?_
          show wpList _ _ _ [_] _ _
          go_wp2
          refine check_of (S := []) kd ?_
          show wpList _ _ _ [_] _ _
          go_wp2
          refine check_of (S := []) kd ?_
          refine stagesNext ?_
          show wpQuiet _ _ _ _ [_, _, _, _, _, _, _, _] _
          try go_frame
          repeat (go_big_quiet_step (fail))
          refine wpQuiet_nil ?_
          show wpList _ _ _ [_] _ _
          go_wp2
          refine check_of (S := []) kd ?_
          refine stagesNext ?_
          show wpQuiet _ _ _ _ [_, _] _
          try go_frame
          repeat (go_big_quiet_step (fail))
          refine wpQuiet_nil ?_
          refine stagesDoneD ?_
          go_wp2
          go_round
          case rel =>
            refine ⟨k + 1, A, cap, hlt, by simp, ?_, ?_, hOb.trans (kd)⟩
            · rw [HNX.out]
            · rw [HNX.out]
              exact own_only hownb (kd) (by simp)
          case measure => simp [intOf]; omega
    · have hkl : k = l.length := by omega
      subst hkl
      rw [List.take_length] at hown ⊢
      obtain ⟨L, hL⟩ : ∃ L, L = l.filter p := ⟨_, rfl⟩
      rw [← hL] at hown ⊢
      have HL := Lib.hid hL
      clear hel1 hL
      go_wp2
      go_ret
      refine ⟨_, rfl, ?_, hO⟩
      rw [← HL.out]
      exact hown
end
end
end Go.Proofs.YteinoiicnmemhaaGreatDoor
