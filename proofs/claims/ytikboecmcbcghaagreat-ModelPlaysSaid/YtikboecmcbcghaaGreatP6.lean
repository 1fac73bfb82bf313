/- Proved here: contracts of functions and plain laws, part 6 of one proof. Conditions: each theorem names its own. -/
import Derived.Test.YtikboecmcbcghaaGreatP5
import Derived.RangeFuncNested
import Derived.RangeFuncBound
import Derived.RangeFuncCalls
import Derived.RangeFuncLeaves
import Derived.RangeFuncBox
import Derived.Shelf.Abstract
import Derived.Shelf.RegionOpen
import Derived.WalkKit
import Derived.OwnWalkIn
import Derived.TacticsInMore
import Derived.LoopNIn
import Derived.LoopIn
import Derived.Lib.AppendZeros
import Derived.Lib.OwnBridge
/- slices.Backward over stored events: its iterator, for every loop body that keeps two blocks (the list's and the closure's). -/
set_option linter.unusedVariables false
set_option linter.unusedSimpArgs false
namespace Go.Proofs.YtikboecmcbcghaaGreat
open Go Go.RowKit Go.Shelf Go.Proofs
attribute [local go_sem] Oper.semAt_some
/-- An event of the list, and its place. -/
structure BkE (l : List StoredR) where
  i : Int
  x : StoredR
  mem : x ∈ l
def bkV {l : List StoredR} (e : BkE l) : Array Value := #[.int .i64 e.i, .agg #[.int .i64 e.x.ev.id, .string e.x.ev.type, .string e.x.ev.data, .float .f64 e.x.ev.value, .string e.x.stream, .int .i64 e.x.version, .int .i64 e.x.position, .int .i64 e.x.time]]
theorem bk_step {l : List StoredR} {k : Nat} (hk : k < l.length) {pre : List (BkE l)} (h : pre.map (·.x) = (l.drop (l.length - k)).reverse) (hm : l[l.length - k - 1] ∈ l) :
    (pre ++ [(⟨((l.length - k - 1 : Nat) : Int), l[l.length - k - 1], hm⟩ : BkE l)]).map (·.x) = (l.drop (l.length - (k + 1))).reverse := by
  have e : l.length - (k + 1) = l.length - k - 1 := by omega
  rw [List.map_append, h, e, List.drop_eq_getElem_cons (i := l.length - k - 1) (by omega), List.reverse_cons]
  have e2 : l.length - k - 1 + 1 = l.length - k := by omega
  rw [e2]
  rfl
/-- The blocks of T stay as they are. -/
def KeepT (T : List Nat) (A B : World) : Prop := A.heap.size ≤ B.heap.size ∧ ∀ i ∈ T, B.heap[i]? = A.heap[i]?
theorem KeepT.refl (T : List Nat) (A : World) : KeepT T A A := ⟨Nat.le_refl _, fun _ _ => rfl⟩
theorem KeepT.trans {T : List Nat} {A B C : World} (h : KeepT T A B) (k : KeepT T B C) : KeepT T A C := ⟨Nat.le_trans h.1 k.1, fun i hi => (k.2 i hi).trans (h.2 i hi)⟩
theorem KeepT.cell {T : List Nat} {A B : World} (h : KeepT T A B) {p : Addr} (hp : p.block ∈ T) : B.cell? p = A.cell? p := World.cell?_of_block (h.2 _ hp)
theorem KeepT.put {T : List Nat} {w : World} (hT : ∀ i ∈ T, i < w.heap.size) : ∀ (W : World) (l : Nat) (o o' : Obj), w.heap.size ≤ l → W.heap[l]? = some o → o.isCells = false → o.isWalk = false → KeepT T W (W.putObj l o') := fun W l o o' hl _ _ _ => ⟨by simp [World.putObj], fun i hi => by
  have := hT i hi
  have h : l ≠ i := by omega
  simp [World.putObj, Array.getElem?_setIfInBounds, h]⟩
theorem KeepT.only {T S : List Nat} {A B : World} (k : Only S A B) (hT : ∀ i ∈ T, i < A.heap.size ∧ i ∉ S) : KeepT T A B := ⟨k.size, fun i hi => k.block i (hT i hi).1 (hT i hi).2⟩
set_option maxRecDepth 100000 in
set_option maxHeartbeats 2000000 in
theorem bk1_in (F : Fence) (n : Nat) (h8 : F.fn 153) (hro : F.round = none) (hn : 1 ≤ n) (T : List Nat) (ly Bs b off cap : Nat) (l : List StoredR) (hreach : l.length ≤ 1000000) (hb : b ∈ T) (J Jx : List (BkE l) → World → Prop)
    (hY : ∀ pre x W, J pre W → pre.length < l.length → YieldAt F (n - 1) Tryz.prog ly (bkV x) W fun e W' =>
      (e = .returned (.bool true) ∧ J (pre ++ [x]) W' ∧ KeepT T W W') ∨ (e = .returned (.bool false) ∧ Jx (pre ++ [x]) W'))
    (W : World) (hBl : Bs ∈ T) (hBs : W.cell? ⟨Bs, 0, none⟩ = some (.slice (some ⟨b, off, none⟩) l.length cap))
    (hc : ∀ j (hj : j < l.length), ∀ r, r < 8 → W.cell? ⟨b, off + j * 8 + r, none⟩ = (l[j].cells)[r]?) (h0 : J [] W) :
    CallsIn F n Tryz.prog 153 #[.func (.yield ly) #[] #[], .pointer (some ⟨Bs, 0, none⟩)] W fun e W' => (∃ v, e = .returned v) ∧
      ((∃ ys, ys.map (·.x) = l.reverse ∧ J ys W') ∨ (∃ pre, pre.map (·.x) <+: l.reverse ∧ Jx pre W')) := by
  refine callsIn_of_wp Tryz.func153 rfl h8 ?_ hro
  simp only [Tryz.ntmps153, List.size_toArray, List.length_cons, List.length_nil, Nat.reduceAdd, Nat.reduceSub, Array.replicate_succ, Array.replicate_zero, List.push_toArray, List.append_toArray, List.nil_append, List.cons_append]
  have hbd : ∀ k, k < l.length → l.length - k - 1 < l.length := fun k h => by omega
  have e0 := IntWalk.i64_in ((l.length : Int) - 1) ⟨by omega, by omega⟩
  gi_wp2
  gi_loopw [3] (fun i wr => ∃ (k : Nat) (pre : List (BkE l)), k ≤ l.length ∧ i = .int .i64 ((l.length : Int) - k - 1) ∧ pre.length = k ∧ pre.map (·.x) = (l.drop (l.length - k)).reverse ∧ J pre wr ∧ KeepT T W wr)
    (fun i _ => (intOf i + 1).toNat)
  case atStart => exact ⟨0, [], Nat.zero_le _, by simp, rfl, by simp, h0, KeepT.refl _ _⟩
  case round =>
    obtain ⟨k, pre, hk, rfl, hpl, hpm, hJs, hnx⟩ := hrel
    have hbx : wr.cell? ⟨Bs, 0, none⟩ = some (.slice (some ⟨b, off, none⟩) l.length cap) := (hnx.cell (p := ⟨Bs, 0, none⟩) hBl).trans hBs
    by_cases hlt : k < l.length
    · have hm : l[l.length - k - 1]'(hbd k hlt) ∈ l := List.getElem_mem (hbd k hlt)
      have hst := bk_step hlt hpm hm
      obtain ⟨fn, tmps, assign, body, hy, hR⟩ := hY pre ⟨((l.length - k - 1 : Nat) : Int), l[l.length - k - 1]'(hbd k hlt), hm⟩ wr hJs (by omega)
      have hcc := hc (l.length - k - 1) (hbd k hlt)
      obtain ⟨j, hj⟩ : ∃ j, j = l.length - k - 1 := ⟨_, rfl⟩
      have hjl : j < l.length := by omega
      have hi : (l.length : Int) - k - 1 = (j : Int) := by omega
      obtain ⟨s, hs⟩ : ∃ s, s = l[l.length - k - 1]'(hbd k hlt) := ⟨_, rfl⟩
      rw [← hs] at hcc
      unfold bkV at hy
      dsimp only at hy
      rw [← hs] at hy
      rw [← hj] at hy hcc
      rw [hi]
      have c0 : wr.cell? ⟨b, off + j * 8, none⟩ = some (.int .i64 s.ev.id) := (hnx.cell (p := ⟨b, off + j * 8, none⟩) hb).trans (hcc 0 (by omega))
      have c1 : wr.cell? ⟨b, off + j * 8 + 1, none⟩ = some (.string s.ev.type) := (hnx.cell (p := ⟨b, off + j * 8 + 1, none⟩) hb).trans (hcc 1 (by omega))
      have c2 : wr.cell? ⟨b, off + j * 8 + 2, none⟩ = some (.string s.ev.data) := (hnx.cell (p := ⟨b, off + j * 8 + 2, none⟩) hb).trans (hcc 2 (by omega))
      have c3 : wr.cell? ⟨b, off + j * 8 + 3, none⟩ = some (.float .f64 s.ev.value) := (hnx.cell (p := ⟨b, off + j * 8 + 3, none⟩) hb).trans (hcc 3 (by omega))
      have c4 : wr.cell? ⟨b, off + j * 8 + 4, none⟩ = some (.string s.stream) := (hnx.cell (p := ⟨b, off + j * 8 + 4, none⟩) hb).trans (hcc 4 (by omega))
      have c5 : wr.cell? ⟨b, off + j * 8 + 5, none⟩ = some (.int .i64 s.version) := (hnx.cell (p := ⟨b, off + j * 8 + 5, none⟩) hb).trans (hcc 5 (by omega))
      have c6 : wr.cell? ⟨b, off + j * 8 + 6, none⟩ = some (.int .i64 s.position) := (hnx.cell (p := ⟨b, off + j * 8 + 6, none⟩) hb).trans (hcc 6 (by omega))
      have c7 : wr.cell? ⟨b, off + j * 8 + 7, none⟩ = some (.int .i64 s.time) := (hnx.cell (p := ⟨b, off + j * 8 + 7, none⟩) hb).trans (hcc 7 (by omega))
      have hsf := stF
      have e1 := IntWalk.i64_in ((j : Int) - 1) ⟨by omega, by omega⟩
      have HST := Lib.hid hst
      have HPL := Lib.hid hpl
      have HR := Lib.hid hR
      have hjk : (j : Int) - 1 = (l.length : Int) - ((k + 1 : Nat) : Int) - 1 := by omega
      have HJK := Lib.hid hjk
      clear hst hpm hcc hs hpl hi hR hjk hj
      gi_wp2
      refine HR.out.mono ?_
      rintro e W3 (⟨rfl, hJ3, hk3⟩ | ⟨rfl, hJx3⟩)
      · gi_wp2
        go_roundw
        case rel => exact ⟨k + 1, _, hlt, by rw [← HJK.out], by rw [List.length_append, HPL.out]; rfl, HST.out, hJ3, hnx.trans hk3⟩
        case measure => simp [intOf]
      · gi_wp2
        refine bodyPost_ret (results_none rfl _ _ _) rfl ?_
        exact ⟨⟨_, rfl⟩, .inr ⟨_, by rw [HST.out]; exact List.reverse_prefix.2 (List.drop_suffix _ _), hJx3⟩⟩
    · have hkl : k = l.length := by omega
      have hi : (l.length : Int) - k - 1 = -1 := by omega
      rw [hi]
      have hfin : pre.map (·.x) = l.reverse := by rw [hpm, hkl, Nat.sub_self]; rfl
      clear hpm hi hkl
      gi_wp2
      go_end0
      exact ⟨⟨_, rfl⟩, .inl ⟨_, hfin, hJs⟩⟩
set_option maxRecDepth 100000 in
theorem bk1_nil_in (F : Fence) (n : Nat) (h8 : F.fn 153) (hro : F.round = none) (ly Bs cap : Nat) (A : Option Addr) (l : List StoredR) (J : List (BkE l) → World → Prop) (W : World) (hBs : W.cell? ⟨Bs, 0, none⟩ = some (.slice A 0 cap)) (h0 : J [] W) :
    CallsIn F n Tryz.prog 153 #[.func (.yield ly) #[] #[], .pointer (some ⟨Bs, 0, none⟩)] W fun e W' => (∃ v, e = .returned v) ∧ J [] W' := by
  refine callsIn_of_wp Tryz.func153 rfl h8 ?_ hro
  simp only [Tryz.ntmps153, List.size_toArray, List.length_cons, List.length_nil, Nat.reduceAdd, Nat.reduceSub, Array.replicate_succ, Array.replicate_zero, List.push_toArray, List.append_toArray, List.nil_append, List.cons_append]
  gi_wp2
  gi_loopw [3] (fun i wr => i = .int .i64 (-1) ∧ J [] wr) (fun _ _ => 0)
  case atStart => exact ⟨rfl, h0⟩
  case round =>
    obtain ⟨rfl, hJs⟩ := hrel
    gi_wp2
    go_end0
    exact ⟨⟨_, rfl⟩, hJs⟩
set_option maxRecDepth 100000 in
theorem back_in (F : Fence) (n : Nat) (h5 : F.fn 128) (hro : F.round = none) (A : Option Addr) (len cap : Nat) (w : World) :
    CallsIn F n Tryz.prog 128 #[.slice A len cap] w fun e w' => e = .returned (.func (.func 153) #[] #[.pointer (some ⟨w.heap.size, 0, none⟩)]) ∧ w' = w.alloc (.cells #[.slice A len cap] 28) := by
  refine callsIn_of_wp Tryz.func128 rfl h5 ?_ hro
  simp only [Tryz.ntmps128, List.size_toArray, List.length_cons, List.length_nil, Nat.reduceAdd, Nat.reduceSub, Array.replicate_succ, Array.replicate_zero, List.push_toArray, List.append_toArray, List.nil_append, List.cons_append]
  gi_wp2
  go_ret
  exact ⟨rfl, rfl⟩
theorem slc_keepT {T : List Nat} {A B : World} {size n : Nat} {v : Value} {cs : List Value} (h : Slc A size v n cs) (hv : ∀ g, v.ownBlock = some g → g ∈ T ∨ n = 0) (k : KeepT T A B) : Slc B size v n cs := by
  rcases Nat.eq_zero_or_pos n with h0 | h0
  · subst h0
    exact h.empty
  · refine h.keep k.1 fun g hg _ => k.2 g ?_
    rcases hv g hg with q | q
    · exact q
    · omega
/-- All of l from the last one on; or the last ones of it. -/
theorem bk_stops2 (F : Fence) (n : Nat) (h8 : F.fn 153) (hro : F.round = none) (hn : 1 ≤ n) (T : List Nat) (Bs : Nat) (A : Option Addr) (cap : Nat) (l : List StoredR) (hreach : l.length ≤ 1000000) (w : World) (hBl : Bs ∈ T) (hTw : ∀ i ∈ T, i < w.heap.size)
    (hc : w.cell? ⟨Bs, 0, none⟩ = some (.slice A l.length cap)) (hI : Slc w 8 (.slice A l.length cap) l.length (l.flatMap StoredR.cells)) (hv : ∀ g, (Value.slice A l.length cap).ownBlock = some g → g ∈ T ∨ l.length = 0) :
    SeqStopsK F n Tryz.prog 153 #[.pointer (some ⟨Bs, 0, none⟩)] (fun x : BkE l => bkV x) (KeepT T) (fun ys => ys.map (·.x) = l.reverse) (fun pre => pre.map (·.x) <+: l.reverse) l.length w := fun ly J Jx W hW _ _ hY h0 => by
  have hKW : KeepT T w W := ⟨hW.size, fun i hi => hW.block i (hTw i hi)⟩
  have hc' := (hKW.cell (p := ⟨Bs, 0, none⟩) hBl).trans hc
  have hI' := slc_keepT hI hv hKW
  rcases Nat.eq_zero_or_pos l.length with h0' | h0'
  · have hl : l.reverse = [] := by rw [List.length_eq_zero_iff.1 h0']; rfl
    rw [h0'] at hc'
    exact (bk1_nil_in F n h8 hro ly Bs cap A l J W hc' h0).mono fun e W' ⟨he, hj⟩ => ⟨he, .inl ⟨_, by rw [hl]; rfl, hj⟩⟩
  · obtain ⟨A', cap', e, h1, h2, h3⟩ := hI'.openE StoredR.cells (fun _ => rfl)
    injection e with e1 e2 e3
    subst e1 e3
    obtain ⟨b, off, rfl, hb, _⟩ := h3 0 h0'
    have hbn : b ∈ T := by
      rcases hv b rfl with q | q
      · exact q
      · omega
    exact bk1_in F n h8 hro hn T ly Bs b off cap l hreach hbn J Jx hY W hBl hc' (fun j hj r hr => by
      obtain ⟨b', off', e, _, hcc⟩ := h3 j hj
      cases e
      exact hcc r hr) h0
end Go.Proofs.YtikboecmcbcghaaGreat
/- Contract: pages backward, of the program. -/
set_option linter.unusedVariables false
set_option linter.unusedSimpArgs false
namespace Go.Proofs.YtikboecmcbcghaaGreat
open Go Go.RowKit Go.Shelf Go.Proofs Go.Sort
attribute [local go_sem] Oper.semAt_some
theorem keepsOS {B : Nat} {S : List Nat} {W W' : World} (k : Only S W W') (hS : ∀ g ∈ S, ∃ t cs, Blk W g t cs) : KeepsFrom B W W' := ⟨k.size, fun i o _ hi ho => (k.block i (Array.getElem?_eq_some_iff.1 hi).1 (fun q => by
  obtain ⟨t, cs, h⟩ := hS i q
  rw [show W.heap[i]? = _ from h] at hi
  cases hi
  cases ho)).trans hi⟩
theorem only_grownBy {S : List Nat} {W W' : World} {row : Option Nat} (hg : W.grownBy W' row) (hr : ∀ r, row = some r → r ∈ S) : Only S W W' := (Only.refl S W).grown hg (fun k hk => .inl (hr k hk))
theorem not_cells {W : World} {row : Option Nat} (hrow : ∀ r, row = some r → ∃ o : Obj, W.heap[r]? = some o ∧ o.isCells = false) {g : Nat} {t : TypeId} {cs : Array Value} (h : Blk W g t cs) : g ∉ row.toList := fun q => by
  obtain ⟨o, ho, hc⟩ := hrow g (by simpa using q)
  rw [show W.heap[g]? = _ from h] at ho
  cases ho
  cases hc
/-- What stands at the head of a round of a page backward. -/
structure BwAt (w W : World) (kv pv : Value) (f n : Int) (acc : List StoredR) (nx : Int) : Prop where
  below : Below w.heap.size w W
  b0 : Blk W w.heap.size 149 #[kv]
  b1 : Blk W (w.heap.size + 1) 3 #[.int .i64 f]
  b2 : Blk W (w.heap.size + 2) 3 #[.int .i64 n]
  b3 : Blk W (w.heap.size + 3) 60 #[.slice none 0 0, .int .i64 0, .bool false]
  b4 : Blk W (w.heap.size + 4) 52 #[.int .i64 0]
  b5 : Blk W (w.heap.size + 5) 60 #[pv, .int .i64 nx, .bool true]
  b6 : ∃ av, Blk W (w.heap.size + 6) 28 #[av]
  own : W.ownsRow w.heap.size 66 8 pv acc.length (acc.flatMap StoredR.cells)
theorem below_only {S : List Nat} {w W W' : World} (h : Below w.heap.size w W) (k : Only S W W') (hS : ∀ g ∈ S, w.heap.size ≤ g) : Below w.heap.size w W' := h.trans ⟨k.os, k.tape, k.output, k.size, fun i hi => k.block i (by have := h.size; omega) (fun q => by have := hS i q; omega)⟩
section
variable {w W W' : World} {kv pv : Value} {f n nx : Int} {acc : List StoredR}
theorem BwAt.nown (h : BwAt w W kv pv f n acc nx) : ∀ g, pv.ownBlock = some g → w.heap.size + 7 ≤ g ∧ g < W.heap.size := fun g hg => by
  obtain ⟨av, hb6⟩ := h.b6
  obtain ⟨cur, hcur⟩ := own_type h.own hg
  have h0 := hcur.other h.b0 (by decide)
  have h1 := hcur.other h.b1 (by decide)
  have h2 := hcur.other h.b2 (by decide)
  have h3 := hcur.other h.b3 (by decide)
  have h4 := hcur.other h.b4 (by decide)
  have h5 := hcur.other h.b5 (by decide)
  have h7 := hcur.other hb6 (by decide)
  have h6 := h.own.lt g hg
  omega
theorem BwAt.only {S : List Nat} (h : BwAt w W kv pv f n acc nx) (k : Only S W W') (hS : ∀ g ∈ S, w.heap.size + 7 ≤ g) (hp : ∀ g, pv.ownBlock = some g → g ∉ S) : BwAt w W' kv pv f n acc nx := by
  have no : ∀ i, i < w.heap.size + 7 → i ∉ S := fun i hi q => by have := hS i q; omega
  refine ⟨h.below.trans ⟨k.os, k.tape, k.output, k.size, fun i hi => k.block i (by have := h.below.size; omega) (no i (by omega))⟩, k.blk h.b0 (no _ (by omega)), k.blk h.b1 (no _ (by omega)), k.blk h.b2 (no _ (by omega)), k.blk h.b3 (no _ (by omega)), k.blk h.b4 (no _ (by omega)), k.blk h.b5 (no _ (by omega)), (by obtain ⟨av, hb⟩ := h.b6; exact ⟨av, k.blk hb (no _ (by omega))⟩), own_only h.own k hp⟩
theorem BwAt.only0 (h : BwAt w W kv pv f n acc nx) (k : Only [] W W') : BwAt w W' kv pv f n acc nx := h.only k (by simp) (by simp)
theorem BwAt.grown {row : Option Nat} (h : BwAt w W kv pv f n acc nx) (hg : W.grownBy W' row) (hr : ∀ r, row = some r → ∃ o : Obj, W.heap[r]? = some o ∧ o.isCells = false) (hB : ∀ r, row = some r → w.heap.size + 7 ≤ r) : BwAt w W' kv pv f n acc nx :=
  h.only (only_grownBy (S := row.toList) hg (fun r e => by simp [e])) (fun g q => hB g (by simpa using q)) (fun g q => by
    obtain ⟨cur, hcur⟩ := own_type h.own q
    exact not_cells hr hcur)
end
set_option maxRecDepth 100000 in
set_option maxHeartbeats 4000000 in
theorem backwardP_any {w : World} {v : Value} {l : List StoredR} {f n : Int} (hl : Slc w 8 v l.length (l.flatMap StoredR.cells)) (hb : l.length ≤ 1000000) (hk : ∀ s ∈ l, 0 ≤ StoredR.position s ∧ StoredR.position s ≤ 1000000000) :
    Calls Tryz.prog 62 #[.func (.func 131) #[] #[], v, .int .i64 f, .int .i64 n] w (PageOut w StoredR.position l f n (pageBy StoredR.position l f n true)) := by
  cases hw : wrongP f n with
  | true =>
    obtain ⟨A, cap, rfl, hnc, hcm, hel⟩ := hl.openE StoredR.cells (fun _ => rfl)
    have HW := Lib.hid hw
    have HV := Lib.hid (fun W => vwrong_any f n W)
    rw [hw] at HV
    clear hel hw
    have hR : pageBy StoredR.position l f n true = (PageR.zero, 1) := by unfold pageBy; rw [HW.out]; rfl
    rw [hR]
    clear hR
    go_enter Tryz.func62, Tryz.ntmps62
    go_wp2_with (go_at_call 127; refine (HV.out _).mono ?_; rintro e w1 ⟨rfl, rfl⟩)
    refine bodyPost_ret (v := .tuple #[.agg #[.slice none 0 0, .int .i64 0, .bool false], .int .i64 1]) (by simp [results, Tryz.results62, go_sem]) rfl ⟨_, rfl, World.ownsRow_nil _ _ _ _, ?_⟩
    iterate 5 (refine Only.alloc ?_ _)
    exact Only.refl [] w
  | false =>
    obtain ⟨A, cap, rfl, hnc, hcm, hel⟩ := hl.openE StoredR.cells (fun _ => rfl)
    have HW := Lib.hid hw
    have HV := Lib.hid (fun W => vwrong_any f n W)
    rw [hw] at HV
    have hn : 1 ≤ n ∧ n ≤ 100 := by simp [wrongP] at hw; omega
    clear hw
    have hR : pageBy StoredR.position l f n true = (bwdGo StoredR.position f n l.reverse [] f, 0) := by unfold pageBy; rw [HW.out]; rfl
    rw [hR]
    clear hR
    obtain ⟨R, hR⟩ : ∃ R, R = bwdGo StoredR.position f n l.reverse [] f := ⟨_, rfl⟩
    rw [← hR]
    have HR := Lib.hid hR
    clear hR
    refine (callsIn_wide (n := 3)).1 ?_
    refine callsIn_of_wp_marks Tryz.func62 rfl trivial ?_ rfl
    simp only [Tryz.ntmps62, List.size_toArray, List.length_cons, List.length_nil, Nat.reduceAdd, Nat.reduceSub, Array.replicate_succ, Array.replicate_zero, List.push_toArray, List.append_toArray, List.nil_append, List.cons_append]
    gi_wp2_with (first
      | (refine ⟨trivial, ?_⟩; gi_at_call 127; refine (callsIn_wide.2 (HV.out _)).mono ?_; rintro e w1 ⟨rfl, rfl⟩)
      | (refine ⟨trivial, ?_⟩; gi_at_call 128; refine (back_in Fence.wide _ trivial rfl _ _ _ _).mono ?_; rintro e w2 ⟨rfl, rfl⟩))
    obtain ⟨W2, hW2⟩ : ∃ W2, W2 = ((((((w.alloc (.cells #[.func (.func 131) #[] #[]] 149)).alloc (.cells #[.int .i64 f] 3)).alloc (.cells #[.int .i64 n] 3)).alloc (.cells #[.slice none 0 0, .int .i64 0, .bool false] 60)).alloc (.cells #[.int .i64 0] 52)).alloc (.cells #[.slice none 0 0, .int .i64 f, .bool true] 60)).alloc (.cells #[.slice A l.length cap] 28) := ⟨_, rfl⟩
    rw [← hW2]
    have hz2 : W2.heap.size = w.heap.size + 7 := by rw [hW2]; simp
    have hO2 : Only [] w W2 := by
      rw [hW2]
      iterate 7 (refine Only.alloc ?_ _)
      exact Only.refl [] w
    have hB2 : BwAt w W2 (.func (.func 131) #[] #[]) (.slice none 0 0) f n [] f := by
      have g0 := Blk.new w 149 #[.func (.func 131) #[] #[]]
      have g1 := Blk.new (w.alloc (.cells #[.func (.func 131) #[] #[]] 149)) 3 #[.int .i64 f]
      have g2 := Blk.new ((w.alloc (.cells #[.func (.func 131) #[] #[]] 149)).alloc (.cells #[.int .i64 f] 3)) 3 #[.int .i64 n]
      have g3 := Blk.new (((w.alloc (.cells #[.func (.func 131) #[] #[]] 149)).alloc (.cells #[.int .i64 f] 3)).alloc (.cells #[.int .i64 n] 3)) 60 #[.slice none 0 0, .int .i64 0, .bool false]
      have g4 := Blk.new ((((w.alloc (.cells #[.func (.func 131) #[] #[]] 149)).alloc (.cells #[.int .i64 f] 3)).alloc (.cells #[.int .i64 n] 3)).alloc (.cells #[.slice none 0 0, .int .i64 0, .bool false] 60)) 52 #[.int .i64 0]
      have g5 := Blk.new (((((w.alloc (.cells #[.func (.func 131) #[] #[]] 149)).alloc (.cells #[.int .i64 f] 3)).alloc (.cells #[.int .i64 n] 3)).alloc (.cells #[.slice none 0 0, .int .i64 0, .bool false] 60)).alloc (.cells #[.int .i64 0] 52)) 60 #[.slice none 0 0, .int .i64 f, .bool true]
      simp only [World.size_alloc] at g0 g1 g2 g3 g4 g5
      refine ⟨hO2.toBelow, ?_, ?_, ?_, ?_, ?_, ?_, ⟨.slice A l.length cap, ?_⟩, World.ownsRow_nil _ _ _ _⟩
      · rw [hW2]; exact (((((((Only.refl [] _).alloc _).alloc _).alloc _).alloc _).alloc _).alloc _).blk g0 (by simp)
      · rw [hW2]; exact ((((((Only.refl [] _).alloc _).alloc _).alloc _).alloc _).alloc _).blk g1 (by simp)
      · rw [hW2]; exact (((((Only.refl [] _).alloc _).alloc _).alloc _).alloc _).blk g2 (by simp)
      · rw [hW2]; exact ((((Only.refl [] _).alloc _).alloc _).alloc _).blk g3 (by simp)
      · rw [hW2]; exact (((Only.refl [] _).alloc _).alloc _).blk g4 (by simp)
      · rw [hW2]; exact ((Only.refl [] _).alloc (.cells #[.slice A l.length cap] 28)).blk g5 (by simp)
      · have g6 := Blk.new ((((((w.alloc (.cells #[.func (.func 131) #[] #[]] 149)).alloc (.cells #[.int .i64 f] 3)).alloc (.cells #[.int .i64 n] 3)).alloc (.cells #[.slice none 0 0, .int .i64 0, .bool false] 60)).alloc (.cells #[.int .i64 0] 52)).alloc (.cells #[.slice none 0 0, .int .i64 f, .bool true] 60)) 28 #[.slice A l.length cap]
        simp only [World.size_alloc] at g6
        rw [hW2]
        exact g6
    obtain ⟨T, hT1, hT2, hT3⟩ : ∃ T : List Nat, w.heap.size + 6 ∈ T ∧ (∀ g, (Value.slice A l.length cap).ownBlock = some g → g ∈ T ∨ l.length = 0) ∧ ∀ i ∈ T, i = w.heap.size + 6 ∨ i < w.heap.size := by
      by_cases h0 : l.length = 0
      · exact ⟨[w.heap.size + 6], by simp, fun g _ => .inr h0, fun i hi => .inl (by simpa using hi)⟩
      · obtain ⟨b0, o0, hA, hb0, _⟩ := hel 0 (by omega)
        subst hA
        refine ⟨[w.heap.size + 6, b0], by simp, fun g hg => .inl ?_, fun i hi => ?_⟩
        · cases hg
          simp
        · simp at hi
          rcases hi with rfl | rfl
          · exact .inl rfl
          · exact .inr hb0
    have hbx : W2.cell? ⟨w.heap.size + 6, 0, none⟩ = some (.slice A l.length cap) := by
      rw [hW2]
      have := Blk.new ((((((w.alloc (.cells #[.func (.func 131) #[] #[]] 149)).alloc (.cells #[.int .i64 f] 3)).alloc (.cells #[.int .i64 n] 3)).alloc (.cells #[.slice none 0 0, .int .i64 0, .bool false] 60)).alloc (.cells #[.int .i64 0] 52)).alloc (.cells #[.slice none 0 0, .int .i64 f, .bool true] 60)) 28 #[.slice A l.length cap]
      simp only [World.size_alloc] at this
      exact this.cell 0
    have hsl2 := hl.only0 hO2
    have hK := Lib.hid hk
    clear hW2 hk hl hel hnc hcm HV
    refine wpIn_rangeFunc_ownH rfl (by omega) (gf := 153) (lb := #[.pointer (some ⟨w.heap.size + 6, 0, none⟩)]) rfl trivial (enters_of Tryz.func153 (by kernel_rfl) rfl)
      (bk_stops2 Fence.wide _ trivial rfl (by omega) T (w.heap.size + 6) A cap l hb W2 hT1 (fun i hi => by rcases hT3 i hi with q | q <;> omega) hbx hsl2 hT2) (fun {A B C} h1 h2 => KeepT.trans h1 h2) (KeepT.put (fun i hi => by rcases hT3 i hi with q | q <;> omega)) (Below.refl _ _) (fun _ => rfl)
      (fun pre W => ∃ pv acc nx, BwAt w W (.func (.func 131) #[] #[]) pv f n acc nx ∧ W2.heap.size ≤ W.heap.size ∧ acc.length ≤ pre.length ∧ Hid (∀ rest, bwdGo StoredR.position f n (pre.map (·.x) ++ rest) [] f = bwdGo StoredR.position f n rest acc nx))
      (fun c pre W => c = .ret ∧ ∃ pv acc nx, (Blk W (w.heap.size + 3) 60 #[pv, .int .i64 nx, .bool false] ∧ Blk W (w.heap.size + 4) 52 #[.int .i64 0] ∧ W.ownsRow w.heap.size 66 8 pv acc.length (acc.flatMap StoredR.cells) ∧ Below w.heap.size w W) ∧ Hid (∀ rest, bwdGo StoredR.position f n (pre.map (·.x) ++ rest) [] f = ⟨acc, nx, false⟩))
      ?hI ?hIx
      ⟨.slice none 0 0, [], f, hB2, Nat.le_refl _, Nat.le_refl _, fun rest => rfl⟩
      (fun x a' W => ∃ (Bx : Nat) (pv u1 u2 : Value), w.heap.size + 7 ≤ Bx ∧ Blk W Bx 66 #[.int .i64 x.x.ev.id, .string x.x.ev.type, .string x.x.ev.data, .float .f64 x.x.ev.value, .string x.x.stream, .int .i64 x.x.version, .int .i64 x.x.position, .int .i64 x.x.time] ∧ Blk W (w.heap.size + 5) 60 #[pv, u1, u2] ∧ pv.ownBlock ≠ some Bx ∧ a' = { tmps := #[.func (.func 131) #[] #[], .slice A l.length cap, .int .i64 f, .int .i64 n, .pointer (some ⟨w.heap.size, 0, none⟩), undef, .pointer (some ⟨w.heap.size + 1, 0, none⟩), .pointer (some ⟨w.heap.size + 1 + 1, 0, none⟩), .pointer (some ⟨w.heap.size + 1 + 1 + 1, 0, none⟩), .pointer (some ⟨w.heap.size + 1 + 1 + 1 + 1, 0, none⟩), .pointer (some ⟨w.heap.size + 1 + 1 + 1 + 1 + 1, 0, none⟩), undef, .pointer (some ⟨Bx, 0, none⟩), .int .i64 f, .int .i64 n, .bool false, undef, .int .i64 f, .agg #[.slice none 0 0, .int .i64 f, .bool true], .slice A l.length cap, .func (.func 153) #[] #[.pointer (some ⟨w.heap.size + 1 + 1 + 1 + 1 + 1 + 1, 0, none⟩)], .int .i64 x.i, .agg #[.int .i64 x.x.ev.id, .string x.x.ev.type, .string x.x.ev.data, .float .f64 x.x.ev.value, .string x.x.stream, .int .i64 x.x.version, .int .i64 x.x.position, .int .i64 x.x.time], undef, undef, undef, undef, undef, undef, undef, undef, undef, undef, undef, undef, undef, undef, undef, undef, undef, undef, undef, undef, undef, undef, undef, undef, undef, undef, undef], defers := [] })
      ?hAx ?assign ?body ?done ?stop
    case hI =>
      rintro pre W W' row ⟨pv, acc, nx, h1, h2, h3, h4⟩ hg hr
      exact ⟨pv, acc, nx, h1.grown hg (fun r e => (hr r e).2) (fun r e => by have := (hr r e).1; omega), Nat.le_trans h2 hg.size, h3, h4⟩
    case hIx =>
      rintro c pre W W' row ⟨rfl, pv, acc, nx, ⟨h1, h2, h3, h4⟩, h5⟩ hg hr
      have ko : Only row.toList W W' := only_grownBy hg (fun r e => by simp [e])
      have hc := fun r e => (hr r e).2
      refine ⟨rfl, pv, acc, nx, ⟨ko.blk h1 (not_cells hc h1), ko.blk h2 (not_cells hc h2), own_only h3 ko (fun g q => ?_), ?_⟩, h5⟩
      · obtain ⟨cur, hcur⟩ := own_type h3 q
        exact not_cells hc hcur
      · exact h4.trans ⟨ko.os, ko.tape, ko.output, ko.size, fun i hi => ko.block i (by have := h4.size; omega) (fun q => by have := (hr i (by simpa using q)).1; omega)⟩
    case hAx =>
      rintro x a' s W W' row ⟨Bx, pv, u1, u2, h1, h2, h3, h4, h5⟩ hg hr
      have ko : Only row.toList W W' := only_grownBy hg (fun r e => by simp [e])
      have hc := fun r e => (hr r e).2
      exact ⟨Bx, pv, u1, u2, h1, ko.blk h2 (not_cells hc h2), ko.blk h3 (not_cells hc h3), h4, h5⟩
    case assign =>
      rintro ly pre x W K ⟨pv, acc, nx, h1, h2, h3, h4⟩ hK2
      have hsf := stF
      unfold bkV
      gi_wp2
      have hkk := (Only.refl [] W).alloc (.cells #[.int .i64 x.x.ev.id, .string x.x.ev.type, .string x.x.ev.data, .float .f64 x.x.ev.value, .string x.x.stream, .int .i64 x.x.version, .int .i64 x.x.position, .int .i64 x.x.time] 66)
      refine hK2 _ _ (keepsOS hkk (by simp)) (KeepT.only hkk (fun i hi => ⟨by rcases hT3 i hi with q | q <;> omega, by simp⟩)) ⟨pv, acc, nx, h1.only0 hkk, Nat.le_trans h2 hkk.size, h3, h4⟩ ⟨W.heap.size, pv, .int .i64 nx, .bool true, by omega, Blk.new W _ _, (h1.only0 hkk).b5, fun q => ?_, rfl⟩
      have := (h1.nown _ q).2
      omega
    case body =>
      rintro ly pre x a' W hly hlo ⟨pv, acc, nx, hB, hz, ha, hRun⟩ ⟨Bx, pv', u1, u2, hBx, hX, hP5, hne, rfl⟩ hlt
      have hpe : pv' = pv := by
        have e : some (Obj.cells #[pv', u1, u2] 60) = some (Obj.cells #[pv, .int .i64 nx, .bool true] 60) := hP5.symm.trans hB.b5
        injection e with e
        injection e with e
        exact Option.some.inj (show some pv' = some pv from congrArg (fun a : Array Value => a[0]?) e)
      subst hpe
      obtain ⟨Ap, cp, hpv, hap1, hap2⟩ := own_form hB.own
      subst hpv
      unfold maxLen at hap2
      have hKx := hK.out x.x x.mem
      have hKC := Lib.hid (fun W => position_any x.x W)
      have hSt : Hid (∀ rest, bwdGo StoredR.position f n ((pre ++ [x]).map (·.x) ++ rest) [] f = if f < StoredR.position x.x then bwdGo StoredR.position f n rest acc nx else if (acc.length : Int) = n then ⟨acc, nx, false⟩ else bwdGo StoredR.position f n rest (acc ++ [x.x]) (max (StoredR.position x.x) 0 - 1)) := fun rest => by
        rw [List.map_append, List.append_assoc]
        exact hRun.out _
      have D0 := Within.cell (S := []) (show W.cell? ⟨w.heap.size, 0, none⟩ = some (.func (.func 131) #[] #[]) from hB.b0.cell 0) (by simp)
      have D1 := Within.cell (S := []) (show W.cell? ⟨w.heap.size + 1, 0, none⟩ = some (.int .i64 f) from hB.b1.cell 0) (by simp)
      have X0 := Within.cell (S := []) (show W.cell? ⟨Bx, 0, none⟩ = some (.int .i64 x.x.ev.id) from hX.cell 0) (by simp)
      have X1 := Within.cell (S := []) (show W.cell? ⟨Bx, 1, none⟩ = some (.string x.x.ev.type) from hX.cell 1) (by simp)
      have X2 := Within.cell (S := []) (show W.cell? ⟨Bx, 2, none⟩ = some (.string x.x.ev.data) from hX.cell 2) (by simp)
      have X3 := Within.cell (S := []) (show W.cell? ⟨Bx, 3, none⟩ = some (.float .f64 x.x.ev.value) from hX.cell 3) (by simp)
      have X4 := Within.cell (S := []) (show W.cell? ⟨Bx, 4, none⟩ = some (.string x.x.stream) from hX.cell 4) (by simp)
      have X5 := Within.cell (S := []) (show W.cell? ⟨Bx, 5, none⟩ = some (.int .i64 x.x.version) from hX.cell 5) (by simp)
      have X6 := Within.cell (S := []) (show W.cell? ⟨Bx, 6, none⟩ = some (.int .i64 x.x.position) from hX.cell 6) (by simp)
      have X7 := Within.cell (S := []) (show W.cell? ⟨Bx, 7, none⟩ = some (.int .i64 x.x.time) from hX.cell 7) (by simp)
      have hsf := stF
      have HB := Lib.hid hB
      have HX := Lib.hid hX
      clear hB hX hP5 hRun
      gi_wp2_with fail
      refine wpIn_region_in [] [0, 1, 3] [2, 4, 5] [] (by rintro ⟨a, w, h⟩; exact h) (by kernel_rfl) (by kernel_rfl) (by kernel_rfl) (by intro c d u a w h; cases d <;> exact h) ?_
      show wpQuiet _ _ _ _ [_, _, _] _
      repeat (go_big_quiet_step (fail))
      refine wpQuiet_nil ?_
      clear D0 D1 X0 X1 X2 X3 X4 X5 X6 X7
      show wpList _ _ _ [_] _ _
      go_wp2_with (go_at_call 131; refine (hKC.out _).mono ?_; rintro e w3 ⟨rfl, k3⟩)
      have o3 := (Only.refl [] W).drew.trans k3
      refine check_of (S := []) o3 ?_
      show wpList _ _ _ [_] _ _
      go_wp2_with fail
      refine check_of (S := []) o3 ?_
      show wpList _ _ _ [_] _ _
      go_wp2_with fail
      refine check_last (S := []) o3 (fun _ _ q => q) ?_
      have hB3 := HB.out.only0 o3
      have hX3 := o3.blk HX.out (by simp)
      have hz3 := o3.size
      by_cases h1 : f < StoredR.position x.x
      · have hN : Hid (∀ rest, bwdGo StoredR.position f n ((pre ++ [x]).map (·.x) ++ rest) [] f = bwdGo StoredR.position f n rest acc nx) := fun rest => by rw [hSt.out, if_pos h1]
        have h1b : decide (StoredR.position x.x > f) = true := decide_eq_true h1
        gi_wp2
        exact ⟨keepsOS o3 (by simp), KeepT.only o3 (fun i hi => ⟨by rcases hT3 i hi with q | q <;> omega, by simp⟩), _, acc, nx, hB3, by omega, by simp; omega, hN⟩
      · have h1b : decide (StoredR.position x.x > f) = false := decide_eq_false h1
        have P5 : ∀ i, w3.cell? ⟨w.heap.size + 1 + 1 + 1 + 1 + 1, i, none⟩ = #[Value.slice Ap acc.length cp, .int .i64 nx, .bool true][i]? := fun i => hB3.b5.cell i
        have F5 : ∀ i, w3.frozen? ⟨w.heap.size + 1 + 1 + 1 + 1 + 1, i, none⟩ = false := fun i => hB3.b5.free i
        have P2 : w3.cell? ⟨w.heap.size + 1 + 1, 0, none⟩ = some (.int .i64 n) := hB3.b2.cell 0
        by_cases h2 : (acc.length : Int) = n
        · have h2b : ((acc.length : Int) == n) = true := by simpa using h2
          have hN : Hid (∀ rest, bwdGo StoredR.position f n ((pre ++ [x]).map (·.x) ++ rest) [] f = ⟨acc, nx, false⟩) := fun rest => by rw [hSt.out, if_neg h1, if_pos h2]
          have P3 : ∀ i, w3.cell? ⟨w.heap.size + 1 + 1 + 1, i, none⟩ = #[Value.slice none 0 0, .int .i64 0, .bool false][i]? := fun i => hB3.b3.cell i
          have F3 : ∀ i, w3.frozen? ⟨w.heap.size + 1 + 1 + 1, i, none⟩ = false := fun i => hB3.b3.free i
          have P4 : ∀ i, w3.cell? ⟨w.heap.size + 1 + 1 + 1 + 1, i, none⟩ = #[Value.int .i64 0][i]? := fun i => hB3.b4.cell i
          have F4 : ∀ i, w3.frozen? ⟨w.heap.size + 1 + 1 + 1 + 1, i, none⟩ = false := fun i => hB3.b4.free i
          clear h2
          gi_wp2
          have koE : Only [w.heap.size + 1 + 1 + 1, w.heap.size + 1 + 1 + 1 + 1, w.heap.size + 1 + 1 + 1 + 1 + 1] w3 (((((w3.setCell ⟨w.heap.size + 1 + 1 + 1 + 1 + 1, 2, none⟩ (.bool false)).setCell ⟨w.heap.size + 1 + 1 + 1, 0, none⟩ (.slice Ap acc.length cp)).setCell ⟨w.heap.size + 1 + 1 + 1, 1, none⟩ (.int .i64 nx)).setCell ⟨w.heap.size + 1 + 1 + 1, 2, none⟩ (.bool false)).setCell ⟨w.heap.size + 1 + 1 + 1 + 1, 0, none⟩ (.int .i64 0)) := by
            iterate 5 (refine Only.setCell ?_ (.inl (by simp)) _)
            exact Only.refl _ _
          have q1 := ((Only.refl [w.heap.size + 1 + 1 + 1 + 1 + 1] w3).setCell (p := ⟨w.heap.size + 1 + 1 + 1 + 1 + 1, 2, none⟩) (.inl (by simp)) (.bool false)).blk hB3.b3 (by simp)
          have q2 := ((q1.set 0 (.slice Ap acc.length cp)).set 1 (.int .i64 nx)).set 2 (.bool false)
          have q3 := ((Only.refl [w.heap.size + 1 + 1 + 1 + 1] _).setCell (p := ⟨w.heap.size + 1 + 1 + 1 + 1, 0, none⟩) (.inl (by simp)) (.int .i64 0)).blk q2 (by simp)
          have r1 : Only [w.heap.size + 1 + 1 + 1, w.heap.size + 1 + 1 + 1 + 1 + 1] w3 ((((w3.setCell ⟨w.heap.size + 1 + 1 + 1 + 1 + 1, 2, none⟩ (.bool false)).setCell ⟨w.heap.size + 1 + 1 + 1, 0, none⟩ (.slice Ap acc.length cp)).setCell ⟨w.heap.size + 1 + 1 + 1, 1, none⟩ (.int .i64 nx)).setCell ⟨w.heap.size + 1 + 1 + 1, 2, none⟩ (.bool false)) := by
            iterate 4 (refine Only.setCell ?_ (.inl (by simp)) _)
            exact Only.refl _ _
          have r2 := (r1.blk hB3.b4 (by simp)).set 0 (.int .i64 0)
          refine ⟨keepsOS (o3.of_nil.trans koE) (fun g hg => ?_), rfl, .slice Ap acc.length cp, acc, nx, ⟨q3, r2, own_only hB3.own koE (fun g hg => ?_), below_only hB3.below koE (fun g hg => ?_)⟩, hN⟩
          · simp only [List.mem_cons, List.not_mem_nil, or_false] at hg
            rcases hg with rfl | rfl | rfl
            · exact ⟨_, _, HB.out.b3⟩
            · exact ⟨_, _, HB.out.b4⟩
            · exact ⟨_, _, HB.out.b5⟩
          · have := (hB3.nown g hg).1
            simp
            omega
          · simp at hg
            omega
        · have h2b : ((acc.length : Int) == n) = false := by rw [beq_eq_false_iff_ne]; exact h2
          have hN : Hid (∀ rest, bwdGo StoredR.position f n ((pre ++ [x]).map (·.x) ++ rest) [] f = bwdGo StoredR.position f n rest (acc ++ [x.x]) (max (StoredR.position x.x) 0 - 1)) := fun rest => by rw [hSt.out, if_neg h1, if_neg h2]
          have hal : acc.length + 1 ≤ 1000001 := by omega
          obtain ⟨So, hSo⟩ : ∃ So, So = (Value.slice Ap acc.length cp).ownBlock.toList := ⟨_, rfl⟩
          have hSn : ∀ g ∈ So, w.heap.size + 7 ≤ g ∧ g < w3.heap.size := fun g hg => hB3.nown g (by rw [hSo] at hg; simpa using hg)
          have nB : Bx ∉ So := fun q => hne (by rw [hSo] at q; simpa using q)
          have n5 : w.heap.size + 1 + 1 + 1 + 1 + 1 ∉ So := fun q => by have := (hSn _ q).1; omega
          have n0 : w.heap.size ∉ So := fun q => by have := (hSn _ q).1; omega
          obtain ⟨So5, hSo5⟩ : ∃ So5, So5 = (w.heap.size + 1 + 1 + 1 + 1 + 1) :: So := ⟨_, rfl⟩
          have h55 : w.heap.size + 1 + 1 + 1 + 1 + 1 ∈ So5 := by rw [hSo5]; simp
          have hSub : ∀ g ∈ So, g ∈ So5 := fun g hg => by rw [hSo5]; exact List.mem_cons_of_mem _ hg
          have hS5 : ∀ g ∈ So5, (g = w.heap.size + 5 ∨ w.heap.size + 7 ≤ g) ∧ g < w3.heap.size := fun g hg => by
            rw [hSo5] at hg
            rcases List.mem_cons.1 hg with e | e
            · have := hB3.b5.lt
              omega
            · have := hSn g e
              omega
          have n05 : w.heap.size ∉ So5 := fun q => by have := (hS5 _ q).1; omega
          have nB5 : Bx ∉ So5 := fun q => by
            rw [hSo5] at q
            rcases List.mem_cons.1 q with e | e
            · omega
            · exact nB e
          have D0 := Within.cell (S := So5) (show w3.cell? ⟨w.heap.size, 0, none⟩ = some (.func (.func 131) #[] #[]) from hB3.b0.cell 0) n05
          have X0 := Within.cell (S := So5) (show w3.cell? ⟨Bx, 0, none⟩ = some (.int .i64 x.x.ev.id) from hX3.cell 0) nB5
          have X1 := Within.cell (S := So5) (show w3.cell? ⟨Bx, 1, none⟩ = some (.string x.x.ev.type) from hX3.cell 1) nB5
          have X2 := Within.cell (S := So5) (show w3.cell? ⟨Bx, 2, none⟩ = some (.string x.x.ev.data) from hX3.cell 2) nB5
          have X3 := Within.cell (S := So5) (show w3.cell? ⟨Bx, 3, none⟩ = some (.float .f64 x.x.ev.value) from hX3.cell 3) nB5
          have X4 := Within.cell (S := So5) (show w3.cell? ⟨Bx, 4, none⟩ = some (.string x.x.stream) from hX3.cell 4) nB5
          have X5 := Within.cell (S := So5) (show w3.cell? ⟨Bx, 5, none⟩ = some (.int .i64 x.x.version) from hX3.cell 5) nB5
          have X6 := Within.cell (S := So5) (show w3.cell? ⟨Bx, 6, none⟩ = some (.int .i64 x.x.position) from hX3.cell 6) nB5
          have X7 := Within.cell (S := So5) (show w3.cell? ⟨Bx, 7, none⟩ = some (.int .i64 x.x.time) from hX3.cell 7) nB5
          have hwx := IntWalk.i64_in (max (StoredR.position x.x) 0 - 1) ⟨by omega, by omega⟩
          have HX3 := Lib.hid hX3
          have PD : w3.drew.cell? ⟨w.heap.size + 1 + 1 + 1 + 1 + 1, 0, none⟩ = some (.slice Ap acc.length cp) := P5 0
          have PDA : ∀ o, (w3.drew.alloc o).cell? ⟨w.heap.size + 1 + 1 + 1 + 1 + 1, 0, none⟩ = some (.slice Ap acc.length cp) := fun o => (((Only.refl [] w3).drew.alloc o).blk hB3.b5 (by simp)).cell 0
          clear h2 hX3
          gi_wp2_with fail
          refine wpIn_region_g (C := fun W => ∃ p : Within So5 w3, W = p.W) [([0, 2, 5, 6], [(1, 3)], [4]), ([10], [], [7]), ([8, 9], [], [11])] [12, 13] (by rintro ⟨a, w, h⟩; exact h) (by kernel_rfl) (by kernel_rfl) (by kernel_rfl) (by intro c d u a w h; cases d <;> exact h) ⟨⟨_, (Only.refl _ _).drew⟩, rfl⟩ ?_
          refine gFirstF ?_
          show wpQuiet _ _ _ _ [_, _, _, _] _
          repeat (go_big_quiet_step (fail))
          refine wpQuiet_nil ?_
          clear D0 X0 X1 X2 X3 X4 X5 X6 X7
          refine fork_intro (fun a0 a1 W => ∃ (g : Nat), a1 = (a0.put (some 24) (.slice Ap acc.length cp)).put (some 26) (.slice (some ⟨g, 0, none⟩) 1 1) ∧ Only [] w3 W ∧ Slc W 8 (.slice (some ⟨g, 0, none⟩) 1 1) 1 x.x.cells) ?_ ?_ ?_
          · show wpList _ _ _ [_] _ _
            go_wp2_with fail
            refine check_of (S := So5) (Only.refl So5 w3).drew ?_
            show wpList _ _ _ [_] _ _
            go_wp2_with fail
            exact check_of (S := So5) ((Only.refl So5 w3).drew.alloc _) ⟨w3.drew.heap.size, rfl, (Only.refl [] w3).drew.alloc _, slc_new1 (size := 8) (cs := x.x.cells) rfl⟩
          · show wpList _ _ _ [_] _ _
            go_wp2_with fail
            refine check_of (S := So5) ((Only.refl So5 w3).drew.alloc _) ?_
            show wpList _ _ _ [_] _ _
            go_wp2_with fail
            exact check_of (S := So5) ((Only.refl So5 w3).drew.alloc _) ⟨w3.drew.heap.size, rfl, (Only.refl [] w3).drew.alloc _, slc_new1 (size := 8) (cs := x.x.cells) rfl⟩
          · rintro _ Wg ⟨g, rfl, hWg, hs1⟩
            obtain ⟨A4, c4', w4, hr4, hown4, hO4, hf4⟩ := run_app (P := Tryz.prog) 28 28 w.heap.size 66 (.agg #[.int .i64 0, .string ⟨#[]⟩, .string ⟨#[]⟩, .float .f64 0, .string ⟨#[]⟩, .int .i64 0, .int .i64 0, .int .i64 0]) 8 88 Tryz.underlying28 infoSt rfl (by decide) (own_only hB3.own hWg (by simp)) hs1 (by simpa using stored_one [x.x]) (by omega) (by unfold maxLen; omega) (by have := hB3.below.size; have := hWg.size; omega)
            have hlx : (acc ++ [x.x]).length = acc.length + 1 := by simp
            have ho4 : w4.ownsRow w.heap.size 66 8 (.slice A4 (acc.length + 1) c4') (acc ++ [x.x]).length ((acc ++ [x.x]).flatMap StoredR.cells) := by
              rw [hlx]
              simpa using hown4
            have ho24 : Only So w3 w4 := (hWg.of_nil).trans (by rw [hSo]; exact hO4)
            have HR4 := Lib.hid hr4
            clear hr4 hown4 hs1
            show wpList _ _ _ [_] _ _
            refine Lib.wpList_append_run _ rfl (.tmp 24) (.tmp 26) 28 28 rfl _ _ rfl rfl _ _ HR4.out ?_
            refine wpList_nil ?_
            refine check_of (S := So5) (ho24.mono hSub) ?_
            refine gNext ?_
            show wpQuiet _ _ _ _ [_] _
            go_frame
            repeat (go_big_quiet_step (fail))
            refine wpQuiet_nil ?_
            show wpList _ _ _ [_] _ _
            go_wp2_with (go_at_call 131; refine (hKC.out _).mono ?_; rintro e w5 ⟨rfl, k5⟩)
            have ho25 : Only So w3 w5 := ho24.trans k5.of_nil
            refine check_of (S := So5) (ho25.mono hSub) ?_
            refine gNext ?_
            show wpQuiet _ _ _ _ [_, _] _
            repeat (go_big_quiet_step (fail))
            refine wpQuiet_nil ?_
            have P5 : ∀ i, w5.cell? ⟨w.heap.size + 1 + 1 + 1 + 1 + 1, i, none⟩ = #[Value.slice Ap acc.length cp, .int .i64 nx, .bool true][i]? := fun i => (ho25.blk hB3.b5 n5).cell i
            have F5 : ∀ i, w5.frozen? ⟨w.heap.size + 1 + 1 + 1 + 1 + 1, i, none⟩ = false := fun i => (ho25.blk hB3.b5 n5).free i
            show wpList _ _ _ [_] _ _
            go_wp2_with fail
            refine check_of (S := So5) ((ho25.mono hSub).setCell (.inl h55) _) ?_
            refine gEnd ?_
            show wpList _ _ _ [_, _] _ _
            go_wp2_with fail
            have koE : Only [w.heap.size + 1 + 1 + 1 + 1 + 1] w5 ((w5.setCell ⟨w.heap.size + 1 + 1 + 1 + 1 + 1, 0, none⟩ (.slice A4 (acc.length + 1) c4')).setCell ⟨w.heap.size + 1 + 1 + 1 + 1 + 1, 1, none⟩ (.int .i64 (max (StoredR.position x.x) 0 - 1))) := ((Only.refl _ _).setCell (.inl (by simp)) _).setCell (.inl (by simp)) _
            have kT : Only So5 w3 ((w5.setCell ⟨w.heap.size + 1 + 1 + 1 + 1 + 1, 0, none⟩ (.slice A4 (acc.length + 1) c4')).setCell ⟨w.heap.size + 1 + 1 + 1 + 1 + 1, 1, none⟩ (.int .i64 (max (StoredR.position x.x) 0 - 1))) := (ho25.mono hSub).trans (koE.mono (fun g hg => by rw [List.mem_singleton.1 hg]; exact h55))
            have hno : ∀ i, i < w.heap.size + 7 → i ≠ w.heap.size + 5 → i ∉ So5 := fun i h1 h2 q => by
              have := (hS5 i q).1
              omega
            obtain ⟨av, hb6⟩ := hB3.b6
            refine ⟨keepsOS (S := So5) (o3.of_nil.trans kT) (fun g hg => ?_), KeepT.only (S := So5) (o3.of_nil.trans kT) (fun i hi => ⟨by rcases hT3 i hi with q | q <;> omega, by rcases hT3 i hi with q | q; (exact hno i (by omega) (by omega)); (exact hno i (by omega) (by omega))⟩),
              .slice A4 (acc.length + 1) c4', acc ++ [x.x], max (StoredR.position x.x) 0 - 1, ⟨below_only hB3.below kT (fun g hg => by have := (hS5 g hg).1; omega), kT.blk hB3.b0 (hno _ (by omega) (by omega)), kT.blk hB3.b1 (hno _ (by omega) (by omega)), kT.blk hB3.b2 (hno _ (by omega) (by omega)), kT.blk hB3.b3 (hno _ (by omega) (by omega)), kT.blk hB3.b4 (hno _ (by omega) (by omega)), ((ho25.blk hB3.b5 n5).set 0 _).set 1 _, ⟨av, kT.blk hb6 (hno _ (by omega) (by omega))⟩, own_only (own_only ho4 k5 (by simp)) koE (fun g hg => ?_)⟩, by have := kT.size; omega, by simp; omega, hN⟩
            · rw [hSo5] at hg
              rcases List.mem_cons.1 hg with e | e
              · rw [e]
                exact ⟨_, _, HB.out.b5⟩
              · rw [hSo] at e
                obtain ⟨cur, hcur⟩ := own_type HB.out.own (g := g) (by simpa using e)
                exact ⟨_, _, hcur⟩
            · obtain ⟨cur, hcur⟩ := own_type ho4 hg
              simp only [List.mem_singleton]
              exact hcur.other (ho24.blk hB3.b5 n5) (by decide)
    case done =>
      rintro D ys W hD hys ⟨pv, acc, nx, hB, hz, ha, hRun⟩ hK3
      obtain ⟨Ap, cp, hpv, hap1, hap2⟩ := own_form hB.own
      subst hpv
      have hfin : R = ⟨acc, nx, true⟩ := by
        rw [HR.out, ← hys, ← List.append_nil (ys.map (·.x))]
        exact hRun.out []
      have P5 : ∀ i, W.cell? ⟨w.heap.size + 1 + 1 + 1 + 1 + 1, i, none⟩ = #[Value.slice Ap acc.length cp, .int .i64 nx, .bool true][i]? := fun i => hB.b5.cell i
      have P3 : ∀ i, W.cell? ⟨w.heap.size + 1 + 1 + 1, i, none⟩ = #[Value.slice none 0 0, .int .i64 0, .bool false][i]? := fun i => hB.b3.cell i
      have F3 : ∀ i, W.frozen? ⟨w.heap.size + 1 + 1 + 1, i, none⟩ = false := fun i => hB.b3.free i
      have P4 : ∀ i, W.cell? ⟨w.heap.size + 1 + 1 + 1 + 1, i, none⟩ = #[Value.int .i64 0][i]? := fun i => hB.b4.cell i
      have F4 : ∀ i, W.frozen? ⟨w.heap.size + 1 + 1 + 1 + 1, i, none⟩ = false := fun i => hB.b4.free i
      have HFin := Lib.hid hfin
      clear hfin hRun hys
      gi_wp2
      have koE : Only [w.heap.size + 1 + 1 + 1, w.heap.size + 1 + 1 + 1 + 1] W ((((W.setCell ⟨w.heap.size + 1 + 1 + 1, 0, none⟩ (.slice Ap acc.length cp)).setCell ⟨w.heap.size + 1 + 1 + 1, 1, none⟩ (.int .i64 nx)).setCell ⟨w.heap.size + 1 + 1 + 1, 2, none⟩ (.bool true)).setCell ⟨w.heap.size + 1 + 1 + 1 + 1, 0, none⟩ (.int .i64 0)) := by
        iterate 4 (refine Only.setCell ?_ (.inl (by simp)) _)
        exact Only.refl _ _
      have q2 := ((hB.b3.set 0 (.slice Ap acc.length cp)).set 1 (.int .i64 nx)).set 2 (.bool true)
      have he3 := ((Only.refl [w.heap.size + 1 + 1 + 1 + 1] _).setCell (p := ⟨w.heap.size + 1 + 1 + 1 + 1, 0, none⟩) (.inl (by simp)) (.int .i64 0)).blk q2 (by simp)
      have r1 : Only [w.heap.size + 1 + 1 + 1] W (((W.setCell ⟨w.heap.size + 1 + 1 + 1, 0, none⟩ (.slice Ap acc.length cp)).setCell ⟨w.heap.size + 1 + 1 + 1, 1, none⟩ (.int .i64 nx)).setCell ⟨w.heap.size + 1 + 1 + 1, 2, none⟩ (.bool true)) := by
        iterate 3 (refine Only.setCell ?_ (.inl (by simp)) _)
        exact Only.refl _ _
      have he4 := (r1.blk hB.b4 (by simp)).set 0 (.int .i64 0)
      have hoe := own_only hB.own koE (fun g hg => by
        have := (hB.nown g hg).1
        simp
        omega)
      have hbe := below_only hB.below koE (fun g hg => by simp at hg; omega)
      have hKe := (koE.block D (Array.getElem?_eq_some_iff.1 hK3).1 (by simp; omega)).trans hK3
      have kD : Only [D] ((((W.setCell ⟨w.heap.size + 1 + 1 + 1, 0, none⟩ (.slice Ap acc.length cp)).setCell ⟨w.heap.size + 1 + 1 + 1, 1, none⟩ (.int .i64 nx)).setCell ⟨w.heap.size + 1 + 1 + 1, 2, none⟩ (.bool true)).setCell ⟨w.heap.size + 1 + 1 + 1 + 1, 0, none⟩ (.int .i64 0)) ((((((W.setCell ⟨w.heap.size + 1 + 1 + 1, 0, none⟩ (.slice Ap acc.length cp)).setCell ⟨w.heap.size + 1 + 1 + 1, 1, none⟩ (.int .i64 nx)).setCell ⟨w.heap.size + 1 + 1 + 1, 2, none⟩ (.bool true)).setCell ⟨w.heap.size + 1 + 1 + 1 + 1, 0, none⟩ (.int .i64 0))).putObj D (.deferred none)) := only_grownBy (grownBy_putObj' _ D (.deferred none)) (fun r e => by cases e; simp)
      refine ⟨by simp, .inl ⟨_, _, rfl, run_takeDeferred hKe, ?_⟩⟩
      have c3 := fun i => (kD.blk he3 (by simp; omega)).cell i
      have c4 := fun i => (kD.blk he4 (by simp; omega)).cell i
      refine ⟨.tuple #[.agg #[.slice Ap acc.length cp, .int .i64 nx, .bool true], .int .i64 0], ?_, .slice Ap acc.length cp, by rw [HFin.out], ?_, Only.of_below (below_only hbe kD (fun g hg => by simp at hg; omega)) (Nat.le_refl _)⟩
      · simp [results, Tryz.f62, go_sem, c3, c4]
      · rw [HFin.out]
        exact own_only hoe kD (fun g hg => by
          obtain ⟨cur, hcur⟩ := own_type hoe hg
          intro q
          have e1 := List.mem_singleton.1 q
          rw [e1] at hcur
          rw [show (((((W.setCell ⟨w.heap.size + 1 + 1 + 1, 0, none⟩ (.slice Ap acc.length cp)).setCell ⟨w.heap.size + 1 + 1 + 1, 1, none⟩ (.int .i64 nx)).setCell ⟨w.heap.size + 1 + 1 + 1, 2, none⟩ (.bool true)).setCell ⟨w.heap.size + 1 + 1 + 1 + 1, 0, none⟩ (.int .i64 0))).heap[D]? = _ from hcur] at hKe
          cases hKe)
    case stop =>
      rintro D c pre W hD hpre ⟨rfl, pv, acc, nx, ⟨g3, g4, hown, hbel⟩, hRun⟩ hK3
      obtain ⟨Ap, cp, hpv, hap1, hap2⟩ := own_form hown
      subst hpv
      have hfin : R = ⟨acc, nx, false⟩ := by
        obtain ⟨rest, hr⟩ := hpre
        rw [HR.out, ← hr]
        exact hRun.out rest
      have HFin := Lib.hid hfin
      clear hfin hRun hpre
      gi_wp2
      have he3 := g3
      have he4 := g4
      have hoe := hown
      have hbe := hbel
      have hKe := hK3
      have kD : Only [D] W (W.putObj D (.deferred none)) := only_grownBy (grownBy_putObj' _ D (.deferred none)) (fun r e => by cases e; simp)
      refine ⟨by simp, .inl ⟨_, _, rfl, run_takeDeferred hKe, ?_⟩⟩
      have c3 := fun i => (kD.blk he3 (by simp; omega)).cell i
      have c4 := fun i => (kD.blk he4 (by simp; omega)).cell i
      refine ⟨.tuple #[.agg #[.slice Ap acc.length cp, .int .i64 nx, .bool false], .int .i64 0], ?_, .slice Ap acc.length cp, by rw [HFin.out], ?_, Only.of_below (below_only hbe kD (fun g hg => by simp at hg; omega)) (Nat.le_refl _)⟩
      · simp [results, Tryz.f62, go_sem, c3, c4]
      · rw [HFin.out]
        exact own_only hoe kD (fun g hg => by
          obtain ⟨cur, hcur⟩ := own_type hoe hg
          intro q
          have e1 := List.mem_singleton.1 q
          rw [e1] at hcur
          rw [show W.heap[D]? = _ from hcur] at hKe
          cases hKe)
set_option maxRecDepth 100000 in
set_option maxHeartbeats 4000000 in
theorem backwardV_any {w : World} {v : Value} {l : List StoredR} {f n : Int} (hl : Slc w 8 v l.length (l.flatMap StoredR.cells)) (hb : l.length ≤ 1000000) (hk : ∀ s ∈ l, 0 ≤ StoredR.version s ∧ StoredR.version s ≤ 1000000000) :
    Calls Tryz.prog 62 #[.func (.func 63) #[] #[], v, .int .i64 f, .int .i64 n] w (PageOut w StoredR.version l f n (pageBy StoredR.version l f n true)) := by
  cases hw : wrongP f n with
  | true =>
    obtain ⟨A, cap, rfl, hnc, hcm, hel⟩ := hl.openE StoredR.cells (fun _ => rfl)
    have HW := Lib.hid hw
    have HV := Lib.hid (fun W => vwrong_any f n W)
    rw [hw] at HV
    clear hel hw
    have hR : pageBy StoredR.version l f n true = (PageR.zero, 1) := by unfold pageBy; rw [HW.out]; rfl
    rw [hR]
    clear hR
    go_enter Tryz.func62, Tryz.ntmps62
    go_wp2_with (go_at_call 127; refine (HV.out _).mono ?_; rintro e w1 ⟨rfl, rfl⟩)
    refine bodyPost_ret (v := .tuple #[.agg #[.slice none 0 0, .int .i64 0, .bool false], .int .i64 1]) (by simp [results, Tryz.results62, go_sem]) rfl ⟨_, rfl, World.ownsRow_nil _ _ _ _, ?_⟩
    iterate 5 (refine Only.alloc ?_ _)
    exact Only.refl [] w
  | false =>
    obtain ⟨A, cap, rfl, hnc, hcm, hel⟩ := hl.openE StoredR.cells (fun _ => rfl)
    have HW := Lib.hid hw
    have HV := Lib.hid (fun W => vwrong_any f n W)
    rw [hw] at HV
    have hn : 1 ≤ n ∧ n ≤ 100 := by simp [wrongP] at hw; omega
    clear hw
    have hR : pageBy StoredR.version l f n true = (bwdGo StoredR.version f n l.reverse [] f, 0) := by unfold pageBy; rw [HW.out]; rfl
    rw [hR]
    clear hR
    obtain ⟨R, hR⟩ : ∃ R, R = bwdGo StoredR.version f n l.reverse [] f := ⟨_, rfl⟩
    rw [← hR]
    have HR := Lib.hid hR
    clear hR
    refine (callsIn_wide (n := 3)).1 ?_
    refine callsIn_of_wp_marks Tryz.func62 rfl trivial ?_ rfl
    simp only [Tryz.ntmps62, List.size_toArray, List.length_cons, List.length_nil, Nat.reduceAdd, Nat.reduceSub, Array.replicate_succ, Array.replicate_zero, List.push_toArray, List.append_toArray, List.nil_append, List.cons_append]
    gi_wp2_with (first
      | (refine ⟨trivial, ?_⟩; gi_at_call 127; refine (callsIn_wide.2 (HV.out _)).mono ?_; rintro e w1 ⟨rfl, rfl⟩)
      | (refine ⟨trivial, ?_⟩; gi_at_call 128; refine (back_in Fence.wide _ trivial rfl _ _ _ _).mono ?_; rintro e w2 ⟨rfl, rfl⟩))
    obtain ⟨W2, hW2⟩ : ∃ W2, W2 = ((((((w.alloc (.cells #[.func (.func 63) #[] #[]] 149)).alloc (.cells #[.int .i64 f] 3)).alloc (.cells #[.int .i64 n] 3)).alloc (.cells #[.slice none 0 0, .int .i64 0, .bool false] 60)).alloc (.cells #[.int .i64 0] 52)).alloc (.cells #[.slice none 0 0, .int .i64 f, .bool true] 60)).alloc (.cells #[.slice A l.length cap] 28) := ⟨_, rfl⟩
    rw [← hW2]
    have hz2 : W2.heap.size = w.heap.size + 7 := by rw [hW2]; simp
    have hO2 : Only [] w W2 := by
      rw [hW2]
      iterate 7 (refine Only.alloc ?_ _)
      exact Only.refl [] w
    have hB2 : BwAt w W2 (.func (.func 63) #[] #[]) (.slice none 0 0) f n [] f := by
      have g0 := Blk.new w 149 #[.func (.func 63) #[] #[]]
      have g1 := Blk.new (w.alloc (.cells #[.func (.func 63) #[] #[]] 149)) 3 #[.int .i64 f]
      have g2 := Blk.new ((w.alloc (.cells #[.func (.func 63) #[] #[]] 149)).alloc (.cells #[.int .i64 f] 3)) 3 #[.int .i64 n]
      have g3 := Blk.new (((w.alloc (.cells #[.func (.func 63) #[] #[]] 149)).alloc (.cells #[.int .i64 f] 3)).alloc (.cells #[.int .i64 n] 3)) 60 #[.slice none 0 0, .int .i64 0, .bool false]
      have g4 := Blk.new ((((w.alloc (.cells #[.func (.func 63) #[] #[]] 149)).alloc (.cells #[.int .i64 f] 3)).alloc (.cells #[.int .i64 n] 3)).alloc (.cells #[.slice none 0 0, .int .i64 0, .bool false] 60)) 52 #[.int .i64 0]
      have g5 := Blk.new (((((w.alloc (.cells #[.func (.func 63) #[] #[]] 149)).alloc (.cells #[.int .i64 f] 3)).alloc (.cells #[.int .i64 n] 3)).alloc (.cells #[.slice none 0 0, .int .i64 0, .bool false] 60)).alloc (.cells #[.int .i64 0] 52)) 60 #[.slice none 0 0, .int .i64 f, .bool true]
      simp only [World.size_alloc] at g0 g1 g2 g3 g4 g5
      refine ⟨hO2.toBelow, ?_, ?_, ?_, ?_, ?_, ?_, ⟨.slice A l.length cap, ?_⟩, World.ownsRow_nil _ _ _ _⟩
      · rw [hW2]; exact (((((((Only.refl [] _).alloc _).alloc _).alloc _).alloc _).alloc _).alloc _).blk g0 (by simp)
      · rw [hW2]; exact ((((((Only.refl [] _).alloc _).alloc _).alloc _).alloc _).alloc _).blk g1 (by simp)
      · rw [hW2]; exact (((((Only.refl [] _).alloc _).alloc _).alloc _).alloc _).blk g2 (by simp)
      · rw [hW2]; exact ((((Only.refl [] _).alloc _).alloc _).alloc _).blk g3 (by simp)
      · rw [hW2]; exact (((Only.refl [] _).alloc _).alloc _).blk g4 (by simp)
      · rw [hW2]; exact ((Only.refl [] _).alloc (.cells #[.slice A l.length cap] 28)).blk g5 (by simp)
      · have g6 := Blk.new ((((((w.alloc (.cells #[.func (.func 63) #[] #[]] 149)).alloc (.cells #[.int .i64 f] 3)).alloc (.cells #[.int .i64 n] 3)).alloc (.cells #[.slice none 0 0, .int .i64 0, .bool false] 60)).alloc (.cells #[.int .i64 0] 52)).alloc (.cells #[.slice none 0 0, .int .i64 f, .bool true] 60)) 28 #[.slice A l.length cap]
        simp only [World.size_alloc] at g6
        rw [hW2]
        exact g6
    obtain ⟨T, hT1, hT2, hT3⟩ : ∃ T : List Nat, w.heap.size + 6 ∈ T ∧ (∀ g, (Value.slice A l.length cap).ownBlock = some g → g ∈ T ∨ l.length = 0) ∧ ∀ i ∈ T, i = w.heap.size + 6 ∨ i < w.heap.size := by
      by_cases h0 : l.length = 0
      · exact ⟨[w.heap.size + 6], by simp, fun g _ => .inr h0, fun i hi => .inl (by simpa using hi)⟩
      · obtain ⟨b0, o0, hA, hb0, _⟩ := hel 0 (by omega)
        subst hA
        refine ⟨[w.heap.size + 6, b0], by simp, fun g hg => .inl ?_, fun i hi => ?_⟩
        · cases hg
          simp
        · simp at hi
          rcases hi with rfl | rfl
          · exact .inl rfl
          · exact .inr hb0
    have hbx : W2.cell? ⟨w.heap.size + 6, 0, none⟩ = some (.slice A l.length cap) := by
      rw [hW2]
      have := Blk.new ((((((w.alloc (.cells #[.func (.func 63) #[] #[]] 149)).alloc (.cells #[.int .i64 f] 3)).alloc (.cells #[.int .i64 n] 3)).alloc (.cells #[.slice none 0 0, .int .i64 0, .bool false] 60)).alloc (.cells #[.int .i64 0] 52)).alloc (.cells #[.slice none 0 0, .int .i64 f, .bool true] 60)) 28 #[.slice A l.length cap]
      simp only [World.size_alloc] at this
      exact this.cell 0
    have hsl2 := hl.only0 hO2
    have hK := Lib.hid hk
    clear hW2 hk hl hel hnc hcm HV
    refine wpIn_rangeFunc_ownH rfl (by omega) (gf := 153) (lb := #[.pointer (some ⟨w.heap.size + 6, 0, none⟩)]) rfl trivial (enters_of Tryz.func153 (by kernel_rfl) rfl)
      (bk_stops2 Fence.wide _ trivial rfl (by omega) T (w.heap.size + 6) A cap l hb W2 hT1 (fun i hi => by rcases hT3 i hi with q | q <;> omega) hbx hsl2 hT2) (fun {A B C} h1 h2 => KeepT.trans h1 h2) (KeepT.put (fun i hi => by rcases hT3 i hi with q | q <;> omega)) (Below.refl _ _) (fun _ => rfl)
      (fun pre W => ∃ pv acc nx, BwAt w W (.func (.func 63) #[] #[]) pv f n acc nx ∧ W2.heap.size ≤ W.heap.size ∧ acc.length ≤ pre.length ∧ Hid (∀ rest, bwdGo StoredR.version f n (pre.map (·.x) ++ rest) [] f = bwdGo StoredR.version f n rest acc nx))
      (fun c pre W => c = .ret ∧ ∃ pv acc nx, (Blk W (w.heap.size + 3) 60 #[pv, .int .i64 nx, .bool false] ∧ Blk W (w.heap.size + 4) 52 #[.int .i64 0] ∧ W.ownsRow w.heap.size 66 8 pv acc.length (acc.flatMap StoredR.cells) ∧ Below w.heap.size w W) ∧ Hid (∀ rest, bwdGo StoredR.version f n (pre.map (·.x) ++ rest) [] f = ⟨acc, nx, false⟩))
      ?hI ?hIx
      ⟨.slice none 0 0, [], f, hB2, Nat.le_refl _, Nat.le_refl _, fun rest => rfl⟩
      (fun x a' W => ∃ (Bx : Nat) (pv u1 u2 : Value), w.heap.size + 7 ≤ Bx ∧ Blk W Bx 66 #[.int .i64 x.x.ev.id, .string x.x.ev.type, .string x.x.ev.data, .float .f64 x.x.ev.value, .string x.x.stream, .int .i64 x.x.version, .int .i64 x.x.position, .int .i64 x.x.time] ∧ Blk W (w.heap.size + 5) 60 #[pv, u1, u2] ∧ pv.ownBlock ≠ some Bx ∧ a' = { tmps := #[.func (.func 63) #[] #[], .slice A l.length cap, .int .i64 f, .int .i64 n, .pointer (some ⟨w.heap.size, 0, none⟩), undef, .pointer (some ⟨w.heap.size + 1, 0, none⟩), .pointer (some ⟨w.heap.size + 1 + 1, 0, none⟩), .pointer (some ⟨w.heap.size + 1 + 1 + 1, 0, none⟩), .pointer (some ⟨w.heap.size + 1 + 1 + 1 + 1, 0, none⟩), .pointer (some ⟨w.heap.size + 1 + 1 + 1 + 1 + 1, 0, none⟩), undef, .pointer (some ⟨Bx, 0, none⟩), .int .i64 f, .int .i64 n, .bool false, undef, .int .i64 f, .agg #[.slice none 0 0, .int .i64 f, .bool true], .slice A l.length cap, .func (.func 153) #[] #[.pointer (some ⟨w.heap.size + 1 + 1 + 1 + 1 + 1 + 1, 0, none⟩)], .int .i64 x.i, .agg #[.int .i64 x.x.ev.id, .string x.x.ev.type, .string x.x.ev.data, .float .f64 x.x.ev.value, .string x.x.stream, .int .i64 x.x.version, .int .i64 x.x.position, .int .i64 x.x.time], undef, undef, undef, undef, undef, undef, undef, undef, undef, undef, undef, undef, undef, undef, undef, undef, undef, undef, undef, undef, undef, undef, undef, undef, undef, undef, undef], defers := [] })
      ?hAx ?assign ?body ?done ?stop
    case hI =>
      rintro pre W W' row ⟨pv, acc, nx, h1, h2, h3, h4⟩ hg hr
      exact ⟨pv, acc, nx, h1.grown hg (fun r e => (hr r e).2) (fun r e => by have := (hr r e).1; omega), Nat.le_trans h2 hg.size, h3, h4⟩
    case hIx =>
      rintro c pre W W' row ⟨rfl, pv, acc, nx, ⟨h1, h2, h3, h4⟩, h5⟩ hg hr
      have ko : Only row.toList W W' := only_grownBy hg (fun r e => by simp [e])
      have hc := fun r e => (hr r e).2
      refine ⟨rfl, pv, acc, nx, ⟨ko.blk h1 (not_cells hc h1), ko.blk h2 (not_cells hc h2), own_only h3 ko (fun g q => ?_), ?_⟩, h5⟩
      · obtain ⟨cur, hcur⟩ := own_type h3 q
        exact not_cells hc hcur
      · exact h4.trans ⟨ko.os, ko.tape, ko.output, ko.size, fun i hi => ko.block i (by have := h4.size; omega) (fun q => by have := (hr i (by simpa using q)).1; omega)⟩
    case hAx =>
      rintro x a' s W W' row ⟨Bx, pv, u1, u2, h1, h2, h3, h4, h5⟩ hg hr
      have ko : Only row.toList W W' := only_grownBy hg (fun r e => by simp [e])
      have hc := fun r e => (hr r e).2
      exact ⟨Bx, pv, u1, u2, h1, ko.blk h2 (not_cells hc h2), ko.blk h3 (not_cells hc h3), h4, h5⟩
    case assign =>
      rintro ly pre x W K ⟨pv, acc, nx, h1, h2, h3, h4⟩ hK2
      have hsf := stF
      unfold bkV
      gi_wp2
      have hkk := (Only.refl [] W).alloc (.cells #[.int .i64 x.x.ev.id, .string x.x.ev.type, .string x.x.ev.data, .float .f64 x.x.ev.value, .string x.x.stream, .int .i64 x.x.version, .int .i64 x.x.position, .int .i64 x.x.time] 66)
      refine hK2 _ _ (keepsOS hkk (by simp)) (KeepT.only hkk (fun i hi => ⟨by rcases hT3 i hi with q | q <;> omega, by simp⟩)) ⟨pv, acc, nx, h1.only0 hkk, Nat.le_trans h2 hkk.size, h3, h4⟩ ⟨W.heap.size, pv, .int .i64 nx, .bool true, by omega, Blk.new W _ _, (h1.only0 hkk).b5, fun q => ?_, rfl⟩
      have := (h1.nown _ q).2
      omega
    case body =>
      rintro ly pre x a' W hly hlo ⟨pv, acc, nx, hB, hz, ha, hRun⟩ ⟨Bx, pv', u1, u2, hBx, hX, hP5, hne, rfl⟩ hlt
      have hpe : pv' = pv := by
        have e : some (Obj.cells #[pv', u1, u2] 60) = some (Obj.cells #[pv, .int .i64 nx, .bool true] 60) := hP5.symm.trans hB.b5
        injection e with e
        injection e with e
        exact Option.some.inj (show some pv' = some pv from congrArg (fun a : Array Value => a[0]?) e)
      subst hpe
      obtain ⟨Ap, cp, hpv, hap1, hap2⟩ := own_form hB.own
      subst hpv
      unfold maxLen at hap2
      have hKx := hK.out x.x x.mem
      have hKC := Lib.hid (fun W => version_any x.x W)
      have hSt : Hid (∀ rest, bwdGo StoredR.version f n ((pre ++ [x]).map (·.x) ++ rest) [] f = if f < StoredR.version x.x then bwdGo StoredR.version f n rest acc nx else if (acc.length : Int) = n then ⟨acc, nx, false⟩ else bwdGo StoredR.version f n rest (acc ++ [x.x]) (max (StoredR.version x.x) 0 - 1)) := fun rest => by
        rw [List.map_append, List.append_assoc]
        exact hRun.out _
      have D0 := Within.cell (S := []) (show W.cell? ⟨w.heap.size, 0, none⟩ = some (.func (.func 63) #[] #[]) from hB.b0.cell 0) (by simp)
      have D1 := Within.cell (S := []) (show W.cell? ⟨w.heap.size + 1, 0, none⟩ = some (.int .i64 f) from hB.b1.cell 0) (by simp)
      have X0 := Within.cell (S := []) (show W.cell? ⟨Bx, 0, none⟩ = some (.int .i64 x.x.ev.id) from hX.cell 0) (by simp)
      have X1 := Within.cell (S := []) (show W.cell? ⟨Bx, 1, none⟩ = some (.string x.x.ev.type) from hX.cell 1) (by simp)
      have X2 := Within.cell (S := []) (show W.cell? ⟨Bx, 2, none⟩ = some (.string x.x.ev.data) from hX.cell 2) (by simp)
      have X3 := Within.cell (S := []) (show W.cell? ⟨Bx, 3, none⟩ = some (.float .f64 x.x.ev.value) from hX.cell 3) (by simp)
      have X4 := Within.cell (S := []) (show W.cell? ⟨Bx, 4, none⟩ = some (.string x.x.stream) from hX.cell 4) (by simp)
      have X5 := Within.cell (S := []) (show W.cell? ⟨Bx, 5, none⟩ = some (.int .i64 x.x.version) from hX.cell 5) (by simp)
      have X6 := Within.cell (S := []) (show W.cell? ⟨Bx, 6, none⟩ = some (.int .i64 x.x.position) from hX.cell 6) (by simp)
      have X7 := Within.cell (S := []) (show W.cell? ⟨Bx, 7, none⟩ = some (.int .i64 x.x.time) from hX.cell 7) (by simp)
      have hsf := stF
      have HB := Lib.hid hB
      have HX := Lib.hid hX
      clear hB hX hP5 hRun
      gi_wp2_with fail
      refine wpIn_region_in [] [0, 1, 3] [2, 4, 5] [] (by rintro ⟨a, w, h⟩; exact h) (by kernel_rfl) (by kernel_rfl) (by kernel_rfl) (by intro c d u a w h; cases d <;> exact h) ?_
      show wpQuiet _ _ _ _ [_, _, _] _
      repeat (go_big_quiet_step (fail))
      refine wpQuiet_nil ?_
      clear D0 D1 X0 X1 X2 X3 X4 X5 X6 X7
      show wpList _ _ _ [_] _ _
      go_wp2_with (go_at_call 63; refine (hKC.out _).mono ?_; rintro e w3 ⟨rfl, k3⟩)
      have o3 := (Only.refl [] W).drew.trans k3
      refine check_of (S := []) o3 ?_
      show wpList _ _ _ [_] _ _
      go_wp2_with fail
      refine check_of (S := []) o3 ?_
      show wpList _ _ _ [_] _ _
      go_wp2_with fail
      refine check_last (S := []) o3 (fun _ _ q => q) ?_
      have hB3 := HB.out.only0 o3
      have hX3 := o3.blk HX.out (by simp)
      have hz3 := o3.size
      by_cases h1 : f < StoredR.version x.x
      · have hN : Hid (∀ rest, bwdGo StoredR.version f n ((pre ++ [x]).map (·.x) ++ rest) [] f = bwdGo StoredR.version f n rest acc nx) := fun rest => by rw [hSt.out, if_pos h1]
        have h1b : decide (StoredR.version x.x > f) = true := decide_eq_true h1
        gi_wp2
        exact ⟨keepsOS o3 (by simp), KeepT.only o3 (fun i hi => ⟨by rcases hT3 i hi with q | q <;> omega, by simp⟩), _, acc, nx, hB3, by omega, by simp; omega, hN⟩
      · have h1b : decide (StoredR.version x.x > f) = false := decide_eq_false h1
        have P5 : ∀ i, w3.cell? ⟨w.heap.size + 1 + 1 + 1 + 1 + 1, i, none⟩ = #[Value.slice Ap acc.length cp, .int .i64 nx, .bool true][i]? := fun i => hB3.b5.cell i
        have F5 : ∀ i, w3.frozen? ⟨w.heap.size + 1 + 1 + 1 + 1 + 1, i, none⟩ = false := fun i => hB3.b5.free i
        have P2 : w3.cell? ⟨w.heap.size + 1 + 1, 0, none⟩ = some (.int .i64 n) := hB3.b2.cell 0
        by_cases h2 : (acc.length : Int) = n
        · have h2b : ((acc.length : Int) == n) = true := by simpa using h2
          have hN : Hid (∀ rest, bwdGo StoredR.version f n ((pre ++ [x]).map (·.x) ++ rest) [] f = ⟨acc, nx, false⟩) := fun rest => by rw [hSt.out, if_neg h1, if_pos h2]
          have P3 : ∀ i, w3.cell? ⟨w.heap.size + 1 + 1 + 1, i, none⟩ = #[Value.slice none 0 0, .int .i64 0, .bool false][i]? := fun i => hB3.b3.cell i
          have F3 : ∀ i, w3.frozen? ⟨w.heap.size + 1 + 1 + 1, i, none⟩ = false := fun i => hB3.b3.free i
          have P4 : ∀ i, w3.cell? ⟨w.heap.size + 1 + 1 + 1 + 1, i, none⟩ = #[Value.int .i64 0][i]? := fun i => hB3.b4.cell i
          have F4 : ∀ i, w3.frozen? ⟨w.heap.size + 1 + 1 + 1 + 1, i, none⟩ = false := fun i => hB3.b4.free i
          clear h2
          gi_wp2
          have koE : Only [w.heap.size + 1 + 1 + 1, w.heap.size + 1 + 1 + 1 + 1, w.heap.size + 1 + 1 + 1 + 1 + 1] w3 (((((w3.setCell ⟨w.heap.size + 1 + 1 + 1 + 1 + 1, 2, none⟩ (.bool false)).setCell ⟨w.heap.size + 1 + 1 + 1, 0, none⟩ (.slice Ap acc.length cp)).setCell ⟨w.heap.size + 1 + 1 + 1, 1, none⟩ (.int .i64 nx)).setCell ⟨w.heap.size + 1 + 1 + 1, 2, none⟩ (.bool false)).setCell ⟨w.heap.size + 1 + 1 + 1 + 1, 0, none⟩ (.int .i64 0)) := by
            iterate 5 (refine Only.setCell ?_ (.inl (by simp)) _)
            exact Only.refl _ _
          have q1 := ((Only.refl [w.heap.size + 1 + 1 + 1 + 1 + 1] w3).setCell (p := ⟨w.heap.size + 1 + 1 + 1 + 1 + 1, 2, none⟩) (.inl (by simp)) (.bool false)).blk hB3.b3 (by simp)
          have q2 := ((q1.set 0 (.slice Ap acc.length cp)).set 1 (.int .i64 nx)).set 2 (.bool false)
          have q3 := ((Only.refl [w.heap.size + 1 + 1 + 1 + 1] _).setCell (p := ⟨w.heap.size + 1 + 1 + 1 + 1, 0, none⟩) (.inl (by simp)) (.int .i64 0)).blk q2 (by simp)
          have r1 : Only [w.heap.size + 1 + 1 + 1, w.heap.size + 1 + 1 + 1 + 1 + 1] w3 ((((w3.setCell ⟨w.heap.size + 1 + 1 + 1 + 1 + 1, 2, none⟩ (.bool false)).setCell ⟨w.heap.size + 1 + 1 + 1, 0, none⟩ (.slice Ap acc.length cp)).setCell ⟨w.heap.size + 1 + 1 + 1, 1, none⟩ (.int .i64 nx)).setCell ⟨w.heap.size + 1 + 1 + 1, 2, none⟩ (.bool false)) := by
            iterate 4 (refine Only.setCell ?_ (.inl (by simp)) _)
            exact Only.refl _ _
          have r2 := (r1.blk hB3.b4 (by simp)).set 0 (.int .i64 0)
          refine ⟨keepsOS (o3.of_nil.trans koE) (fun g hg => ?_), rfl, .slice Ap acc.length cp, acc, nx, ⟨q3, r2, own_only hB3.own koE (fun g hg => ?_), below_only hB3.below koE (fun g hg => ?_)⟩, hN⟩
          · simp only [List.mem_cons, List.not_mem_nil, or_false] at hg
            rcases hg with rfl | rfl | rfl
            · exact ⟨_, _, HB.out.b3⟩
            · exact ⟨_, _, HB.out.b4⟩
            · exact ⟨_, _, HB.out.b5⟩
          · have := (hB3.nown g hg).1
            simp
            omega
          · simp at hg
            omega
        · have h2b : ((acc.length : Int) == n) = false := by rw [beq_eq_false_iff_ne]; exact h2
          have hN : Hid (∀ rest, bwdGo StoredR.version f n ((pre ++ [x]).map (·.x) ++ rest) [] f = bwdGo StoredR.version f n rest (acc ++ [x.x]) (max (StoredR.version x.x) 0 - 1)) := fun rest => by rw [hSt.out, if_neg h1, if_neg h2]
          have hal : acc.length + 1 ≤ 1000001 := by omega
          obtain ⟨So, hSo⟩ : ∃ So, So = (Value.slice Ap acc.length cp).ownBlock.toList := ⟨_, rfl⟩
          have hSn : ∀ g ∈ So, w.heap.size + 7 ≤ g ∧ g < w3.heap.size := fun g hg => hB3.nown g (by rw [hSo] at hg; simpa using hg)
          have nB : Bx ∉ So := fun q => hne (by rw [hSo] at q; simpa using q)
          have n5 : w.heap.size + 1 + 1 + 1 + 1 + 1 ∉ So := fun q => by have := (hSn _ q).1; omega
          have n0 : w.heap.size ∉ So := fun q => by have := (hSn _ q).1; omega
          obtain ⟨So5, hSo5⟩ : ∃ So5, So5 = (w.heap.size + 1 + 1 + 1 + 1 + 1) :: So := ⟨_, rfl⟩
          have h55 : w.heap.size + 1 + 1 + 1 + 1 + 1 ∈ So5 := by rw [hSo5]; simp
          have hSub : ∀ g ∈ So, g ∈ So5 := fun g hg => by rw [hSo5]; exact List.mem_cons_of_mem _ hg
          have hS5 : ∀ g ∈ So5, (g = w.heap.size + 5 ∨ w.heap.size + 7 ≤ g) ∧ g < w3.heap.size := fun g hg => by
            rw [hSo5] at hg
            rcases List.mem_cons.1 hg with e | e
            · have := hB3.b5.lt
              omega
            · have := hSn g e
              omega
          have n05 : w.heap.size ∉ So5 := fun q => by have := (hS5 _ q).1; omega
          have nB5 : Bx ∉ So5 := fun q => by
            rw [hSo5] at q
            rcases List.mem_cons.1 q with e | e
            · omega
            · exact nB e
          have D0 := Within.cell (S := So5) (show w3.cell? ⟨w.heap.size, 0, none⟩ = some (.func (.func 63) #[] #[]) from hB3.b0.cell 0) n05
          have X0 := Within.cell (S := So5) (show w3.cell? ⟨Bx, 0, none⟩ = some (.int .i64 x.x.ev.id) from hX3.cell 0) nB5
          have X1 := Within.cell (S := So5) (show w3.cell? ⟨Bx, 1, none⟩ = some (.string x.x.ev.type) from hX3.cell 1) nB5
          have X2 := Within.cell (S := So5) (show w3.cell? ⟨Bx, 2, none⟩ = some (.string x.x.ev.data) from hX3.cell 2) nB5
          have X3 := Within.cell (S := So5) (show w3.cell? ⟨Bx, 3, none⟩ = some (.float .f64 x.x.ev.value) from hX3.cell 3) nB5
          have X4 := Within.cell (S := So5) (show w3.cell? ⟨Bx, 4, none⟩ = some (.string x.x.stream) from hX3.cell 4) nB5
          have X5 := Within.cell (S := So5) (show w3.cell? ⟨Bx, 5, none⟩ = some (.int .i64 x.x.version) from hX3.cell 5) nB5
          have X6 := Within.cell (S := So5) (show w3.cell? ⟨Bx, 6, none⟩ = some (.int .i64 x.x.position) from hX3.cell 6) nB5
          have X7 := Within.cell (S := So5) (show w3.cell? ⟨Bx, 7, none⟩ = some (.int .i64 x.x.time) from hX3.cell 7) nB5
          have hwx := IntWalk.i64_in (max (StoredR.version x.x) 0 - 1) ⟨by omega, by omega⟩
          have HX3 := Lib.hid hX3
          have PD : w3.drew.cell? ⟨w.heap.size + 1 + 1 + 1 + 1 + 1, 0, none⟩ = some (.slice Ap acc.length cp) := P5 0
          have PDA : ∀ o, (w3.drew.alloc o).cell? ⟨w.heap.size + 1 + 1 + 1 + 1 + 1, 0, none⟩ = some (.slice Ap acc.length cp) := fun o => (((Only.refl [] w3).drew.alloc o).blk hB3.b5 (by simp)).cell 0
          clear h2 hX3
          gi_wp2_with fail
          refine wpIn_region_g (C := fun W => ∃ p : Within So5 w3, W = p.W) [([0, 2, 5, 6], [(1, 3)], [4]), ([10], [], [7]), ([8, 9], [], [11])] [12, 13] (by rintro ⟨a, w, h⟩; exact h) (by kernel_rfl) (by kernel_rfl) (by kernel_rfl) (by intro c d u a w h; cases d <;> exact h) ⟨⟨_, (Only.refl _ _).drew⟩, rfl⟩ ?_
          refine gFirstF ?_
          show wpQuiet _ _ _ _ [_, _, _, _] _
          repeat (go_big_quiet_step (fail))
          refine wpQuiet_nil ?_
          clear D0 X0 X1 X2 X3 X4 X5 X6 X7
          refine fork_intro (fun a0 a1 W => ∃ (g : Nat), a1 = (a0.put (some 24) (.slice Ap acc.length cp)).put (some 26) (.slice (some ⟨g, 0, none⟩) 1 1) ∧ Only [] w3 W ∧ Slc W 8 (.slice (some ⟨g, 0, none⟩) 1 1) 1 x.x.cells) ?_ ?_ ?_
          · show wpList _ _ _ [_] _ _
            go_wp2_with fail
            refine check_of (S := So5) (Only.refl So5 w3).drew ?_
            show wpList _ _ _ [_] _ _
            go_wp2_with fail
            exact check_of (S := So5) ((Only.refl So5 w3).drew.alloc _) ⟨w3.drew.heap.size, rfl, (Only.refl [] w3).drew.alloc _, slc_new1 (size := 8) (cs := x.x.cells) rfl⟩
          · show wpList _ _ _ [_] _ _
            go_wp2_with fail
            refine check_of (S := So5) ((Only.refl So5 w3).drew.alloc _) ?_
            show wpList _ _ _ [_] _ _
            go_wp2_with fail
            exact check_of (S := So5) ((Only.refl So5 w3).drew.alloc _) ⟨w3.drew.heap.size, rfl, (Only.refl [] w3).drew.alloc _, slc_new1 (size := 8) (cs := x.x.cells) rfl⟩
          · rintro _ Wg ⟨g, rfl, hWg, hs1⟩
            obtain ⟨A4, c4', w4, hr4, hown4, hO4, hf4⟩ := run_app (P := Tryz.prog) 28 28 w.heap.size 66 (.agg #[.int .i64 0, .string ⟨#[]⟩, .string ⟨#[]⟩, .float .f64 0, .string ⟨#[]⟩, .int .i64 0, .int .i64 0, .int .i64 0]) 8 88 Tryz.underlying28 infoSt rfl (by decide) (own_only hB3.own hWg (by simp)) hs1 (by simpa using stored_one [x.x]) (by omega) (by unfold maxLen; omega) (by have := hB3.below.size; have := hWg.size; omega)
            have hlx : (acc ++ [x.x]).length = acc.length + 1 := by simp
            have ho4 : w4.ownsRow w.heap.size 66 8 (.slice A4 (acc.length + 1) c4') (acc ++ [x.x]).length ((acc ++ [x.x]).flatMap StoredR.cells) := by
              rw [hlx]
              simpa using hown4
            have ho24 : Only So w3 w4 := (hWg.of_nil).trans (by rw [hSo]; exact hO4)
            have HR4 := Lib.hid hr4
            clear hr4 hown4 hs1
            show wpList _ _ _ [_] _ _
            refine Lib.wpList_append_run _ rfl (.tmp 24) (.tmp 26) 28 28 rfl _ _ rfl rfl _ _ HR4.out ?_
            refine wpList_nil ?_
            refine check_of (S := So5) (ho24.mono hSub) ?_
            refine gNext ?_
            show wpQuiet _ _ _ _ [_] _
            go_frame
            repeat (go_big_quiet_step (fail))
            refine wpQuiet_nil ?_
            show wpList _ _ _ [_] _ _
            go_wp2_with (go_at_call 63; refine (hKC.out _).mono ?_; rintro e w5 ⟨rfl, k5⟩)
            have ho25 : Only So w3 w5 := ho24.trans k5.of_nil
            refine check_of (S := So5) (ho25.mono hSub) ?_
            refine gNext ?_
            show wpQuiet _ _ _ _ [_, _] _
            repeat (go_big_quiet_step (fail))
            refine wpQuiet_nil ?_
            have P5 : ∀ i, w5.cell? ⟨w.heap.size + 1 + 1 + 1 + 1 + 1, i, none⟩ = #[Value.slice Ap acc.length cp, .int .i64 nx, .bool true][i]? := fun i => (ho25.blk hB3.b5 n5).cell i
            have F5 : ∀ i, w5.frozen? ⟨w.heap.size + 1 + 1 + 1 + 1 + 1, i, none⟩ = false := fun i => (ho25.blk hB3.b5 n5).free i
            show wpList _ _ _ [_] _ _
            go_wp2_with fail
            refine check_of (S := So5) ((ho25.mono hSub).setCell (.inl h55) _) ?_
            refine gEnd ?_
            show wpList _ _ _ [_, _] _ _
            go_wp2_with fail
            have koE : Only [w.heap.size + 1 + 1 + 1 + 1 + 1] w5 ((w5.setCell ⟨w.heap.size + 1 + 1 + 1 + 1 + 1, 0, none⟩ (.slice A4 (acc.length + 1) c4')).setCell ⟨w.heap.size + 1 + 1 + 1 + 1 + 1, 1, none⟩ (.int .i64 (max (StoredR.version x.x) 0 - 1))) := ((Only.refl _ _).setCell (.inl (by simp)) _).setCell (.inl (by simp)) _
            have kT : Only So5 w3 ((w5.setCell ⟨w.heap.size + 1 + 1 + 1 + 1 + 1, 0, none⟩ (.slice A4 (acc.length + 1) c4')).setCell ⟨w.heap.size + 1 + 1 + 1 + 1 + 1, 1, none⟩ (.int .i64 (max (StoredR.version x.x) 0 - 1))) := (ho25.mono hSub).trans (koE.mono (fun g hg => by rw [List.mem_singleton.1 hg]; exact h55))
            have hno : ∀ i, i < w.heap.size + 7 → i ≠ w.heap.size + 5 → i ∉ So5 := fun i h1 h2 q => by
              have := (hS5 i q).1
              omega
            obtain ⟨av, hb6⟩ := hB3.b6
            refine ⟨keepsOS (S := So5) (o3.of_nil.trans kT) (fun g hg => ?_), KeepT.only (S := So5) (o3.of_nil.trans kT) (fun i hi => ⟨by rcases hT3 i hi with q | q <;> omega, by rcases hT3 i hi with q | q; (exact hno i (by omega) (by omega)); (exact hno i (by omega) (by omega))⟩),
              .slice A4 (acc.length + 1) c4', acc ++ [x.x], max (StoredR.version x.x) 0 - 1, ⟨below_only hB3.below kT (fun g hg => by have := (hS5 g hg).1; omega), kT.blk hB3.b0 (hno _ (by omega) (by omega)), kT.blk hB3.b1 (hno _ (by omega) (by omega)), kT.blk hB3.b2 (hno _ (by omega) (by omega)), kT.blk hB3.b3 (hno _ (by omega) (by omega)), kT.blk hB3.b4 (hno _ (by omega) (by omega)), ((ho25.blk hB3.b5 n5).set 0 _).set 1 _, ⟨av, kT.blk hb6 (hno _ (by omega) (by omega))⟩, own_only (own_only ho4 k5 (by simp)) koE (fun g hg => ?_)⟩, by have := kT.size; omega, by simp; omega, hN⟩
            · rw [hSo5] at hg
              rcases List.mem_cons.1 hg with e | e
              · rw [e]
                exact ⟨_, _, HB.out.b5⟩
              · rw [hSo] at e
                obtain ⟨cur, hcur⟩ := own_type HB.out.own (g := g) (by simpa using e)
                exact ⟨_, _, hcur⟩
            · obtain ⟨cur, hcur⟩ := own_type ho4 hg
              simp only [List.mem_singleton]
              exact hcur.other (ho24.blk hB3.b5 n5) (by decide)
    case done =>
      rintro D ys W hD hys ⟨pv, acc, nx, hB, hz, ha, hRun⟩ hK3
      obtain ⟨Ap, cp, hpv, hap1, hap2⟩ := own_form hB.own
      subst hpv
      have hfin : R = ⟨acc, nx, true⟩ := by
        rw [HR.out, ← hys, ← List.append_nil (ys.map (·.x))]
        exact hRun.out []
      have P5 : ∀ i, W.cell? ⟨w.heap.size + 1 + 1 + 1 + 1 + 1, i, none⟩ = #[Value.slice Ap acc.length cp, .int .i64 nx, .bool true][i]? := fun i => hB.b5.cell i
      have P3 : ∀ i, W.cell? ⟨w.heap.size + 1 + 1 + 1, i, none⟩ = #[Value.slice none 0 0, .int .i64 0, .bool false][i]? := fun i => hB.b3.cell i
      have F3 : ∀ i, W.frozen? ⟨w.heap.size + 1 + 1 + 1, i, none⟩ = false := fun i => hB.b3.free i
      have P4 : ∀ i, W.cell? ⟨w.heap.size + 1 + 1 + 1 + 1, i, none⟩ = #[Value.int .i64 0][i]? := fun i => hB.b4.cell i
      have F4 : ∀ i, W.frozen? ⟨w.heap.size + 1 + 1 + 1 + 1, i, none⟩ = false := fun i => hB.b4.free i
      have HFin := Lib.hid hfin
      clear hfin hRun hys
      gi_wp2
      have koE : Only [w.heap.size + 1 + 1 + 1, w.heap.size + 1 + 1 + 1 + 1] W ((((W.setCell ⟨w.heap.size + 1 + 1 + 1, 0, none⟩ (.slice Ap acc.length cp)).setCell ⟨w.heap.size + 1 + 1 + 1, 1, none⟩ (.int .i64 nx)).setCell ⟨w.heap.size + 1 + 1 + 1, 2, none⟩ (.bool true)).setCell ⟨w.heap.size + 1 + 1 + 1 + 1, 0, none⟩ (.int .i64 0)) := by
        iterate 4 (refine Only.setCell ?_ (.inl (by simp)) _)
        exact Only.refl _ _
      have q2 := ((hB.b3.set 0 (.slice Ap acc.length cp)).set 1 (.int .i64 nx)).set 2 (.bool true)
      have he3 := ((Only.refl [w.heap.size + 1 + 1 + 1 + 1] _).setCell (p := ⟨w.heap.size + 1 + 1 + 1 + 1, 0, none⟩) (.inl (by simp)) (.int .i64 0)).blk q2 (by simp)
      have r1 : Only [w.heap.size + 1 + 1 + 1] W (((W.setCell ⟨w.heap.size + 1 + 1 + 1, 0, none⟩ (.slice Ap acc.length cp)).setCell ⟨w.heap.size + 1 + 1 + 1, 1, none⟩ (.int .i64 nx)).setCell ⟨w.heap.size + 1 + 1 + 1, 2, none⟩ (.bool true)) := by
        iterate 3 (refine Only.setCell ?_ (.inl (by simp)) _)
        exact Only.refl _ _
      have he4 := (r1.blk hB.b4 (by simp)).set 0 (.int .i64 0)
      have hoe := own_only hB.own koE (fun g hg => by
        have := (hB.nown g hg).1
        simp
        omega)
      have hbe := below_only hB.below koE (fun g hg => by simp at hg; omega)
      have hKe := (koE.block D (Array.getElem?_eq_some_iff.1 hK3).1 (by simp; omega)).trans hK3
      have kD : Only [D] ((((W.setCell ⟨w.heap.size + 1 + 1 + 1, 0, none⟩ (.slice Ap acc.length cp)).setCell ⟨w.heap.size + 1 + 1 + 1, 1, none⟩ (.int .i64 nx)).setCell ⟨w.heap.size + 1 + 1 + 1, 2, none⟩ (.bool true)).setCell ⟨w.heap.size + 1 + 1 + 1 + 1, 0, none⟩ (.int .i64 0)) ((((((W.setCell ⟨w.heap.size + 1 + 1 + 1, 0, none⟩ (.slice Ap acc.length cp)).setCell ⟨w.heap.size + 1 + 1 + 1, 1, none⟩ (.int .i64 nx)).setCell ⟨w.heap.size + 1 + 1 + 1, 2, none⟩ (.bool true)).setCell ⟨w.heap.size + 1 + 1 + 1 + 1, 0, none⟩ (.int .i64 0))).putObj D (.deferred none)) := only_grownBy (grownBy_putObj' _ D (.deferred none)) (fun r e => by cases e; simp)
      refine ⟨by simp, .inl ⟨_, _, rfl, run_takeDeferred hKe, ?_⟩⟩
      have c3 := fun i => (kD.blk he3 (by simp; omega)).cell i
      have c4 := fun i => (kD.blk he4 (by simp; omega)).cell i
      refine ⟨.tuple #[.agg #[.slice Ap acc.length cp, .int .i64 nx, .bool true], .int .i64 0], ?_, .slice Ap acc.length cp, by rw [HFin.out], ?_, Only.of_below (below_only hbe kD (fun g hg => by simp at hg; omega)) (Nat.le_refl _)⟩
      · simp [results, Tryz.f62, go_sem, c3, c4]
      · rw [HFin.out]
        exact own_only hoe kD (fun g hg => by
          obtain ⟨cur, hcur⟩ := own_type hoe hg
          intro q
          have e1 := List.mem_singleton.1 q
          rw [e1] at hcur
          rw [show (((((W.setCell ⟨w.heap.size + 1 + 1 + 1, 0, none⟩ (.slice Ap acc.length cp)).setCell ⟨w.heap.size + 1 + 1 + 1, 1, none⟩ (.int .i64 nx)).setCell ⟨w.heap.size + 1 + 1 + 1, 2, none⟩ (.bool true)).setCell ⟨w.heap.size + 1 + 1 + 1 + 1, 0, none⟩ (.int .i64 0))).heap[D]? = _ from hcur] at hKe
          cases hKe)
    case stop =>
      rintro D c pre W hD hpre ⟨rfl, pv, acc, nx, ⟨g3, g4, hown, hbel⟩, hRun⟩ hK3
      obtain ⟨Ap, cp, hpv, hap1, hap2⟩ := own_form hown
      subst hpv
      have hfin : R = ⟨acc, nx, false⟩ := by
        obtain ⟨rest, hr⟩ := hpre
        rw [HR.out, ← hr]
        exact hRun.out rest
      have HFin := Lib.hid hfin
      clear hfin hRun hpre
      gi_wp2
      have he3 := g3
      have he4 := g4
      have hoe := hown
      have hbe := hbel
      have hKe := hK3
      have kD : Only [D] W (W.putObj D (.deferred none)) := only_grownBy (grownBy_putObj' _ D (.deferred none)) (fun r e => by cases e; simp)
      refine ⟨by simp, .inl ⟨_, _, rfl, run_takeDeferred hKe, ?_⟩⟩
      have c3 := fun i => (kD.blk he3 (by simp; omega)).cell i
      have c4 := fun i => (kD.blk he4 (by simp; omega)).cell i
      refine ⟨.tuple #[.agg #[.slice Ap acc.length cp, .int .i64 nx, .bool false], .int .i64 0], ?_, .slice Ap acc.length cp, by rw [HFin.out], ?_, Only.of_below (below_only hbe kD (fun g hg => by simp at hg; omega)) (Nat.le_refl _)⟩
      · simp [results, Tryz.f62, go_sem, c3, c4]
      · rw [HFin.out]
        exact own_only hoe kD (fun g hg => by
          obtain ⟨cur, hcur⟩ := own_type hoe hg
          intro q
          have e1 := List.mem_singleton.1 q
          rw [e1] at hcur
          rw [show W.heap[D]? = _ from hcur] at hKe
          cases hKe)
end Go.Proofs.YtikboecmcbcghaaGreat
/- Contracts: Read and All, backward. -/
set_option linter.unusedVariables false
set_option linter.unusedSimpArgs false
namespace Go.Proofs.YtikboecmcbcghaaGreat
open Go.RowKit
theorem readOk_is (n : ByteArray) (f k : Int) : (nameOk n && decide (0 ≤ f) && decide (1 ≤ k) && decide (k ≤ 100)) = MS.readOk n f k := rfl
section
variable {w : World} {M : List Nat} {sb mb N : Nat} {av : Value} {pf : ByteArray → Value} {s : MS}
set_option maxRecDepth 100000 in
set_option maxHeartbeats 4000000 in
theorem readB_any (h : StAt w M sb mb av pf s) (hs : s.Ok N) (hN : N ≤ 100000) (n : ByteArray) (hn : n.size ≤ maxLen) (f k : Int) (hv : ∀ e ∈ s.seenL n, 0 ≤ e.version ∧ e.version ≤ 1000000000) :
    Calls Tryz.prog 15 #[.pointer (some ⟨sb, 0, none⟩), .string n, .int .i64 f, .int .i64 k, .bool true] w (PageRet w (s.readP n f k true)) := by
  obtain ⟨A, cap, hpv, hcm, hf⟩ := findv h n
  have HF := Lib.hid hf
  have HS := Lib.hid (fun W => stream_any n W hn)
  have hx := hs.xok n
  have hal := hs.all
  have hlb : (s.seenL n).length ≤ 1000000 := by
    unfold MS.seenL
    have := hx.few
    split
    · simp
    · simp; omega
  unfold maxLen at hcm
  have hfew := hx.few
  clear hf hpv hx
  cases hok : MS.readOk n f k with
  | false =>
    have hR : s.readP n f k true = (PageR.zero, 1) := by unfold MS.readP; rw [readOk_is, if_pos hok]
    rw [hR]
    clear hR
    cases hnm : nameOk n with
    | false =>
      rw [hnm] at HS
      clear hok hnm
      go_enter Tryz.func15, Tryz.ntmps15
      go_wp2_with (go_at_call 61; refine (HS.out _).mono ?_; rintro e w' ⟨rfl, rfl⟩)
      exact bodyPost_ret (v := .tuple #[.agg #[.slice none 0 0, .int .i64 0, .bool false], .int .i64 1]) (by simp [results, Tryz.results15, go_sem]) rfl ⟨_, rfl, World.ownsRow_nil _ _ _ _, (Only.refl [] w).alloc _⟩
    | true =>
      rw [hnm] at HS
      simp only [MS.readOk, hnm, Bool.true_and, Bool.and_eq_false_iff, decide_eq_false_iff_not] at hok
      clear hnm
      by_cases h1 : f < 0
      · clear hok
        go_enter Tryz.func15, Tryz.ntmps15
        go_wp2_with (go_at_call 61; refine (HS.out _).mono ?_; rintro e w' ⟨rfl, rfl⟩)
        exact bodyPost_ret (v := .tuple #[.agg #[.slice none 0 0, .int .i64 0, .bool false], .int .i64 1]) (by simp [results, Tryz.results15, go_sem]) rfl ⟨_, rfl, World.ownsRow_nil _ _ _ _, (Only.refl [] w).alloc _⟩
      · by_cases h2 : k < 1
        · clear hok
          go_enter Tryz.func15, Tryz.ntmps15
          go_wp2_with (go_at_call 61; refine (HS.out _).mono ?_; rintro e w' ⟨rfl, rfl⟩)
          exact bodyPost_ret (v := .tuple #[.agg #[.slice none 0 0, .int .i64 0, .bool false], .int .i64 1]) (by simp [results, Tryz.results15, go_sem]) rfl ⟨_, rfl, World.ownsRow_nil _ _ _ _, (Only.refl [] w).alloc _⟩
        · have h3 : k > 100 := by omega
          clear hok
          go_enter Tryz.func15, Tryz.ntmps15
          go_wp2_with (go_at_call 61; refine (HS.out _).mono ?_; rintro e w' ⟨rfl, rfl⟩)
          exact bodyPost_ret (v := .tuple #[.agg #[.slice none 0 0, .int .i64 0, .bool false], .int .i64 1]) (by simp [results, Tryz.results15, go_sem]) rfl ⟨_, rfl, World.ownsRow_nil _ _ _ _, (Only.refl [] w).alloc _⟩
  | true =>
    simp only [MS.readOk, Bool.and_eq_true, decide_eq_true_eq] at hok
    obtain ⟨⟨⟨hnm, h1⟩, h2⟩, h3⟩ := hok
    rw [hnm] at HS
    have hok : MS.readOk n f k = true := by simp [MS.readOk, hnm, h1, h2, h3]
    cases hd : (s.find n).deleted with
    | true =>
      have hR : s.readP n f k true = (PageR.zero, 23) := by unfold MS.readP; rw [readOk_is, if_neg (by rw [hok]; decide), if_pos hd]
      rw [hR]
      rw [hd] at HF
      clear hR hok hnm hd
      go_enter Tryz.func15, Tryz.ntmps15
      go_wp2_with (first
        | (go_at_call 61; refine (HS.out _).mono ?_; rintro e w' ⟨rfl, rfl⟩)
        | (go_at_call 39; refine (HF.out _ ((Only.refl _ _).alloc _)).mono ?_; rintro e w1 ⟨rfl, ho1⟩
           have hf1 := fun o i => (((Only.refl [] w1).alloc o).blk (ho1.blk (Blk.new w 60 _) (by simp)) (by simp)).free i
           have hc1 := fun o i => (((Only.refl [] w1).alloc o).blk (ho1.blk (Blk.new w 60 _) (by simp)) (by simp)).cell i))
      refine bodyPost_ret (v := .tuple #[.agg #[.slice none 0 0, .int .i64 0, .bool false], .int .i64 23]) (by simp [results, Tryz.results15, go_sem, hc1]) rfl ⟨_, rfl, World.ownsRow_nil _ _ _ _, ?hw⟩
      case hw =>
        iterate 3 (refine Only.setCell ?_ (.inr (Nat.le_refl _)) _)
        exact (((Only.refl [] w).alloc _).trans ho1).alloc _
    | false =>
      rw [hd] at HF
      by_cases h0 : (s.find n).places.length = 0
      · have hR : s.readP n f k true = (PageR.zero, 8) := by unfold MS.readP; rw [readOk_is, if_neg (by rw [hok]; decide), if_neg (by rw [hd]; decide), if_pos h0]
        rw [hR]
        rw [h0] at HF
        clear hR hok hnm hd h0
        go_enter Tryz.func15, Tryz.ntmps15
        go_wp2_with (first
          | (go_at_call 61; refine (HS.out _).mono ?_; rintro e w' ⟨rfl, rfl⟩)
          | (go_at_call 39; refine (HF.out _ ((Only.refl _ _).alloc _)).mono ?_; rintro e w1 ⟨rfl, ho1⟩
             have hf1 := fun o i => (((Only.refl [] w1).alloc o).blk (ho1.blk (Blk.new w 60 _) (by simp)) (by simp)).free i
             have hc1 := fun o i => (((Only.refl [] w1).alloc o).blk (ho1.blk (Blk.new w 60 _) (by simp)) (by simp)).cell i))
        refine bodyPost_ret (v := .tuple #[.agg #[.slice none 0 0, .int .i64 0, .bool false], .int .i64 8]) (by simp [results, Tryz.results15, go_sem, hc1]) rfl ⟨_, rfl, World.ownsRow_nil _ _ _ _, ?hw⟩
        case hw =>
          iterate 3 (refine Only.setCell ?_ (.inr (Nat.le_refl _)) _)
          exact (((Only.refl [] w).alloc _).trans ho1).alloc _
      · have hR : s.readP n f k true = pageBy StoredR.version (s.seenL n) f k true := by unfold MS.readP; rw [readOk_is, if_neg (by rw [hok]; decide), if_neg (by rw [hd]; decide), if_neg h0]
        rw [hR]
        have h0b : (((s.find n).places.length : Int) == 0) = false := by rw [beq_eq_false_iff_ne]; omega
        have HSn := Lib.hid (fun (W : World) (hw : Only [] w W) => seenL_any (h.only0 hw) hs hN n)
        have HFw := Lib.hid (fun (W : World) (v : Value) (hl : Slc W 8 v (s.seenL n).length ((s.seenL n).flatMap StoredR.cells)) => backwardV_any (f := f) (n := k) hl hlb hv)
        obtain ⟨r, hr⟩ : ∃ r, r = pageBy StoredR.version (s.seenL n) f k true := ⟨_, rfl⟩
        rw [← hr] at HFw ⊢
        obtain ⟨⟨revs, rnx, rend⟩, rerr⟩ := r
        clear hR hok hnm hd h0 hlb hv hr
        go_enter Tryz.func15, Tryz.ntmps15
        go_wp2_with (first
          | (go_at_call 61; refine (HS.out _).mono ?_; rintro e w' ⟨rfl, rfl⟩)
          | (go_at_call 39; refine (HF.out _ ((Only.refl _ _).alloc _)).mono ?_; rintro e w1 ⟨rfl, ho1⟩)
          | (go_at_call 64; refine (HSn.out _ ((((Only.refl _ _).alloc _).trans ho1).alloc _)).mono ?_; rintro e w2 ⟨v2, rfl, hown2, ho2⟩)
          | (go_at_call 62; refine (HFw.out _ _ (Slc.of_own hown2).1).mono ?_; rintro e w3 ⟨v3, rfl, hown3, ho3⟩; obtain ⟨A3, cap3, rfl, _, _⟩ := own_form hown3
             have hp := ho3.blk (ho2.blk (((Only.refl [] w1).alloc _).blk (ho1.blk (Blk.new w 60 _) (by simp)) (by simp)) (by simp)) (by simp)
             have hpc := fun i => hp.cell i
             have hpf := fun i => hp.free i))
        have hsz : w.heap.size < w2.heap.size := by have q1 := ho1.size; have q2 := ho2.size; simp at q1 q2; omega
        refine bodyPost_ret (v := .tuple #[.agg #[.slice A3 revs.length cap3, .int .i64 rnx, .bool rend], .int .i64 rerr]) (by simp [results, Tryz.results15, go_sem, hpc]) rfl ⟨_, rfl, ?own, ?hw⟩
        case own =>
          refine own_only (own_base hown3 (by omega)) (S := [w.heap.size]) ?_ (fun g hg => by have := (hown3.lt g hg).1; simp; omega)
          iterate 3 (refine Only.setCell ?_ (.inl (by simp)) _)
          exact Only.refl _ _
        case hw =>
          iterate 3 (refine Only.setCell ?_ (.inr (Nat.le_refl _)) _)
          exact (((((Only.refl [] w).alloc _).trans ho1).alloc _).trans ho2).trans ho3
end
set_option maxRecDepth 100000 in
set_option maxHeartbeats 1000000 in
theorem backward_any {w : World} {v : Value} {l : List StoredR} {f n : Int} (hl : Slc w 8 v l.length (l.flatMap StoredR.cells)) (hb : l.length ≤ 1000000) (hk : ∀ s ∈ l, 0 ≤ s.position ∧ s.position ≤ 1000000000) :
    Calls Tryz.prog 70 #[v, .int .i64 f, .int .i64 n] w (PageRet w (pageBy StoredR.position l f n true)) := by
  have HFw := Lib.hid (fun (W : World) (hW : Only [] w W) => backwardP_any (f := f) (n := n) (hl.only0 hW) hb hk)
  obtain ⟨r, hr⟩ : ∃ r, r = pageBy StoredR.position l f n true := ⟨_, rfl⟩
  rw [← hr] at HFw ⊢
  obtain ⟨⟨revs, rnx, rend⟩, rerr⟩ := r
  clear hr hl hk
  go_enter Tryz.func70, Tryz.ntmps70
  go_wp2_with (go_at_call 62; refine (HFw.out _ ((Only.refl _ _).alloc _)).mono ?_; rintro e w3 ⟨v3, rfl, hown3, ho3⟩; obtain ⟨A3, cap3, rfl, _, _⟩ := own_form hown3
               have hp := ho3.blk (Blk.new w 60 _) (by simp)
               have hpc := fun i => hp.cell i
               have hpf := fun i => hp.free i)
  have hsz : w.heap.size < w3.heap.size := by have q1 := ho3.size; simp at q1; omega
  refine bodyPost_ret (v := .tuple #[.agg #[.slice A3 revs.length cap3, .int .i64 rnx, .bool rend], .int .i64 rerr]) (by simp [results, Tryz.results70, go_sem, hpc]) rfl ⟨_, rfl, ?own, ?hw⟩
  case own =>
    refine own_only (own_base hown3 (by simp)) (S := [w.heap.size]) ?_ (fun g hg => by have := (hown3.lt g hg).1; simp at this ⊢; omega)
    iterate 3 (refine Only.setCell ?_ (.inl (by simp)) _)
    exact Only.refl _ _
  case hw =>
    iterate 3 (refine Only.setCell ?_ (.inr (Nat.le_refl _)) _)
    exact ((Only.refl [] w).alloc _).trans ho3
section
variable {a w : World} {R E : List Nat} {sb mb N : Nat} {s : MS}
set_option maxRecDepth 100000 in
set_option maxHeartbeats 2000000 in
theorem has_allB (h : HasS a w R E sb mb s N) (hN : N ≤ 100000) (f n : Int) :
    Calls Tryz.prog 17 #[.pointer (some ⟨sb, 0, none⟩), .int .i64 f, .int .i64 n, .bool true] w (PageRet w (pageBy StoredR.position s.seenAll f n true)) := by
  have hlen : s.all.length ≤ 1000000 := by have := h.ok.all; omega
  have hsl : s.seenAll.length ≤ 1000000 := by
    have : s.seenAll.length ≤ s.all.length := List.length_filter_le _ _
    omega
  have hfil : s.all.filter (fun x => !(!s.seenAt x.position)) = s.seenAll := by
    unfold MS.seenAll
    congr 1
    funext x
    simp
  have hpos : ∀ e ∈ s.seenAll, 0 ≤ e.position ∧ e.position ≤ 1000000000 := fun e he => by
    obtain ⟨i, hi, rfl⟩ := List.mem_iff_getElem.1 (List.mem_filter.1 he).1
    rw [h.inv.pos i hi]
    omega
  obtain ⟨W0, hW0⟩ : ∃ W0, W0 = (w.alloc (.cells #[.pointer (some ⟨sb, 0, none⟩)] 25)).alloc (.cells #[.slice none 0 0, .int .i64 0, .bool false] 60) := ⟨_, rfl⟩
  have hO0 : Only [] w W0 := by rw [hW0]; exact ((Only.refl [] w).alloc _).alloc _
  have hb1 : Blk W0 w.heap.size 25 #[.pointer (some ⟨sb, 0, none⟩)] := by rw [hW0]; exact ((Only.refl [] _).alloc _).blk (Blk.new w _ _) (by simp)
  have hb2 : Blk W0 (w.heap.size + 1) 60 #[.slice none 0 0, .int .i64 0, .bool false] := by
    rw [hW0]
    have := Blk.new (w.alloc (.cells #[.pointer (some ⟨sb, 0, none⟩)] 25)) 60 #[.slice none 0 0, .int .i64 0, .bool false]
    simpa using this
  have hsz0 : W0.heap.size = w.heap.size + 2 := by rw [hW0]; simp
  have hc0 := hb1.cell 0
  have h0 := h.keep hO0
  have HE := Lib.hid (has_every h0 hN)
  have HFo := Lib.hid (fun (W : World) (v : Value) (hl : Slc W 8 v s.seenAll.length (s.seenAll.flatMap StoredR.cells)) => backward_any (f := f) (n := n) hl hsl hpos)
  obtain ⟨r, hr⟩ : ∃ r, r = pageBy StoredR.position s.seenAll f n true := ⟨_, rfl⟩
  rw [← hr] at HFo ⊢
  obtain ⟨⟨revs, rnx, rend⟩, rerr⟩ := r
  clear hr hpos
  have HW := Lib.hid hW0
  clear hW0
  go_enter Tryz.func17, Tryz.ntmps17
  go_wp2_with fail
  rw [← HW.out]
  refine HE.out.mono ?_
  rintro e w1 ⟨v1, rfl, hown1, ho1⟩
  have h1 := h0.ownR ho1 hown1
  have hlt1 := hown1.lt
  obtain ⟨V1, hV1⟩ : ∃ V1, V1 = v1.ownBlock.toList := ⟨_, rfl⟩
  have hge : ∀ g ∈ V1, W0.heap.size ≤ g := fun g hg => (hlt1 g (by rw [hV1] at hg; simpa using hg)).1
  have n1 : w.heap.size ∉ V1 := fun q => by have := hge _ q; omega
  have n2 : w.heap.size + 1 ∉ V1 := fun q => by have := hge _ q; omega
  have hJ : Judges V1 w1 (.pointer (some ⟨w.heap.size, 0, none⟩)) (fun x => !s.seenAt x.position) := fun W hW x =>
    all1_any (h1.turn hW (fun g hg => by rw [hV1] at hg; simp at hg ⊢; exact .inl hg)) hN (hW.blk (ho1.blk hb1 (by simp)) n1) x
  rw [hV1] at hJ
  have hD := deleteSt_any hown1 hlen hJ
  rw [hfil, ← hV1] at hD
  have HD := Lib.hid hD
  have hb3 := ho1.blk hb2 (by simp)
  clear hD hJ h1 HE h0 hc0 hb1 hlt1 hown1
  go_wp2_with fail
  refine HD.out.mono ?_
  rintro e w2 ⟨v2, rfl, hown2, ho2⟩
  have hb4 := ho2.blk hb3 n2
  have hs2 := (Slc.of_own hown2).1
  have HF2 := Lib.hid (HFo.out w2 v2 hs2)
  clear hs2
  go_wp2_with (go_at_call 70; refine HF2.out.mono ?_; rintro e w3 ⟨v3, rfl, hown3, ho3⟩; obtain ⟨A3, cap3, rfl, _, _⟩ := own_form hown3
               have hp := ho3.blk hb4 (by simp)
               have hpc := fun i => hp.cell i
               have hpf := fun i => hp.free i)
  have z1 := ho1.size
  have z2 := ho2.size
  refine bodyPost_ret (v := .tuple #[.agg #[.slice A3 revs.length cap3, .int .i64 rnx, .bool rend], .int .i64 rerr]) (by simp [results, Tryz.results17, go_sem, hpc]) rfl ⟨_, rfl, ?own, ?hw⟩
  case own =>
    refine own_only (own_base hown3 (by omega)) (S := [w.heap.size + 1]) ?_ (fun g hg => by have := (hown3.lt g hg).1; simp; omega)
    iterate 3 (refine Only.setCell ?_ (.inl (by simp)) _)
    exact Only.refl _ _
  case hw =>
    iterate 3 (refine Only.setCell ?_ (.inr (by simp)) _)
    exact ((hO0.trans ho1).step ho2 (fun g hg => .inr (by have := hge g hg; omega))).trans ho3
end
end Go.Proofs.YtikboecmcbcghaaGreat
/- Contracts: keys of a map with texts as keys, collected; Grow of nil; Concat of two lists of texts. -/
set_option linter.unusedVariables false
set_option linter.unusedSimpArgs false
namespace Go.Proofs.YtikboecmcbcghaaGreat
open Go.RowKit Go.MapKept Go.Maps Go.WideMaps Go.Sort
open Go.WideElems (Fit rd rg pl rd_mk rg_of)
/-- How an element reads where nobody looks at it. -/
def blind (_ : Value) : Option (DataW Unit × List MemPlace) := some (.nil, [])
theorem MapIs.owns {P : Program} {k : TypeId} (hk : P.underlying k = some .string) {w : World} {b : Nat} {kv : List (ByteArray × Value)} (h : MapIs Value.string w b kv) (hn : kv.length ≤ maxLen) (hs : ∀ p ∈ kv, p.1.size ≤ maxLen) :
    ∃ D0 : DataW Unit, w.ownsMap P k blind b kv.length D0 ∧ (strKeys D0).Perm (kv.map fun p => p.1.data.toList) ∧ Maps.size D0 = kv.length := by
  obtain ⟨es, clock, hb, hst, hm⟩ := h
  have hl : es.size = kv.length := by have := congrArg List.length hm; simpa using this
  have hx : ∀ x ∈ es.toList, ∃ s : ByteArray, x.key = .string s ∧ s.size ≤ maxLen := by
    intro x hx
    have : (x.key, x.val) ∈ kv.map (fun p => (Value.string p.1, p.2)) := by rw [← hm]; exact List.mem_map.2 ⟨x, hx, rfl⟩
    obtain ⟨p, hp, e⟩ := List.mem_map.1 this
    simp only [Prod.mk.injEq] at e
    exact ⟨p.1, e.1.symm, hs p hp⟩
  have hr : ∀ x ∈ es.toList, ∀ s, x.key = .string s → s.size ≤ maxLen → rg P k blind x = (.string s.data.toList, .nil) := by
    intro x _ s e h1
    have h2 := rd_mk (R := blind) (val := x.val) (born := x.born) (keyOf_string_mk hk h1) (rfl : blind x.val = some (.nil, []))
    rw [← e] at h2
    exact rg_of h2
  refine ⟨_, ⟨es, clock, hb, ⟨by omega, hst, ?_⟩, by omega, rfl⟩, ?_, ?_⟩
  · intro x hx'
    obtain ⟨s, e, h1⟩ := hx x hx'
    refine ⟨(.string s.data.toList, .nil), ?_⟩
    have h2 := rd_mk (R := blind) (val := x.val) (born := x.born) (keyOf_string_mk hk h1) (rfl : blind x.val = some (.nil, []))
    rw [← e] at h2
    exact h2
  · refine ((WideShapes.sorted_perm _).map _).trans ?_
    have e1 : (es.toList.map (rg P k blind)).map (fun p => strOf p.1) = kv.map fun p => p.1.data.toList := by
      apply List.ext_getElem?
      intro i
      have hi := congrArg (fun l => l[i]?) hm
      simp only [List.getElem?_map] at hi ⊢
      cases h1 : es.toList[i]? with
      | none =>
        rw [h1] at hi
        cases h2 : kv[i]? with
        | none => rfl
        | some p => rw [h2] at hi; simp at hi
      | some x =>
        rw [h1] at hi
        cases h2 : kv[i]? with
        | none => rw [h2] at hi; simp at hi
        | some p =>
          rw [h2] at hi
          simp only [Option.map_some, Option.some.injEq, Prod.mk.injEq] at hi
          have hp : p.1.size ≤ maxLen := hs p (List.mem_of_getElem? h2)
          have := hr x (List.mem_of_getElem? h1) p.1 hi.1 hp
          simp [this, strOf]
    rw [e1]
  · show (List.foldr DataW.insert [] (es.toList.map (rg P k blind))).length = _
    rw [(WideShapes.sorted_perm _).length_eq]
    simp [hl]
theorem strs_of (l : List (List UInt8)) : (l.map encStr) = strs (l.map fun x => ⟨x.toArray⟩) := by
  simp [strs, encStr]
theorem keysM_any (mb : Option Nat) (W : World) : Calls Tryz.prog 34 #[.map mb] W fun e w' => e = .returned (.func (.func 102) #[] #[.pointer (some ⟨W.heap.size, 0, none⟩)]) ∧ w' = W.alloc (.cells #[.map mb] 75) := callsIn_wide.1 (Tryz.maps_Keys_34 mb W)
set_option maxHeartbeats 1000000 in
theorem collectS_any {w : World} {Bm b : Nat} {kv : List (ByteArray × Value)} (hc : w.cell? ⟨Bm, 0, none⟩ = some (.map (some b))) (h : MapIs Value.string w b kv) (hn : kv.length ≤ 1000000) (hs : ∀ p ∈ kv, p.1.size ≤ maxLen) :
    Calls Tryz.prog 33 #[.func (.func 102) #[] #[.pointer (some ⟨Bm, 0, none⟩)]] w fun e w' => ∃ v, ∃ ns : List ByteArray, e = .returned v ∧ w'.ownsRow w.heap.size 9 1 v ns.length (strs ns) ∧ ns.length ≤ 1000000 ∧ Only [] w w' := by
  obtain ⟨D0, hown, hperm, hsz⟩ := h.owns (P := Tryz.prog) (k := 9) Tryz.underlying9 (by unfold maxLen; omega) hs
  have hBm : Bm < w.heap.size := block_lt_of_cell hc
  have hseq : SeqGives Fence.wide 3 Tryz.prog 102 #[.pointer (some ⟨Bm, 0, none⟩)] encStr (fun ss => ss.Perm (strKeys D0)) (Maps.size D0) w :=
    AnyZ.keys_gives (ρ := Tryz.keys34_ren) { Tryz.keys34 with } Fence.wide _ trivial rfl (by omega) Bm b kv.length D0 _ hBm hc hown
  have hcol := callsIn_wide.1 (AnyZ.collect_in Tryz.collectK Fence.wide 5 trivial trivial rfl (by omega) 102 #[.pointer (some ⟨Bm, 0, none⟩)] trivial (enters_of Tryz.func102 (by kernel_rfl) rfl) _ _ (by rw [hsz]; unfold maxLen; omega) (by rw [hsz]; omega) w hseq)
  refine hcol.mono ?_
  rintro e w' ⟨v, ss, rfl, hS, hrow, _, hb⟩
  refine ⟨v, ss.map fun x => ⟨x.toArray⟩, rfl, ?_, ?_, Only.of_below hb (Nat.le_refl _)⟩
  · rw [strs_of] at hrow
    rw [List.length_map]
    exact hrow
  · rw [List.length_map, (hS.trans hperm).length_eq, List.length_map]
    exact hn
theorem run_append_none {P : Program} (w : World) (t e ty : TypeId) (A : Option Addr) (size n cap m c : Nat) (ht : P.underlying t = some (.slice e)) (hs : (Go.sizeOf e).run P w = .ok size w) (hnc : n ≤ cap) (hm : m = 0) :
    (Builtin.append_ #[t, t] ty #[.slice A n cap, .slice none m c]).run P w = .ok (.slice A n cap) w := by
  subst hm
  exact run_append_nothing w t e ty A size n cap c ht hs hnc
theorem infoSg : (Tryz.prog.info? 9).map (fun i => (i.zero, i.size, i.bytes)) = some (some (.string ⟨#[]⟩), 1, 16) := by kernel_rfl
theorem sizeSgV (w : World) : (Go.sizeOf 9).run Tryz.prog w = .ok 1 w := by kernel_rfl
set_option maxRecDepth 100000 in
theorem growS_any (w : World) (n : Nat) (hn : n ≤ 2000000) : Calls Tryz.prog 100 #[.slice none 0 0, .int .i64 n] w fun e w' => ∃ v, e = .returned v ∧ w'.ownsRow w.heap.size 9 1 v 0 [] ∧ Only [] w w' := by
  obtain ⟨i0, hi, hz0, hz1, hz2⟩ := info_parts infoSg
  by_cases h0 : n = 0
  · subst h0
    go_enter Tryz.func100, Tryz.ntmps100
    go_wp2
    go_ret
    exact ⟨_, rfl, World.ownsRow_nil _ _ _ _, Only.refl _ _⟩
  · have hpos : 0 < n := by omega
    have hposi : (0 : Int) < n := by omega
    have happ := fun ty => Lib.run_append_nil_zeros (P := Tryz.prog) w 41 3 ty 9 i0 (.string ⟨#[]⟩) .i64 .i64 Tryz.underlying41 Tryz.underlying3 hi hz0 n hpos (by omega) (by omega) (by rw [hz2]; omega)
    have hge := grownCap_ge w n 0 9
    have hle := grownCap_le_maxLen w n 0 9 (by unfold maxLen; omega)
    go_enter Tryz.func100, Tryz.ntmps100
    go_wp2_with (at_builtin; refine Lib.wpList_append_run _ rfl (.tmp 20) (.tmp 21) 41 3 rfl _ _ rfl rfl _ _ (happ _) ?_)
    go_ret
    refine ⟨_, rfl, ⟨rfl, .inr ⟨w.heap.size, grownCap w n 0 9, _, rfl, Nat.le_refl _, Blk.new w 9 _, Nat.zero_le _, hle, ?_, by simp⟩⟩, ((Only.refl [] w).alloc _).drew⟩
    simp [Builtin.zeroCells]
    omega
set_option maxRecDepth 100000 in
set_option maxHeartbeats 2000000 in
theorem concatS_any {w : World} {g : Nat} {v1 v2 : Value} {ns ms : List ByteArray} (hB : Blk w g 41 #[v1, v2]) (h1 : Slc w 1 v1 ns.length (strs ns)) (h2 : Slc w 1 v2 ms.length (strs ms)) (b1 : ns.length ≤ 1000000) (b2 : ms.length ≤ 1000000) :
    Calls Tryz.prog 32 #[.slice (some ⟨g, 0, none⟩) 2 2] w fun e w' => ∃ v, e = .returned v ∧ w'.ownsRow w.heap.size 9 1 v (ns ++ ms).length (strs (ns ++ ms)) ∧ Only [] w w' := by
  obtain ⟨i0, hi, hz0, hz1, hz2⟩ := info_parts infoSg
  obtain ⟨A1, c1, hv1, p1, p2, p3, p4⟩ := h1.cell
  obtain ⟨A2, c2, hv2, q1, q2, q3, q4⟩ := h2.cell
  subst hv1 hv2
  have hg := hB.lt
  have d0 : w.cell? ⟨g, 0, none⟩ = some (.slice A1 ns.length c1) := hB.cell 0
  have d1 : w.cell? ⟨g, 1, none⟩ = some (.slice A2 ms.length c2) := hB.cell 1
  unfold maxLen at p2 q2
  have HG := Lib.hid (fun (n : Nat) (hn : n ≤ 2000000) => growS_any w n hn)
  go_enter Tryz.func32, Tryz.ntmps32
  go_wp2
  go_loopw [3, 11] (fun sz i wr => ∃ k : Nat, k ≤ 2 ∧ i = .int .i64 k ∧ sz = .int .i64 ((if k = 0 then 0 else if k = 1 then ns.length else ns.length + ms.length : Nat) : Int) ∧ wr = w) (fun _ i _ => 2 - (intOf i).toNat)
  case atStart => exact ⟨0, by omega, rfl, rfl, rfl⟩
  case round =>
    obtain ⟨k, hk, rfl, rfl, hwr⟩ := hrel
    have hwr' := hwr.symm
    subst hwr'
    rcases (by omega : k = 0 ∨ k = 1 ∨ k = 2) with rfl | rfl | rfl
    · go_wp2
      exact ⟨⟨1, by omega, rfl, by simp, trivial⟩, by simp [intOf]⟩
    · go_wp2
      exact ⟨⟨2, by omega, rfl, by simp, trivial⟩, by simp [intOf]⟩
    · have hgr := growS_any w (ns.length + ms.length) (by omega)
      rw [Int.natCast_add] at hgr
      have HGr := Lib.hid hgr
      go_wp2_with (go_at_call 100; refine HGr.out.mono ?_; rintro e w1 ⟨v0, rfl, hown0, ho0⟩)
      go_loopw [6, 27] (fun o i wx => ∃ k : Nat, k ≤ 2 ∧ i = .int .i64 k ∧ Only [] w wx ∧ wx.ownsRow w.heap.size 9 1 o (if k = 0 then [] else if k = 1 then ns else ns ++ ms).length (strs (if k = 0 then [] else if k = 1 then ns else ns ++ ms))) (fun _ i _ => 2 - (intOf i).toNat)
      case atStart => exact ⟨0, by omega, rfl, ho0, hown0⟩
      case round =>
        obtain ⟨k, hk, rfl, hO, hown⟩ := hrel
        obtain ⟨Ao, co, rfl, hco1, hco2⟩ := own_form hown
        have e0 : wr.cell? ⟨g, 0, none⟩ = some (.slice A1 ns.length c1) := (hO.cell hg (by simp)).trans d0
        have e1 : wr.cell? ⟨g, 1, none⟩ = some (.slice A2 ms.length c2) := (hO.cell hg (by simp)).trans d1
        rcases (by omega : k = 0 ∨ k = 1 ∨ k = 2) with rfl | rfl | rfl
        · simp only [if_true] at hown hco1 ⊢
          cases A1 with
          | none =>
            have hn0 : ns = [] := by
              rcases p4 with q | ⟨_, _, q, _⟩
              · exact List.length_eq_zero_iff.1 q
              · cases q
            have HN0 := Lib.hid hn0
            have HAp := Lib.hid (fun ty => run_append_none wr 41 9 ty Ao 1 (([] : List ByteArray)).length co (ns).length c1 Tryz.underlying41 (sizeSgV _) hco1 (by rw [hn0]; rfl))
            clear hn0
            have hown2 : wr.ownsRow w.heap.size 9 1 (.slice Ao (([] : List ByteArray)).length co) (([] : List ByteArray) ++ ns).length (strs (([] : List ByteArray) ++ ns)) := by
              rw [HN0.out, List.append_nil]
              exact hown
            have HO2 := Lib.hid hown2
            clear hown2
            go_wp2_with (at_builtin; refine Lib.wpList_append_run _ rfl (.tmp 31) (.tmp 32) 41 41 rfl _ _ rfl rfl _ _ (HAp.out _) ?_)
            exact ⟨⟨1, by omega, rfl, hO, by simpa using HO2.out⟩, by simp [intOf]⟩
          | some ad =>
            obtain ⟨bs, os, sp⟩ := ad
            have hcell : ∀ j u, (strs ns)[j]? = some u → wr.cell? ((⟨bs, os, sp⟩ : Addr).add j) = some u := by
              intro j u hu
              have hj : j < (strs ns).length := (List.getElem?_eq_some_iff.1 hu).1
              rcases p4 with q | ⟨b', off', q, hb', hcc⟩
              · rw [p3] at hj; omega
              · cases q
                have := hcc j hj
                rw [hu] at this
                rw [show ((⟨bs, os, none⟩ : Addr).add j) = ⟨bs, os + j, none⟩ by simp [Addr.add]]
                exact (hO.cell hb' (by simp)).trans this
            have HCell := Lib.hid hcell
            clear hcell
            go_wp2_with (at_builtin; refine wpList_append_own _ rfl (.tmp 31) (.tmp 32) 41 rfl w.heap.size 9 i0 (.string ⟨#[]⟩) 1 16 Tryz.underlying41 hi hz0 hz1 hz2 rfl (by decide) (.slice Ao (([] : List ByteArray)).length co) (([] : List ByteArray)).length _ rfl hown ⟨bs, os, sp⟩ (ns).length c1 (strs ns) rfl (by simp [strs]) HCell.out ?c2 ?c3 ?c4 ?c5 ?_)
            case c2 =>
              intro u hu
              obtain ⟨x, _, rfl⟩ := List.mem_map.1 hu
              rfl
            case c3 => unfold maxLen; (try simp); omega
            case c4 => (try simp); omega
            case c5 => exact hO.size
            intro v' w4 hown' hgrow _
            have ho4 : Only [] w w4 := hO.grown hgrow (fun k hk => .inr (hown.lt k hk).1)
            have hown2 : w4.ownsRow w.heap.size 9 1 v' (([] : List ByteArray) ++ ns).length (strs (([] : List ByteArray) ++ ns)) := by
              rw [show strs (([] : List ByteArray) ++ ns) = strs (([] : List ByteArray)) ++ strs (ns) by simp [strs], List.length_append]
              first | exact hown' | simpa using hown'
            have HO2 := Lib.hid hown2
            clear hgrow hown' hown2
            go_wp2
            exact ⟨⟨1, by omega, rfl, ho4, by simpa using HO2.out⟩, by simp [intOf]⟩
        · simp only [Nat.one_ne_zero, if_false, if_true] at hown hco1 ⊢
          cases A2 with
          | none =>
            have hn0 : ms = [] := by
              rcases q4 with q | ⟨_, _, q, _⟩
              · exact List.length_eq_zero_iff.1 q
              · cases q
            have HN0 := Lib.hid hn0
            have HAp := Lib.hid (fun ty => run_append_none wr 41 9 ty Ao 1 (ns).length co (ms).length c2 Tryz.underlying41 (sizeSgV _) hco1 (by rw [hn0]; rfl))
            clear hn0
            have hown2 : wr.ownsRow w.heap.size 9 1 (.slice Ao (ns).length co) (ns ++ ms).length (strs (ns ++ ms)) := by
              rw [HN0.out, List.append_nil]
              exact hown
            have HO2 := Lib.hid hown2
            clear hown2
            go_wp2_with (at_builtin; refine Lib.wpList_append_run _ rfl (.tmp 31) (.tmp 32) 41 41 rfl _ _ rfl rfl _ _ (HAp.out _) ?_)
            exact ⟨⟨2, by omega, rfl, hO, by simpa using HO2.out⟩, by simp [intOf]⟩
          | some ad =>
            obtain ⟨bs, os, sp⟩ := ad
            have hcell : ∀ j u, (strs ms)[j]? = some u → wr.cell? ((⟨bs, os, sp⟩ : Addr).add j) = some u := by
              intro j u hu
              have hj : j < (strs ms).length := (List.getElem?_eq_some_iff.1 hu).1
              rcases q4 with q | ⟨b', off', q, hb', hcc⟩
              · rw [q3] at hj; omega
              · cases q
                have := hcc j hj
                rw [hu] at this
                rw [show ((⟨bs, os, none⟩ : Addr).add j) = ⟨bs, os + j, none⟩ by simp [Addr.add]]
                exact (hO.cell hb' (by simp)).trans this
            have HCell := Lib.hid hcell
            clear hcell
            go_wp2_with (at_builtin; refine wpList_append_own _ rfl (.tmp 31) (.tmp 32) 41 rfl w.heap.size 9 i0 (.string ⟨#[]⟩) 1 16 Tryz.underlying41 hi hz0 hz1 hz2 rfl (by decide) (.slice Ao (ns).length co) (ns).length _ rfl hown ⟨bs, os, sp⟩ (ms).length c2 (strs ms) rfl (by simp [strs]) HCell.out ?c2 ?c3 ?c4 ?c5 ?_)
            case c2 =>
              intro u hu
              obtain ⟨x, _, rfl⟩ := List.mem_map.1 hu
              rfl
            case c3 => unfold maxLen; (try simp); omega
            case c4 => (try simp); omega
            case c5 => exact hO.size
            intro v' w4 hown' hgrow _
            have ho4 : Only [] w w4 := hO.grown hgrow (fun k hk => .inr (hown.lt k hk).1)
            have hown2 : w4.ownsRow w.heap.size 9 1 v' (ns ++ ms).length (strs (ns ++ ms)) := by
              rw [show strs (ns ++ ms) = strs (ns) ++ strs (ms) by simp [strs], List.length_append]
              first | exact hown' | simpa using hown'
            have HO2 := Lib.hid hown2
            clear hgrow hown' hown2
            go_wp2
            exact ⟨⟨2, by omega, rfl, ho4, by simpa using HO2.out⟩, by simp [intOf]⟩
        · go_wp2
          go_ret
          exact ⟨_, rfl, hown, hO⟩
theorem concatS_some {w : World} {g : Nat} {v1 v2 : Value} {ns ms : List ByteArray} (hB : Blk w g 41 #[v1, v2]) (h1 : Slc w 1 v1 ns.length (strs ns)) (h2 : Slc w 1 v2 ms.length (strs ms)) (b1 : ns.length ≤ 1000000) (b2 : ms.length ≤ 1000000) :
    Calls Tryz.prog 32 #[.slice (some ⟨g, 0, none⟩) 2 2] w fun e w' => ∃ v, ∃ l : List ByteArray, e = .returned v ∧ w'.ownsRow w.heap.size 9 1 v l.length (strs l) ∧ l.length ≤ 2000000 ∧ Only [] w w' :=
  (concatS_any hB h1 h2 b1 b2).mono fun e w' ⟨v, q1, q2, q3⟩ => ⟨v, _, q1, q2, by rw [List.length_append]; omega, q3⟩
end Go.Proofs.YtikboecmcbcghaaGreat
/- States beside each other; the names of a state's map; contract: Copy. -/
set_option linter.unusedVariables false
set_option linter.unusedSimpArgs false
namespace Go.Proofs.YtikboecmcbcghaaGreat
open Go.RowKit Go Go.Sort
/-- The names that a state's map holds: few, and short. -/
structure MS.Few (s : MS) (N : Nat) : Prop where
  len : s.m.length ≤ N
  short : ∀ p ∈ s.m, p.1.size ≤ 60
theorem few_new : MS.new.Few 0 := ⟨Nat.le_refl _, fun p hp => by cases hp⟩
theorem few_do {s : MS} {N : Nat} (h : s.Few N) (c : Cmd) : (s.do c).2.Few (N + 1) := by
  have hbase : ∀ t : MS, t.m = s.m → t.Few (N + 1) := fun t ht => ⟨by rw [ht]; exact Nat.le_succ_of_le h.len, by rw [ht]; exact h.short⟩
  by_cases hk : c.check = 0
  · by_cases hq : c.kind = 4 ∨ c.kind = 5
    · have e : (s.do c).2 = s.tick c.time := by
        unfold MS.do
        rw [if_neg (by simp [hk])]
        dsimp only
        rw [if_pos hq]
      rw [e]
      exact hbase _ rfl
    · have hn : nameOk c.stream = true := by
        unfold Cmd.check at hk
        split at hk
        · cases hk
        · rename_i q1
          split at hk
          · cases hk
          · rename_i q2
            cases hb : nameOk c.stream with
            | true => rfl
            | false => exact absurd ⟨by omega, hb⟩ q2
      have hsz : c.stream.size ≤ 60 := by
        simp [nameOk] at hn
        exact hn.1.2
      have hput : ∀ y, (aput s.m c.stream y).length ≤ N + 1 ∧ ∀ p ∈ aput s.m c.stream y, p.1.size ≤ 60 := fun y => by
        refine ⟨?_, fun p hp => ?_⟩
        · have := h.len
          rw [length_aput]
          split <;> omega
        · rcases aput_mem hp with rfl | hp
          · exact hsz
          · exact h.short p hp
      rcases do_shape s c with ⟨h1, _⟩ | ⟨y, h1, _⟩
      · exact hbase _ h1
      · exact ⟨by rw [h1]; exact (hput y).1, by rw [h1]; exact (hput y).2⟩
  · have e : (s.do c).2 = s := by
      unfold MS.do
      rw [if_pos (by simpa using hk)]
    rw [e]
    exact hbase _ rfl
section
variable {w w' : World} {M M' S : List Nat} {sb mb : Nat} {av : Value} {pf : ByteArray → Value} {s : MS}
/-- A state beside what turned; more blocks may turn from now on. -/
theorem StAt.beside (h : StAt w M sb mb av pf s) (k : Only S w w') (hS : ∀ g ∈ S, g ∈ M) (hd : ∀ g ∈ hM sb mb av, g ∉ S) (hM' : ∀ g ∈ M', g ∈ M ∨ w.heap.size ≤ g) (hin : ∀ g ∈ M, g ∈ M') (hlt : ∀ g ∈ M', g < w'.heap.size) : StAt w' M' sb mb av pf s := by
  refine ⟨k.blk h.blk (hd sb (by simp [hM])), own_only h.own k (fun g hg => hd g (by simp [hM, hg])), h.map.only k (hd mb (by simp [hM])), fun n x hx => ?_, ⟨hin _ h.inM.1, hin _ h.inM.2.1, fun g hg => hin _ (h.inM.2.2 g hg)⟩, hlt⟩
  exact ((h.pl n x hx).ext hM').only k (fun g hg => hin g (hS g hg))
theorem cloneMap_any {b : Nat} {kv : List (ByteArray × Value)} (h : MapIs Value.string w b kv) :
    Calls Tryz.prog 29 #[.map (some b)] w fun e w' => ∃ o, e = .returned (.map (some w.heap.size)) ∧ w' = w.alloc o ∧ MapIs Value.string w' w.heap.size kv := by
  obtain ⟨es, clock, hb, hs, hm⟩ := h
  refine (AnyW.maps_Clone Tryz.cloneM b es clock w hb).mono fun e w' ⟨he, hw⟩ => ?_
  subst hw
  exact ⟨_, he, rfl, es, clock, heap_alloc_new w _, hs, hm⟩
set_option maxRecDepth 100000 in
set_option maxHeartbeats 2000000 in
theorem copy_any (h : StAt w M sb mb av pf s) (hs : s.all.length ≤ 1000000) :
    Calls Tryz.prog 8 #[.pointer (some ⟨sb, 0, none⟩)] w fun e w' => ∃ sb' mb' av', e = .returned (.pointer (some ⟨sb', 0, none⟩)) ∧ StAt w' (hM sb' mb' av' ++ M) sb' mb' av' pf s ∧ (∀ g ∈ hM sb' mb' av', w.heap.size ≤ g ∧ g < w'.heap.size) ∧ Only [] w w' := by
  have hsl := (Slc.of_own h.own).1
  obtain ⟨A2, cap2, rfl, hnc2, hcm2, hel2⟩ := h.cell
  unfold maxLen at hcm2
  have hlb := h.blk.lt
  have c0 : w.cell? ⟨sb, 0, none⟩ = some (.slice A2 s.all.length cap2) := h.blk.cell 0
  have c1 : w.cell? ⟨sb, 1, none⟩ = some (.map (some mb)) := h.blk.cell 1
  have c2 : w.cell? ⟨sb, 2, none⟩ = some (.int .i64 s.done) := h.blk.cell 2
  have c3 : w.cell? ⟨sb, 3, none⟩ = some (.int .i64 s.now) := h.blk.cell 3
  have k0 := Kept.cell (a := w) (R := []) c0 (.inl hlb)
  have k1 := Kept.cell (a := w) (R := []) c1 (.inl hlb)
  have k2 := Kept.cell (a := w) (R := []) c2 (.inl hlb)
  have k3 := Kept.cell (a := w) (R := []) c3 (.inl hlb)
  have HC := Lib.hid (fun (W : World) (hW : Only [] w W) => cloneS_any (hsl.only0 hW) (by omega))
  have HM := Lib.hid (fun (W : World) (hW : Only [] w W) => cloneMap_any (h.map.only hW (by simp)))
  clear hel2 c0 c1 c2 c3 hsl
  go_enter Tryz.func8, Tryz.ntmps8
  go_wp2_with fail
  refine wp_region_stages (C := fun W => ∃ p : Kept w [] w, W = p.W) [([0, 1, 2, 3, 5, 6, 7, 8, 10, 11, 12, 13, 14, 15, 16, 17], [4, 9, 18, 19])] [20] (by kernel_rfl) (by kernel_rfl) (by intro c d u a w h; cases d <;> exact h) ⟨⟨_, (Keeps.refl _ _ _).drew⟩, rfl⟩ ?_
  refine stagesFirst ?_
  show wpQuiet _ _ _ _ [_, _, _, _, _, _, _, _, _, _, _, _, _, _, _, _] _
  repeat (go_big_quiet_step (fail))
  refine wpQuiet_nil ?_
  show wpList _ _ _ [_] _ _
  go_wp2_with (go_at_call 28; refine (HC.out _ (Only.refl _ _).drew).mono ?_; rintro e w2 ⟨v2, rfl, hown2, ho2⟩; obtain ⟨A3, cap3, rfl, _, _⟩ := own_form hown2)
  have hK : Keeps w [] w w2 := (Keeps.refl _ _ _).drew.then0 ho2
  refine check_kept hK ?_
  show wpList _ _ _ [_] _ _
  go_wp2_with (go_at_call 29; refine (HM.out _ ((Only.refl _ _).drew.trans ho2)).mono ?_; rintro e w3 ⟨o3, rfl, rfl, hm3⟩)
  refine check_kept (hK.alloc _) ?_
  show wpList _ _ _ [_] _ _
  go_wp2_with fail
  refine check_kept (hK.alloc _) ?_
  show wpList _ _ _ [_] _ _
  go_wp2_with fail
  refine check_kept ((hK.alloc _).alloc _) ?_
  refine stagesEnd ?_
  show wpList _ _ _ [_] _ _
  go_wp2
  go_ret
  have hO2 : Only [] w w2 := (Only.refl [] w).drew.trans ho2
  have hO3 : Only [] w (w2.alloc o3) := hO2.alloc o3
  have hz2 : w.heap.size ≤ w2.heap.size := hO2.size
  have hown3 : ((w2.alloc o3).alloc (.cells #[.slice A3 s.all.length cap3, .map (some w2.heap.size), .int .i64 s.done, .int .i64 s.now] 77)).ownsRow w.heap.size 66 8 (.slice A3 s.all.length cap3) s.all.length (s.all.flatMap StoredR.cells) :=
    own_only hown2 (((Only.refl [] w2).alloc _).alloc _) (by simp)
  have hfr : ∀ g ∈ hM (w2.heap.size + 1) w2.heap.size (.slice A3 s.all.length cap3), w.heap.size ≤ g ∧ g < w2.heap.size + 2 := by
    intro g hg
    simp only [hM, List.mem_cons, Option.mem_toList] at hg
    rcases hg with rfl | rfl | hg
    · omega
    · omega
    · have := hown2.lt g hg
      simp at this
      omega
  refine ⟨w2.heap.size + 1, w2.heap.size, .slice A3 s.all.length cap3, by simp, ?_, fun g hg => ?_, hO3.alloc _⟩
  · refine ⟨?_, own_base hown3 (Nat.zero_le _), hm3.only ((Only.refl [] _).alloc _) (by simp), fun n x hx => ?_, ⟨by simp [hM], by simp [hM], fun g hg => List.mem_append_left _ (by simp only [hM, List.mem_cons, Option.mem_toList]; exact .inr (.inr hg))⟩, fun g hg => ?_⟩
    · have := Blk.new (w2.alloc o3) 77 #[.slice A3 s.all.length cap3, .map (some w2.heap.size), .int .i64 s.done, .int .i64 s.now]
      simpa using this
    · refine ((h.pl n x hx).ext (M' := hM (w2.heap.size + 1) w2.heap.size (.slice A3 s.all.length cap3) ++ M) fun g hg => ?_).only0 (hO3.alloc _)
      rcases List.mem_append.1 hg with q | q
      · exact .inr (hfr g q).1
      · exact .inl q
    · rcases List.mem_append.1 hg with q | q
      · have := hfr g q
        simp
        omega
      · have := h.mlt g q
        simp
        omega
  · have := hfr g hg
    simp
    omega
end
end Go.Proofs.YtikboecmcbcghaaGreat
/- Contract: Same, of two states in memory that are one and the same state. -/
set_option linter.unusedVariables false
set_option linter.unusedSimpArgs false
namespace Go.Proofs.YtikboecmcbcghaaGreat
open Go.RowKit Go Go.Sort
theorem stagesDone3 {P : Program} {C : World → Prop} {Q : Exit → Act → World → Prop} {l : List Oper} {a : Act} {w : World} (h : Q .normal a w) : wpT1 P l.toArray C Q (opsAt l []) (wpStages P l C Q (fun a w => wpList P l.toArray Q (opsAt l []) a w) []) a w := h
section
variable {w : World} {M1 M2 : List Nat} {sb1 mb1 sb2 mb2 N : Nat} {av1 av2 : Value} {pf1 pf2 : ByteArray → Value} {s : MS}
set_option maxRecDepth 100000 in
set_option maxHeartbeats 4000000 in
theorem same_any (h1 : StAt w M1 sb1 mb1 av1 pf1 s) (h2 : StAt w M2 sb2 mb2 av2 pf2 s) (hs : s.Ok N) (hf : s.Few N) (hN : N ≤ 100000) :
    Calls Tryz.prog 9 #[.pointer (some ⟨sb1, 0, none⟩), .pointer (some ⟨sb2, 0, none⟩)] w fun e w' => e = .returned (.bool true) ∧ Only [] w w' := by
  have hal := hs.all
  have hml := hf.len
  have hsl1 := (Slc.of_own h1.own).1
  have hsl2 := (Slc.of_own h2.own).1
  obtain ⟨A1, cap1, rfl, hnc1, hcm1, _⟩ := h1.cell
  obtain ⟨A2, cap2, rfl, hnc2, hcm2, _⟩ := h2.cell
  unfold maxLen at hcm1 hcm2
  have hb1 := h1.blk.lt
  have hb2 := h2.blk.lt
  have k0 := Kept.cell (a := w) (R := []) (h1.blk.cell 0) (.inl hb1)
  have k1 := Kept.cell (a := w) (R := []) (h1.blk.cell 1) (.inl hb1)
  have k2 := Kept.cell (a := w) (R := []) (h1.blk.cell 2) (.inl hb1)
  have k3 := Kept.cell (a := w) (R := []) (h1.blk.cell 3) (.inl hb1)
  have l0 := Kept.cell (a := w) (R := []) (h2.blk.cell 0) (.inl hb2)
  have l1 := Kept.cell (a := w) (R := []) (h2.blk.cell 1) (.inl hb2)
  have l2 := Kept.cell (a := w) (R := []) (h2.blk.cell 2) (.inl hb2)
  have l3 := Kept.cell (a := w) (R := []) (h2.blk.cell 3) (.inl hb2)
  have HEq := Lib.hid (fun (W : World) (hW : Only [] w W) => eqSt_any (hsl1.only0 hW) (hsl2.only0 hW) (by omega))
  have hkv : ∀ (pf : ByteArray → Value), (∀ p ∈ s.m.map (fun p => (p.1, p.2.val (pf p.1))), p.1.size ≤ maxLen) := fun pf p hp => by
    obtain ⟨q, hq, rfl⟩ := List.mem_map.1 hp
    have := hf.short q hq
    unfold maxLen
    show q.1.size ≤ _
    omega
  have HC1 := Lib.hid (fun (W : World) (Bm : Nat) (hW : Only [] w W) (hc : W.cell? ⟨Bm, 0, none⟩ = some (.map (some mb1))) => collectS_any hc (h1.map.only hW (by simp)) (by simp; omega) (hkv pf1))
  have HC2 := Lib.hid (fun (W : World) (Bm : Nat) (hW : Only [] w W) (hc : W.cell? ⟨Bm, 0, none⟩ = some (.map (some mb2))) => collectS_any hc (h2.map.only hW (by simp)) (by simp; omega) (hkv pf2))
  have HF1 := Lib.hid (fun (W : World) (hW : Only [] w W) (n : ByteArray) => floorS_any (h1.only0 hW) hs hN n)
  have HF2 := Lib.hid (fun (W : World) (hW : Only [] w W) (n : ByteArray) => floorS_any (h2.only0 hW) hs hN n)
  have HD1 := Lib.hid (fun (W : World) (hW : Only [] w W) (n : ByteArray) => deletedS_any (h1.only0 hW) n)
  have HD2 := Lib.hid (fun (W : World) (hW : Only [] w W) (n : ByteArray) => deletedS_any (h2.only0 hW) n)
  have HM1 := Lib.hid (fun (W : World) (hW : Only [] w W) (n : ByteArray) => metaOfS_any (h1.only0 hW) n)
  have HM2 := Lib.hid (fun (W : World) (hW : Only [] w W) (n : ByteArray) => metaOfS_any (h2.only0 hW) n)
  have hkl1 : (s.m.map (fun p => (p.1, p.2.val (pf1 p.1)))).length ≤ 1000000 := by simp; omega
  have hkl2 : (s.m.map (fun p => (p.1, p.2.val (pf2 p.1)))).length ≤ 1000000 := by simp; omega
  have bd : (s.done != s.done) = false := by simp
  have bn : (s.now != s.now) = false := by simp
  clear hsl1 hsl2 hkv
  go_enter Tryz.func9, Tryz.ntmps9
  go_wp2_with fail
  refine wp_region_stages (C := fun W => ∃ p : Kept w [] w, W = p.W) [([0, 1, 2, 3, 4, 5, 6, 7, 8, 9, 10, 11, 12, 13, 14, 15, 16, 17, 18, 19, 20, 21, 22, 23, 24, 25, 26, 27, 28], [])] [29, 30, 31] (by kernel_rfl) (by kernel_rfl) (by intro c d u a w h; cases d <;> exact h) ⟨⟨_, (Keeps.refl _ _ _).drew⟩, rfl⟩ ?_
  refine stagesFirst ?_
  show wpQuiet _ _ _ _ [_, _, _, _, _, _, _, _, _, _, _, _, _, _, _, _, _, _, _, _, _, _, _, _, _, _, _, _, _] _
  repeat (go_big_quiet_step (fail))
  refine wpQuiet_nil ?_
  refine stagesEnd ?_
  show wpList _ _ _ [_, _, _] _ _
  go_wp2_with (go_at_call 30; refine (HEq.out _ (Only.refl _ _).drew).mono ?_; rintro e w2 ⟨rfl, ho2⟩)
  have hO2 : Only [] w w2 := (Only.refl [] w).drew.trans ho2
  have hlt2 : ∀ b, b < w.heap.size → b < w2.heap.size := fun b hb => Nat.lt_of_lt_of_le hb hO2.size
  have hx1 : w2.cell? ⟨sb1, 1, none⟩ = some (.map (some mb1)) := (hO2.blk h1.blk (by simp)).cell 1
  have hx2 : w2.cell? ⟨sb2, 1, none⟩ = some (.map (some mb2)) := (hO2.blk h2.blk (by simp)).cell 1
  have m1 := Kept.cell (a := w2) (R := []) hx1 (.inl (hlt2 _ hb1))
  have m2 := Kept.cell (a := w2) (R := []) hx2 (.inl (hlt2 _ hb2))
  clear k0 k1 k2 k3 l0 l1 l2 l3 HEq hx1 hx2 bd bn
  refine wp_region_stages (C := fun W => ∃ p : Kept w2 [] w2, W = p.W) [([0, 1, 2, 3, 6, 7, 8, 9, 15], [4, 5, 10, 11, 12, 13, 14])] [] (by kernel_rfl) (by kernel_rfl) (by intro c d u a w h; cases d <;> exact h) ⟨⟨_, (Keeps.refl _ _ _).drew⟩, rfl⟩ ?_
  refine stagesFirst ?_
  show wpQuiet _ _ _ _ [_, _, _, _, _, _, _, _, _] _
  repeat (go_big_quiet_step (fail))
  refine wpQuiet_nil ?_
  show wpList _ _ _ [_] _ _
  have hO3 : Only [] w w2.drew := hO2.drew
  obtain ⟨w3, hw3⟩ : ∃ w3, w3 = w2.drew := ⟨_, rfl⟩
  have hK3 : Keeps w2 [] w2 w3 := by rw [hw3]; exact (Keeps.refl _ _ _).drew
  rw [← hw3] at hO3 ⊢
  clear hw3
  go_wp2_with (go_at_call 34; refine (keysM_any _ _).mono ?_; rintro e w4 ⟨rfl, rfl⟩)
  have hO4 := hO3.alloc (.cells #[.map (some mb1)] 75)
  have hc4 : (w3.alloc (.cells #[.map (some mb1)] 75)).cell? ⟨w3.heap.size, 0, none⟩ = some (.map (some mb1)) := (Blk.new w3 75 #[.map (some mb1)]).cell 0
  have hK4 := hK3.alloc (.cells #[.map (some mb1)] 75)
  refine check_kept hK4 ?_
  show wpList _ _ _ [_] _ _
  go_wp2_with (go_at_call 33; refine (HC1.out _ _ hO4 hc4).mono ?_; rintro e w5 ⟨v5, ns1, rfl, hown5, hl5, ho5⟩; obtain ⟨A5, cap5, rfl, _, _⟩ := own_form hown5)
  have hO5 := hO4.trans ho5
  have hK5 := hK4.then0 ho5
  refine check_kept hK5 ?_
  show wpList _ _ _ [_] _ _
  go_wp2_with (go_at_call 34; refine (keysM_any _ _).mono ?_; rintro e w6 ⟨rfl, rfl⟩)
  have hO6 := hO5.alloc (.cells #[.map (some mb2)] 75)
  have hc6 : (w5.alloc (.cells #[.map (some mb2)] 75)).cell? ⟨w5.heap.size, 0, none⟩ = some (.map (some mb2)) := (Blk.new w5 75 #[.map (some mb2)]).cell 0
  have hK6 := hK5.alloc (.cells #[.map (some mb2)] 75)
  refine check_kept hK6 ?_
  show wpList _ _ _ [_] _ _
  go_wp2_with (go_at_call 33; refine (HC2.out _ _ hO6 hc6).mono ?_; rintro e w7 ⟨v7, ns2, rfl, hown7, hl7, ho7⟩; obtain ⟨A7, cap7, rfl, _, _⟩ := own_form hown7)
  have hO7 := hO6.trans ho7
  have hK7 := hK6.then0 ho7
  refine check_kept hK7 ?_
  show wpList _ _ _ [_] _ _
  go_wp2_with fail
  have hO8 := hO7.alloc (.cells #[.slice A5 ns1.length cap5, .slice A7 ns2.length cap7] 41)
  have hK8 := hK7.alloc (.cells #[.slice A5 ns1.length cap5, .slice A7 ns2.length cap7] 41)
  have hs5 := ((Slc.of_own hown5).1.only0 ((((Only.refl [] w5).alloc (.cells #[.map (some mb2)] 75)).trans ho7).alloc (.cells #[.slice A5 ns1.length cap5, .slice A7 ns2.length cap7] 41)))
  have hs7 := ((Slc.of_own hown7).1.only0 ((Only.refl [] w7).alloc (.cells #[.slice A5 ns1.length cap5, .slice A7 ns2.length cap7] 41)))
  have hB8 := Blk.new w7 41 #[.slice A5 ns1.length cap5, .slice A7 ns2.length cap7]
  have HCc := Lib.hid (concatS_some hB8 hs5 hs7 (by omega) (by omega))
  clear hs5 hs7 hB8 hown5 hown7 hc4 hc6 HC1 HC2 m1 m2
  refine check_kept hK8 ?_
  show wpList _ _ _ [_] _ _
  go_wp2_with (go_at_call 32; refine HCc.out.mono ?_; rintro e w9 ⟨v9, ns, rfl, hown9, hlen, ho9⟩; obtain ⟨A9, cap9, rfl, _, _⟩ := own_form hown9)
  have hO9 := hO8.trans ho9
  refine check_kept (hK8.then0 ho9) ?_
  show wpList _ _ _ [_] _ _
  go_wp2_with fail
  refine check_kept (hK8.then0 ho9) ?_
  refine stagesDone3 ?_
  have hs9 := (Slc.of_own hown9).1
  obtain ⟨_, _, e9, hnc9, hcm9, hel9⟩ := hs9.openS
  injection e9 with e91 e92 e93
  subst e91 e93
  unfold maxLen at hcm9
  clear hs9 hown9 HCc hK3 hK4 hK5 hK6 hK7 hK8 hl5 hl7
  go_wp2_with fail
  go_loopw [66] (fun i wr => ∃ k : Nat, k ≤ ns.length ∧ i = .int .i64 k ∧ Only [] w wr ∧ Only [] w9 wr) (fun i _ => ns.length - (intOf i).toNat)
  case atStart => exact ⟨0, Nat.zero_le _, rfl, hO9, Only.refl _ _⟩
  case round =>
    obtain ⟨k, hk, rfl, hO, hO99⟩ := hrel
    by_cases hlt : k < ns.length
    · obtain ⟨b, off, rfl, hbb, hcc⟩ := hel9 k hlt
      have c0 := (hO99.cell hbb (by simp)).trans hcc
      obtain ⟨n, hn⟩ : ∃ n, n = ns[k] := ⟨_, rfl⟩
      rw [← hn] at c0
      have F1 := Lib.hid (fun (W : World) (hW : Only [] wr W) => HF1.out W (hO.trans hW) n)
      have F2 := Lib.hid (fun (W : World) (hW : Only [] wr W) => HF2.out W (hO.trans hW) n)
      have D1 := Lib.hid (fun (W : World) (hW : Only [] wr W) => HD1.out W (hO.trans hW) n)
      have D2 := Lib.hid (fun (W : World) (hW : Only [] wr W) => HD2.out W (hO.trans hW) n)
      have G1 := Lib.hid (fun (W : World) (hW : Only [] wr W) => HM1.out W (hO.trans hW) n)
      have G2 := Lib.hid (fun (W : World) (hW : Only [] wr W) => HM2.out W (hO.trans hW) n)
      obtain ⟨fo, hfo⟩ : ∃ fo, fo = s.floorS n := ⟨_, rfl⟩
      obtain ⟨dl, hdl⟩ : ∃ dl, dl = (s.find n).deleted := ⟨_, rfl⟩
      obtain ⟨mt, hmt⟩ : ∃ mt, mt = (s.find n).mt := ⟨_, rfl⟩
      rw [← hfo] at F1 F2
      rw [← hdl] at D1 D2
      rw [← hmt] at G1 G2
      obtain ⟨g1, g2, g3⟩ := mt
      simp only [MetaR.val] at G1 G2
      have q1 : (fo != fo) = false := by simp
      have q2 : (dl != dl) = false := by simp
      clear hel9 hcc hn hfo hdl hmt HF1 HF2 HD1 HD2 HM1 HM2
      go_wp2_with fail
      refine (F1.out _ (Only.refl _ _)).mono ?_
      rintro e wa ⟨rfl, hoa⟩
      go_wp2_with fail
      refine (F2.out _ hoa).mono ?_
      rintro e wb ⟨rfl, hob⟩
      have o2 := hoa.trans hob
      go_wp2_with fail
      refine (D1.out _ o2).mono ?_
      rintro e wc ⟨rfl, hoc⟩
      have o3 := o2.trans hoc
      go_wp2_with fail
      refine (D2.out _ o3).mono ?_
      rintro e wd ⟨rfl, hod⟩
      have o4 := o3.trans hod
      go_wp2_with fail
      refine (G1.out _ o4).mono ?_
      rintro e we ⟨rfl, hoe⟩
      have o5 := o4.trans hoe
      go_wp2_with fail
      refine (G2.out _ o5).mono ?_
      rintro e wf ⟨rfl, hof⟩
      have o6 := o5.trans hof
      go_wp2_with fail
      exact ⟨⟨k + 1, hlt, by simp, hO.trans o6, hO99.trans o6⟩, by simp [intOf]; omega⟩
    · clear hel9
      go_wp2
      go_ret
      exact ⟨rfl, hO⟩
end
end Go.Proofs.YtikboecmcbcghaaGreat
/- A state and its copy: the one goes its own way, the other stays. -/
set_option linter.unusedVariables false
set_option linter.unusedSimpArgs false
namespace Go.Proofs.YtikboecmcbcghaaGreat
open Go.RowKit Go Go.Sort
section
variable {a w w' : World} {R R' E : List Nat} {sb mb sc mc N : Nat} {s : MS}
/-- Blocks of one's own have turned, and new ones have come. -/
theorem HasS.stepR {S S' : List Nat} (h : HasS a w R E sb mb s N) (k : Stepped w w' S S') (hS : ∀ g ∈ S, g ∈ R) (hlt : ∀ g ∈ S', g < w'.heap.size) : HasS a w' (S' ++ R) E sb mb s N := by
  obtain ⟨M, av, pf, q1, q2, q3, q4⟩ := h.st
  obtain ⟨⟨S0, k0, kS⟩, kb⟩ := k
  have hz := k0.size
  have ha := h.only.size
  refine ⟨h.only.step k0 (fun g hg => .inr (q2 g (q3 g (hS g (kS g hg)))).1), ⟨S' ++ M, av, pf, q1.beside k0 (fun g hg => q3 g (hS g (kS g hg))) (fun g hg q => q4 g hg (hS g (kS g q))) (fun g hg => ?_) (fun g hg => List.mem_append_right _ hg) (fun g hg => ?_), fun g hg => ?_, fun g hg => ?_, fun g hg q => ?_⟩, fun g hg => Nat.lt_of_lt_of_le (h.el g hg) hz, h.ok, h.inv⟩
  · rcases List.mem_append.1 hg with q | q
    · rcases kb g q with y | y
      · exact .inl (q3 g (hS g y))
      · exact .inr y
    · exact .inl q
  · rcases List.mem_append.1 hg with q | q
    · exact hlt g q
    · exact Nat.lt_of_lt_of_le (q1.mlt g q) hz
  · rcases List.mem_append.1 hg with q | q
    · rcases kb g q with y | y
      · exact q2 g (q3 g (hS g y))
      · exact ⟨Nat.le_trans ha y, fun z => by have := h.el g z; omega⟩
    · exact q2 g q
  · rcases List.mem_append.1 hg with q | q
    · exact List.mem_append_left _ q
    · exact List.mem_append_right _ (q3 g q)
  · rcases List.mem_append.1 q with y | y
    · rcases kb g y with z | z
      · exact q4 g hg (hS g z)
      · have := q1.lt g hg
        omega
    · exact q4 g hg y
/-- A state and its copy. -/
structure Pair (a w : World) (R E : List Nat) (sb mb sc mc : Nat) (s : MS) (N : Nat) : Prop where
  only : Only [] a w
  st : ∃ M av pf avc pfc, StAt w M sb mb av pf s ∧ StAt w M sc mc avc pfc s ∧ (∀ g ∈ M, a.heap.size ≤ g ∧ g ∉ E) ∧ (∀ g ∈ R, g ∈ M) ∧ (∀ g ∈ hM sb mb av, g ∉ R) ∧ (∀ g ∈ hM sc mc avc, g ∉ R) ∧ ∀ g ∈ hM sb mb av, g ∉ hM sc mc avc
  el : ∀ g ∈ E, g < w.heap.size
  ok : s.Ok N
  inv : s.Inv
  few : s.Few N
theorem Pair.swap (h : Pair a w R E sb mb sc mc s N) : Pair a w R E sc mc sb mb s N := by
  obtain ⟨ho, ⟨M, av, pf, avc, pfc, q1, q2, q3, q4, q5, q6, q7⟩, hl, hk, hi, hf⟩ := h
  exact ⟨ho, ⟨M, avc, pfc, av, pf, q2, q1, q3, q4, q6, q5, fun g hg q => q7 g q hg⟩, hl, hk, hi, hf⟩
theorem Pair.keep (h : Pair a w R E sb mb sc mc s N) (k : Only [] w w') : Pair a w' R E sb mb sc mc s N := by
  obtain ⟨ho, ⟨M, av, pf, avc, pfc, q1, q2, q3⟩, hl, hk, hi, hf⟩ := h
  exact ⟨ho.trans k, ⟨M, av, pf, avc, pfc, q1.only0 k, q2.only0 k, q3⟩, fun g hg => Nat.lt_of_lt_of_le (hl g hg) k.size, hk, hi, hf⟩
theorem Pair.addE (h : Pair a w R E sb mb sc mc s N) (k : Only [] w w') {g : Nat} (h1 : w.heap.size ≤ g) (h2 : g < w'.heap.size) : Pair a w' R (g :: E) sb mb sc mc s N := by
  obtain ⟨ho, ⟨M, av, pf, avc, pfc, q1, q2, q3, q4⟩, hl, hk, hi, hf⟩ := h
  refine ⟨ho.trans k, ⟨M, av, pf, avc, pfc, q1.only0 k, q2.only0 k, fun i hi => ⟨(q3 i hi).1, fun q => ?_⟩, q4⟩, fun i hi => ?_, hk, hi, hf⟩
  · rcases List.mem_cons.1 q with rfl | q
    · have := q1.mlt i hi
      omega
    · exact (q3 i hi).2 q
  · rcases List.mem_cons.1 hi with rfl | hi
    · exact h2
    · exact Nat.lt_of_lt_of_le (hl i hi) k.size
theorem pair_copy (h : HasS a w R E sb mb s N) (hf : s.Few N) (hN : N ≤ 100000) :
    Calls Tryz.prog 8 #[.pointer (some ⟨sb, 0, none⟩)] w fun e w' => ∃ sc mc, e = .returned (.pointer (some ⟨sc, 0, none⟩)) ∧ Pair a w' R E sb mb sc mc s N ∧ Only [] w w' := by
  obtain ⟨M, av, pf, q1, q2, q3, q4⟩ := h.st
  refine (copy_any q1 (by have := h.ok.all; omega)).mono ?_
  rintro e w' ⟨sc, mc, avc, rfl, hc, hfr, k⟩
  have ha := h.only.size
  refine ⟨sc, mc, rfl, ⟨h.only.trans k, ⟨hM sc mc avc ++ M, av, pf, avc, pf, q1.beside k (by simp) (by simp) (fun g hg => (List.mem_append.1 hg).elim (fun q => .inr (hfr g q).1) .inl) (fun g hg => List.mem_append_right _ hg) hc.mlt, hc, fun g hg => ?_, fun g hg => List.mem_append_right _ (q3 g hg), q4, fun g hg q => ?_, fun g hg q => ?_⟩, fun g hg => Nat.lt_of_lt_of_le (h.el g hg) k.size, h.ok, h.inv, hf⟩, k⟩
  · rcases List.mem_append.1 hg with q | q
    · have := (hfr g q).1
      exact ⟨by omega, fun z => by have := h.el g z; omega⟩
    · exact q2 g q
  · have := (hfr g hg).1
    have := q1.mlt g (q3 g q)
    omega
  · have := (hfr g q).1
    have := q1.lt g hg
    omega
theorem pair_same (h : Pair a w R E sb mb sc mc s N) (hN : N ≤ 100000) :
    Calls Tryz.prog 9 #[.pointer (some ⟨sb, 0, none⟩), .pointer (some ⟨sc, 0, none⟩)] w fun e w' => e = .returned (.bool true) ∧ Only [] w w' := by
  obtain ⟨M, av, pf, avc, pfc, q1, q2, _⟩ := h.st
  exact same_any q1 q2 h.ok h.few hN
/-- The first one goes its own way; the second stays. -/
theorem pair_do {c : Cmd} {ev : Value} (h : Pair a w R E sb mb sc mc s N) (hN : N ≤ 100000) (hc : CmdOk c) (he : EvIn a w E ev c.events) :
    Calls Tryz.prog 10 #[.pointer (some ⟨sb, 0, none⟩), c.val ev] w fun e w' => (∃ v, e = .returned v) ∧ HasS a w' R E sc mc s N ∧ Keeps a (R ++ E) w w' := by
  obtain ⟨M, av, pf, avc, pfc, q1, q2, q3, q4, q5, q6, q7⟩ := h.st
  have hrd : Rd M w 4 ev c.events.length (c.events.flatMap EventR.cells) := ⟨he.1, fun g hg => by
    rcases he.2 g hg with (q | q) | q
    · exact .inl ⟨fun z => by have := (q3 g z).1; omega, Nat.lt_of_lt_of_le q h.only.size⟩
    · exact .inl ⟨fun z => (q3 g z).2 q, h.el g q⟩
    · exact .inr q⟩
  refine (do_any q1 h.ok hN hc hrd).mono ?_
  rintro e w' ⟨rfl, M', av', pf', y1, y2, y3, y4, y5⟩
  have hz := y2.size
  have ha := h.only.size
  refine ⟨⟨_, rfl⟩, ⟨h.only.step y2 (fun g hg => .inr (q3 g (q1.hMM g hg)).1), ⟨M, avc, pfc, q2.only y2 (fun g hg => q1.hMM g hg) (fun g hg q => q7 g q hg), q3, q4, q6⟩, fun g hg => Nat.lt_of_lt_of_le (h.el g hg) hz, h.ok, h.inv⟩, ⟨_, y2, fun g hg => ⟨(q3 g (q1.hMM g hg)).1, fun q => ?_⟩⟩⟩
  rcases List.mem_append.1 q with z | z
  · exact q5 g hg z
  · exact (q3 g (q1.hMM g hg)).2 z
end
end Go.Proofs.YtikboecmcbcghaaGreat
/- The program's state, the document's, and the book, beside each other. -/
set_option linter.unusedVariables false
set_option linter.unusedSimpArgs false
namespace Go.Proofs.YtikboecmcbcghaaGreat
open Go.RowKit Go Go.Sort
/-- X: boxes of the caller's own; E: blocks that only are read. -/
structure Trio (a w : World) (X H Hk E : List Nat) (sb mb rb kb : Nat) (s : MS) (r : RS) (N : Nat) : Prop where
  st : HasS a w (X ++ (H ++ Hk)) E sb mb s N
  doc : HasD a w H rb r
  bk : HasB a w Hk kb
  dis : ∀ b ∈ Hk, b ∉ H
  dx : ∀ b ∈ X, b ∉ H ∧ b ∉ Hk
structure Like (s : MS) (r : RS) (N : Nat) : Prop where
  alike : Alike s r
  inv2 : s.Inv2
  few : s.Few N
  slen : r.s.length ≤ 3 * N
theorem Like.did {s : MS} {r : RS} {N : Nat} (h : Like s r N) (hi : s.Inv) (ho : s.Ok N) (c : Cmd) : Like (s.do c).2 (r.do c).2 (N + 1) :=
  ⟨(alike_do h.alike hi h.inv2 ho c).2, inv2_do hi h.inv2 c, few_do h.few c, by have := do_slen r c; have := h.slen; omega⟩
section
variable {a w w' w0 w1 w2 w3 w4 : World} {X X' H Hk E E' : List Nat} {sb mb sc mc rb kb N N' : Nat} {s s' : MS} {r r' : RS}
theorem Trio.keep0 (h : Trio a w X H Hk E sb mb rb kb s r N) (k : Only [] w w') : Trio a w' X H Hk E sb mb rb kb s r N :=
  ⟨h.st.keep k, h.doc.keep0 k, h.bk.keep0 k, h.dis, h.dx⟩
/-- The program's state has done something (or its copy stands in its place). -/
theorem Trio.doS (h : Trio a w X H Hk E sb mb rb kb s r N) (hE : ∀ g ∈ E, g ∈ E') (hs : HasS a w' (X ++ (H ++ Hk)) E' sc mc s' N') (k : Keeps a (X ++ (H ++ Hk) ++ E') w w') : Trio a w' X H Hk E sc mc rb kb s' r N' ∧ Keeps a (X ++ E) w w' := by
  obtain ⟨S, k1, kS⟩ := k
  exact ⟨⟨hs.less (fun _ q => q) hE, h.doc.keep k1 (fun b q => (kS b q).1) (fun b q z => (kS b z).2 (by simp [q])), h.bk.keep k1 (fun b q => (kS b q).1) (fun b q z => (kS b z).2 (by simp [q])), h.dis, h.dx⟩, ⟨S, k1, fun g hg => ⟨(kS g hg).1, fun q => (kS g hg).2 (by rcases List.mem_append.1 q with y | y; exact List.mem_append_left _ (List.mem_append_left _ y); exact List.mem_append_right _ (hE g y))⟩⟩⟩
theorem Trio.doD (h : Trio a w X H Hk E sb mb rb kb s r N) (hd : DTo a w H rb r' w') : ∃ H', Trio a w' X H' Hk E sb mb rb kb s r' N ∧ Keeps a (X ++ E) w w' := by
  obtain ⟨H', hd', ⟨⟨S2, q1, q2⟩, q3⟩⟩ := hd
  have hlH : ∀ b ∈ H, a.heap.size ≤ b := h.doc.above
  have hrl := h.st.rl
  refine ⟨H', ⟨(h.st.stepR ⟨⟨S2, q1, q2⟩, q3⟩ (fun g hg => List.mem_append_right _ (List.mem_append_left _ hg)) hd'.lt).less (fun g hg => ?_) (fun _ q => q), hd', h.bk.keep q1 (fun b q => hlH b (q2 b q)) (fun b q z => h.dis b q (q2 b z)), fun b q z => ?_, fun b q => ⟨fun z => ?_, (h.dx b q).2⟩⟩, ⟨S2, q1, fun g hg => ⟨hlH g (q2 g hg), fun z => ?_⟩⟩⟩
  · simp only [List.mem_append] at hg ⊢
    rcases hg with y | y | y
    · exact .inr (.inl y)
    · exact .inl y
    · exact .inr (.inr (.inr y))
  · rcases q3 b z with y | y
    · exact h.dis b q y
    · have := h.bk.lt b q
      omega
  · rcases q3 b z with y | y
    · exact (h.dx b q).1 y
    · have := (hrl b (by simp [q])).2.1
      omega
  · rcases List.mem_append.1 z with y | y
    · exact (h.dx g y).1 (q2 g hg)
    · exact (hrl g (by simp [q2 g hg])).2.2 y
/-- One more box. -/
theorem Trio.addX (h : Trio a w X H Hk E sb mb rb kb s r N) (k : Only [] w w') {g : Nat} (h1 : w.heap.size ≤ g) (h2 : g < w'.heap.size) : Trio a w' (g :: X) H Hk E sb mb rb kb s r N := by
  refine ⟨h.st.addR k h1 h2, h.doc.keep0 k, h.bk.keep0 k, h.dis, fun b q => ?_⟩
  rcases List.mem_cons.1 q with rfl | q
  · exact ⟨fun z => by have := h.doc.lt b z; omega, fun z => by have := h.bk.lt b z; omega⟩
  · exact h.dx b q
theorem Trio.boxX (h : Trio a w X H Hk E sb mb rb kb s r N) (o : Obj) : Trio a (w.alloc o) (w.heap.size :: X) H Hk E sb mb rb kb s r N := h.addX ((Only.refl _ _).alloc o) (Nat.le_refl _) (by simp)
theorem Trio.addE (h : Trio a w X H Hk E sb mb rb kb s r N) (k : Only [] w w') {g : Nat} (h1 : w.heap.size ≤ g) (h2 : g < w'.heap.size) : Trio a w' X H Hk (g :: E) sb mb rb kb s r N :=
  ⟨h.st.addE k h1 h2, h.doc.keep0 k, h.bk.keep0 k, h.dis, h.dx⟩
theorem Trio.less (h : Trio a w X H Hk E sb mb rb kb s r N) (hx : ∀ g ∈ X', g ∈ X) (he : ∀ g ∈ E', g ∈ E) : Trio a w X' H Hk E' sb mb rb kb s r N :=
  ⟨h.st.less (fun g hg => (List.mem_append.1 hg).elim (fun q => List.mem_append_left _ (hx g q)) (fun q => List.mem_append_right _ q)) he, h.doc, h.bk, h.dis, fun b q => h.dx b (hx b q)⟩
theorem Trio.more (h : Trio a w X H Hk E sb mb rb kb s r N) (hN : N ≤ N') : Trio a w X H Hk E sb mb rb kb s r N' := ⟨h.st.more hN, h.doc, h.bk, h.dis, h.dx⟩
/-- A box of one's own turns. -/
theorem Trio.turnX {S : List Nat} (h : Trio a w X H Hk E sb mb rb kb s r N) (k : Only S w w') (hS : ∀ g ∈ S, g ∈ X) : Trio a w' X H Hk E sb mb rb kb s r N ∧ Keeps a E w w' := by
  have hrl := fun g (hg : g ∈ X) => h.st.rl g (by simp [hg])
  exact ⟨⟨h.st.turn k (fun g hg => List.mem_append_left _ (hS g hg)), h.doc.keep k (fun b q => (hrl b (hS b q)).1) (fun b q z => (h.dx b (hS b z)).1 q), h.bk.keep k (fun b q => (hrl b (hS b q)).1) (fun b q z => (h.dx b (hS b z)).2 q), h.dis, h.dx⟩, ⟨S, k, fun g hg => ⟨(hrl g (hS g hg)).1, (hrl g (hS g hg)).2.2⟩⟩⟩
/-- A row of one's own of texts or of stored events stays while the book keeps. -/
theorem row_stays {S : List Nat} {base size n : Nat} {e : TypeId} {v : Value} {xs : List Value} (h : w.ownsRow base e size v n xs) (he : e = 66 ∨ e = 9) (k : Only S w w') (hS : ∀ b ∈ S, ∀ cur, ¬ Blk w b 66 cur ∧ ¬ Blk w b 9 cur) : w'.ownsRow base e size v n xs := by
  refine own_only h k (fun g hg q => ?_)
  obtain ⟨cur, hb⟩ := own_type h hg
  rcases he with rfl | rfl
  · exact (hS g q cur).1 hb
  · exact (hS g q cur).2 hb
/-- Two new rows, kept one behind the other. -/
theorem Trio.kept {va vb : Value} (h : Trio a w0 X H Hk E sb mb rb kb s r N) (k1 : Only [] w0 w1) (ha : ∀ g, va.ownBlock = some g → w0.heap.size ≤ g ∧ g < w1.heap.size) (hb : ∀ g, vb.ownBlock = some g → w0.heap.size ≤ g ∧ g < w1.heap.size) (hab : ∀ g, va.ownBlock = some g → vb.ownBlock ≠ some g)
    (hk : KpTo a w1 Hk kb va w2) : ∃ Hk1, HasB a w2 Hk1 kb ∧ (∀ g, vb.ownBlock = some g → g ∉ Hk1 ∧ a.heap.size ≤ g) ∧ Only Hk w0 w2 ∧ (∃ S, Only S w1 w2 ∧ (∀ b ∈ S, b ∈ Hk) ∧ ∀ b ∈ S, ∀ cur, ¬ Blk w1 b 66 cur ∧ ¬ Blk w1 b 9 cur) ∧
      ∀ w3 w4, Only [] w2 w3 → KpTo a w3 Hk1 kb vb w4 → (∃ Hk2, Trio a w4 X H Hk2 E sb mb rb kb s r N) ∧ Keeps a (X ++ E) w0 w4 ∧ (∃ S, Only S w3 w4 ∧ (∀ b ∈ S, b ∈ Hk ∨ w0.heap.size ≤ b) ∧ ∀ b ∈ S, ∀ cur, ¬ Blk w3 b 66 cur ∧ ¬ Blk w3 b 9 cur) := by
  obtain ⟨Hk1, b1, ⟨S1, o1, s1, t1⟩, m1⟩ := hk
  have z0 := k1.size
  have z1 := o1.size
  have za := h.st.only.size
  have hkl := h.bk.lt
  have hrl := h.st.rl
  have e1 : Only Hk w0 w2 := (k1.of_nil (S := Hk)).step o1 (fun i q => .inl (s1 i q))
  refine ⟨Hk1, b1, fun g hg => ⟨fun q => ?_, by have := (hb g hg).1; omega⟩, e1, ⟨S1, o1, s1, t1⟩, fun w3 w4 k3 hk2 => ?_⟩
  · have y := hb g hg
    rcases m1 g q with z | z | z
    · have := hkl g z
      omega
    · exact hab g z hg
    · omega
  · obtain ⟨Hk2, b2, ⟨S2, o2, s2, t2⟩, m2⟩ := hk2
    have z3 := k3.size
    have hm1 : ∀ b ∈ Hk1, b ∈ Hk ∨ w0.heap.size ≤ b := fun b q => by
      rcases m1 b q with z | z | z
      · exact .inl z
      · exact .inr (ha b z).1
      · exact .inr (by omega)
    have hm2 : ∀ b ∈ Hk2, b ∈ Hk ∨ w0.heap.size ≤ b := fun b q => by
      rcases m2 b q with z | z | z
      · exact hm1 b z
      · exact .inr (hb b z).1
      · exact .inr (by omega)
    have e2 : Only Hk w0 w3 := e1.step k3 (by simp)
    have hO : Only Hk w0 w4 := e2.step o2 (fun i q => hm1 i (s2 i q))
    have hst : Stepped w0 w4 Hk Hk2 := ⟨⟨Hk, hO, fun _ q => q⟩, hm2⟩
    refine ⟨⟨Hk2, ⟨(h.st.stepR hst (fun g q => by simp [q]) b2.lt).less (fun g hg => ?_) (fun _ q => q), h.doc.keep hO h.bk.above (fun b q z => h.dis b z q), b2, fun b q z => ?_, fun b q => ⟨(h.dx b q).1, fun z => ?_⟩⟩⟩, ⟨Hk, hO, fun g hg => ⟨h.bk.above g hg, fun z => ?_⟩⟩, ⟨S2, o2, fun b q => hm1 b (s2 b q), t2⟩⟩
    · simp only [List.mem_append] at hg ⊢
      rcases hg with y | y | y
      · exact .inr (.inl y)
      · exact .inr (.inr (.inl y))
      · exact .inl y
    · rcases hm2 b q with y | y
      · exact h.dis b y z
      · have := h.doc.lt b z
        omega
    · rcases hm2 b z with y | y
      · exact (h.dx b q).2 y
      · have := (hrl b (by simp [q])).2.1
        omega
    · rcases List.mem_append.1 z with y | y
      · exact (h.dx g y).2 hg
      · exact (hrl g (by simp [hg])).2.2 y
end
end Go.Proofs.YtikboecmcbcghaaGreat
/- Contract: Streams of the program's state. -/
set_option linter.unusedVariables false
set_option linter.unusedSimpArgs false
namespace Go.Proofs.YtikboecmcbcghaaGreat
open Go.RowKit Go.MapKept Go.Maps Go.WideMaps Go.Sort Go.Lib Go.Shelf
theorem enterStreams1 : ∀ args w, (callFunc 124 args).run Tryz.prog w = .ok (.enter 124 args) w := enters_of Tryz.func124 (by kernel_rfl) rfl
theorem fld82 (W : World) (a b c d e f : Value) : Sem.run Tryz.prog (Instr.field 82 (.agg #[a, b, c, d, e, f]) 0) W = .ok a W := by kernel_rfl
theorem only_putRow (w : World) (g q : Nat) (d : Array ByteArray) : Only [g] w (putRow Value.string (Sort.ahead w q) g 0 d) :=
  ⟨rfl, rfl, rfl, by simp [putRow, mapBlock, Sort.ahead], fun k _ hk => by
    have : g ≠ k := by simp at hk; omega
    simp [putRow, mapBlock, Sort.ahead, Array.getElem?_modify, this]⟩
theorem Only.grow {S : List Nat} {a w : World} (h : Only S a w) (os : Array Obj) : Only S a (Go.Sort.grow w os) := h.below (B := w.heap.size) (by simpa using below_grown w 0 os) (Nat.le_refl _)
theorem oneStr : OneCell Value.string := fun _ => rfl
theorem zeroStr (w : World) : (zeroValue 9).run Tryz.prog w = .ok (.string ⟨#[]⟩) w := by kernel_rfl
theorem mergeSort_of_perm {x y : List (List UInt8)} (h : x.Perm y) : x.mergeSort (fun x y => decide (x ≤ y)) = y.mergeSort (fun x y => decide (x ≤ y)) := by
  refine List.Perm.eq_of_pairwise (le := fun x y => decide (x ≤ y)) ?_ (List.pairwise_mergeSort (fun a b c h1 h2 => by simp at *; exact List.le_trans h1 h2) (fun a b => by simp; exact List.le_total a b) _) (List.pairwise_mergeSort (fun a b c h1 h2 => by simp at *; exact List.le_trans h1 h2) (fun a b => by simp; exact List.le_total a b) _) (((List.mergeSort_perm _ _).trans h).trans (List.mergeSort_perm _ _).symm)
  intro a b _ _ h1 h2
  simp at h1 h2
  exact List.le_antisymm h1 h2
theorem strs_sortB (l : List ByteArray) : ((l.map fun s => s.data.toList).mergeSort (fun x y => decide (x ≤ y))).map encStr = strs (sortB l) := by
  simp [strs, encStr, sortB]
section
variable {w : World} {M : List Nat} {sb mb N : Nat} {av : Value} {pf : ByteArray → Value} {s : MS}
theorem emptyS_at (h : StAt w M sb mb av pf s) {W : World} (c1 : W.cell? ⟨sb, 1, none⟩ = some (.map (some mb))) (hm : MapIs Value.string W mb (s.m.map fun p => (p.1, p.2.val (pf p.1)))) (B : Nat) (hc : W.cell? ⟨B, 0, none⟩ = some (.pointer (some ⟨sb, 0, none⟩))) (n : ByteArray) :
    FnGives Tryz.prog 124 #[.pointer (some ⟨B, 0, none⟩)] #[.string n] (.bool (decide ((s.find n).places.length = 0))) W := by
  show Calls Tryz.prog 124 #[.string n, .pointer (some ⟨B, 0, none⟩)] W _
  obtain ⟨A, cap, hpv, _⟩ := (h.rd n).1.openI
  have hl := h.look n
  clear h
  obtain ⟨x, hx⟩ : ∃ x, x = s.find n := ⟨_, rfl⟩
  rw [hpv] at hl
  rw [← hx] at hl ⊢
  clear hpv hx
  obtain ⟨places, ⟨a, b, d⟩, fl, del⟩ := x
  have HL := Lib.hid hl
  clear hl
  have hf := fld82
  unfold StreamR.val at HL
  go_enter Tryz.func124, Tryz.ntmps124
  go_wp2_with (at_lookup; refine wpList_lookup_is rfl 75 rfl keyEnc_string Tryz.underlying75 Tryz.underlying9 (zeroS _) n rfl rfl hm (.agg #[.slice A places.length cap, .int .i64 a, .int .i64 b, .int .i64 d, .int .i64 fl, .bool del]) HL.out ?_)
  go_ret
  refine ⟨?_, 0, rfl⟩
  cases places <;> simp <;> omega
theorem idx_nilS (w : World) (lb : Array Value) : Calls Tryz.prog 151 #[.slice none 0 0, .func (.func 124) #[] lb] w fun e w' => e = .returned (.int .i64 (-1)) ∧ Only [] w w' := by
  go_enter Tryz.func151, Tryz.ntmps151
  go_wp2
  go_loop [8] (fun i => i = .int .i64 0) (fun _ => 0)
  case atStart => rfl
  case round =>
    subst hrel
    go_wp2
    go_ret
    exact ⟨rfl, Only.refl _ _⟩
theorem del_nilS (w : World) (lb : Array Value) : Calls Tryz.prog 122 #[.slice none 0 0, .func (.func 124) #[] lb] w fun e w' => e = .returned (.slice none 0 0) ∧ Only [] w w' := by
  go_enter Tryz.func122, Tryz.ntmps122
  go_wp2_with (go_at_call 151; refine (idx_nilS _ _).mono ?_; rintro e w1 ⟨rfl, h1⟩)
  go_ret
  exact ⟨rfl, h1⟩
/-- DeleteFunc with the closure of Streams, whatever the slice owned. -/
theorem del_anyS {base B : Nat} {v : Value} {ns : List ByteArray} {f : ByteArray → Bool} (hfn : ∀ n, decide ((s.find n).places.length = 0) = f n) (h : StAt w M sb mb av pf s) (hown : w.ownsRow base 9 1 v ns.length (strs ns)) (hc : w.cell? ⟨B, 0, none⟩ = some (.pointer (some ⟨sb, 0, none⟩))) (hB : B < base) (hsb : sb < base) (hmb : mb < base) (hl : ns.length ≤ 1000000) :
    Calls Tryz.prog 122 #[v, .func (.func 124) #[] #[.pointer (some ⟨B, 0, none⟩)]] w fun e w' => ∃ v', e = .returned v' ∧
      w'.ownsRow base 9 1 v' (ns.filter fun n => !f n).length (strs (ns.filter fun n => !f n)) ∧ ∃ S, Only S w w' ∧ ∀ k ∈ S, base ≤ k := by
  by_cases hv : v = .slice none 0 0
  · subst hv
    have hn : ns = [] := by
      rcases hown.2 with ⟨_, q⟩ | ⟨g, cap, cur, q, _⟩
      · simpa using q
      · cases q
    subst hn
    exact (del_nilS w _).mono fun e w' ⟨h1, h2⟩ => ⟨_, h1, ⟨rfl, .inl ⟨rfl, rfl⟩⟩, [], h2, by simp⟩
  · obtain ⟨g, cap, rfl, hb, hg, hn, hm, hz, hH⟩ := holds_of_ownsRow (enc := Value.string) (zs := ns) hown hv
    have hBl : B < w.heap.size := block_lt_of_cell hc
    have c1 : w.cell? ⟨sb, 1, none⟩ = some (.map (some mb)) := h.blk.cell 1
    have := AnyE.slices_DeleteFunc Tryz.delFunc Value.string oneStr f 124 #[.pointer (some ⟨B, 0, none⟩)] enterStreams1 ⟨#[]⟩ zeroStr g 0 cap ns.toArray w
      (fun W x hb' => hfn x ▸ emptyS_at h ((hb'.cell (p := ⟨sb, 1, none⟩) h.blk.lt).trans c1) (h.map.only (S := []) (Only.of_below hb' (Nat.le_refl _)) (by simp)) B ((hb'.cell (p := ⟨B, 0, none⟩) hBl).trans hc) x)
      (fun n os dk x _ => by
        have ho : Only [g] w (sortWorld Value.string w g 0 n dk os) := by
          unfold sortWorld
          exact (only_putRow w g n dk).grow os
        exact hfn x ▸ emptyS_at h ((ho.cell (p := ⟨sb, 1, none⟩) h.blk.lt (by simp; omega)).trans c1) (h.map.only ho (by simp; omega)) B ((ho.cell (p := ⟨B, 0, none⟩) hBl (by simp; omega)).trans hc) x) hH (by simp; omega) (by simpa using hn)
    rw [show ns.toArray.size = ns.length by simp] at this
    refine Calls.mono this ?_
    rintro e w' ⟨rfl, q, rfl⟩
    simp only []
    have hle : (ns.filter fun n => !f n).length ≤ ns.length := List.length_filter_le _ _
    have hr := ownsRow_putRow (enc := Value.string) (q := q) (ys := (ns.filter fun n => !f n) ++ List.replicate (ns.length - (ns.filter fun n => !f n).length) ⟨#[]⟩) (k := (ns.filter fun n => !f n).length) hown (by simp; omega) hle
    rw [List.take_left] at hr
    exact ⟨_, rfl, hr, [g], only_putRow w g q _, by simp; omega⟩
set_option maxRecDepth 100000 in
set_option maxHeartbeats 1000000 in
theorem mstreams_any (h : StAt w M sb mb av pf s) (hf : s.Few N) (hN : N ≤ 100000) :
    Calls Tryz.prog 52 #[.pointer (some ⟨sb, 0, none⟩)] w fun e w' => ∃ v base, e = .returned v ∧ w'.ownsRow base 9 1 v s.streamsP.length (strs s.streamsP) ∧ w.heap.size ≤ base ∧ Only [] w w' := by
  have c2 : ∀ o, (w.alloc o).cell? ⟨sb, 1, none⟩ = some (.map (some mb)) := fun o => (World.cell?_alloc_lt w o _ h.blk.lt).trans (h.blk.cell 1)
  have hlen : (s.m.map fun p => (p.1, p.2.val (pf p.1))).length = s.m.length := by simp
  have hfl := hf.len
  obtain ⟨w1, hw1⟩ : ∃ w1, w1 = w.alloc (.cells #[.pointer (some ⟨sb, 0, none⟩)] 25) := ⟨_, rfl⟩
  have ho1 : Only [] w w1 := by rw [hw1]; exact (Only.refl _ _).alloc _
  have hz1 : w1.heap.size = w.heap.size + 1 := by rw [hw1]; simp
  have hc1 : w1.cell? ⟨w.heap.size, 0, none⟩ = some (.pointer (some ⟨sb, 0, none⟩)) := by rw [hw1]; exact (Blk.new w _ _).cell 0
  have hst1 := h.only0 ho1
  obtain ⟨D0, hown, hperm, hsz⟩ := hst1.map.owns (P := Tryz.prog) (k := 9) Tryz.underlying9 (by rw [hlen]; unfold maxLen; omega) (by
    intro p hp
    obtain ⟨q, hq, rfl⟩ := List.mem_map.1 hp
    have := hf.short q hq
    unfold maxLen
    show q.1.size ≤ _
    omega)
  have hc := fun W => callsIn_wide.1 (Tryz.maps_Keys_34 (some mb) W)
  have hs := callsIn_wide.1 (Tryz.slices_Sorted_keys_123_34 mb _ D0 blind w1 hown (by rw [hsz, hlen]; unfold maxLen; omega) (by rw [hsz, hlen]; omega))
  have HS := Lib.hid hs
  have HC := Lib.hid hc
  have HW := Lib.hid hw1
  have HZ := Lib.hid hz1
  have HSt := Lib.hid hst1
  have hsb := h.blk.lt
  have hmb := h.map.lt
  clear hs hc h hown hw1 hz1 hst1
  go_enter Tryz.func52, Tryz.ntmps52
  go_wp2_with fail
  rw [← HW.out]
  refine (HC.out _).mono ?_
  rintro e1 w2 ⟨rfl, rfl⟩
  go_wp2_with fail
  refine HS.out.mono ?_
  rintro e2 w3 ⟨v, ss, rfl, hS, hrow, hnil, hb⟩
  have ho3 : Only [] w1 w3 := ((Only.refl [] w1).alloc _).below hb (by simp)
  have e1 : ss.mergeSort (fun x y => decide (x ≤ y)) = ((s.m.map (·.1)).map fun s => s.data.toList).mergeSort (fun x y => decide (x ≤ y)) := by
    refine mergeSort_of_perm ((hS.trans hperm).trans ?_)
    rw [List.map_map, List.map_map]
    exact List.Perm.refl _
  have e2 : (ss.mergeSort (fun x y => decide (x ≤ y))).map encStr = strs (sortB (s.m.map (·.1))) := by rw [e1, strs_sortB]
  have e3 : ss.length = (sortB (s.m.map (·.1))).length := by
    have := congrArg List.length e2
    simpa [strs] using this
  rw [e2, e3] at hrow
  have hnl : (sortB (s.m.map (·.1))).length ≤ 1000000 := by
    have : (sortB (s.m.map (·.1))).length = s.m.length := by simp [sortB]
    omega
  have hz := HZ.out
  have HD := Lib.hid (fun (base : Nat) (hB : w.heap.size + 1 ≤ base) (hr : w3.ownsRow base 9 1 v (sortB (s.m.map (·.1))).length (strs (sortB (s.m.map (·.1))))) => del_anyS (f := fun n => decide ((s.find n).places.length = 0)) (fun _ => rfl) (HSt.out.only0 ho3) hr ((ho3.cell (p := ⟨w.heap.size, 0, none⟩) (by show w.heap.size < _; omega) (by simp)).trans hc1) (by omega) (by omega) (by omega) hnl)
  have HRow := Lib.hid hrow
  clear hrow e1 e2 e3 hz
  go_wp2_with fail
  refine (HD.out _ ?hb HRow.out).mono ?_
  case hb =>
    have := HZ.out
    simp
    omega
  rintro e4 w4 ⟨v4, rfl, hr4, S, ho4, hS4⟩
  obtain ⟨F, hF⟩ : ∃ F, F = s.streamsP := ⟨_, rfl⟩
  have hr5 : w4.ownsRow (w1.alloc (.cells #[.map (some mb)] 75)).heap.size 9 1 v4 F.length (strs F) := by rw [hF]; exact hr4
  obtain ⟨A4, c4, rfl, -, -⟩ := own_form hr5
  have HF := Lib.hid hF
  clear hr4 hF
  go_wp2
  go_ret
  rw [← HF.out]
  have hz := HZ.out
  have hz1 : (w1.alloc (.cells #[.map (some mb)] 75)).heap.size = w1.heap.size + 1 := by simp
  refine ⟨_, (w1.alloc (.cells #[.map (some mb)] 75)).heap.size, rfl, hr5, by omega, ho1.trans (ho3.step ho4 (fun b hb => .inr ?_))⟩
  have := hS4 b hb
  omega
end
end Go.Proofs.YtikboecmcbcghaaGreat
/- Shows: the walk. -/
set_option linter.unusedVariables false
set_option linter.unusedSimpArgs false
namespace Go.Proofs.YtikboecmcbcghaaGreat
open Go.RowKit Go Go.Sort
theorem fldG1 (W : World) (a b c d e f : Value) : Sem.run Tryz.prog (Instr.field 99 (.agg #[a, b, c, d, e, f]) 1) W = .ok (.agg #[b, c, d]) W := by kernel_rfl
theorem fldG3 (W : World) (a b c d e f : Value) : Sem.run Tryz.prog (Instr.field 99 (.agg #[a, b, c, d, e, f]) 3) W = .ok f W := by kernel_rfl
theorem stagesEnd0 {P : Program} {C : World → Prop} {Q : Exit → Act → World → Prop} {l : List Oper} {a : Act} {w : World} (h : Q .normal a w) : wpT1 P l.toArray C Q (opsAt l []) (wpStages P l C Q (fun a w => wpList P l.toArray Q (opsAt l []) a w) []) a w := h
section
variable {a w : World} {X H Hk E : List Nat} {sb mb rb kb N : Nat} {s : MS} {r : RS}
/-- What Shows leaves. -/
def STo (a w : World) (X H E : List Nat) (sb mb rb kb : Nat) (s : MS) (r : RS) (N : Nat) (w' : World) : Prop := ∃ Hk', Trio a w' X H Hk' E sb mb rb kb s r N ∧ Keeps a (X ++ E) w w'
set_option maxRecDepth 100000 in
set_option maxHeartbeats 4000000 in
theorem shows_any (h : Trio a w X H Hk E sb mb rb kb s r N) (hL : Like s r N) (hN : N ≤ 1000) {An : Option Addr} {cn : Nat} {ts : List ByteArray} (hn : Slc w 1 (.slice An ts.length cn) ts.length (strs ts)) (hE : ∀ g, (Value.slice An ts.length cn).ownBlock = some g → g ∈ E) (ht : ts.length ≤ 10) :
    Calls Tryz.prog 14 #[.pointer (some ⟨sb, 0, none⟩), .pointer (some ⟨rb, 0, none⟩), .slice An ts.length cn, .pointer (some ⟨kb, 0, none⟩)] w fun e w' => e = .returned (.bool true) ∧ STo a w X H E sb mb rb kb s r N w' := by
  have hall := h.st.ok.all
  have HEv := Lib.hid (has_every h.st (by omega))
  have HSt := Lib.hid (fun (W : World) (k : Only [] w W) => show Calls Tryz.prog 52 #[.pointer (some ⟨sb, 0, none⟩)] W fun e w' => ∃ v base, e = .returned v ∧ w'.ownsRow base 9 1 v s.streamsP.length (strs s.streamsP) ∧ W.heap.size ≤ base ∧ Only [] W w' from by
    obtain ⟨M, av, pf, q1, _⟩ := (h.st.keep k).st
    exact mstreams_any q1 hL.few (by omega))
  have hstl : s.streamsP.length ≤ 1000000 := by
    have e1 : s.streamsP.length ≤ (sortB (s.m.map (·.1))).length := List.length_filter_le _ _
    have e2 : (sortB (s.m.map (·.1))).length = s.m.length := by simp [sortB]
    have := hL.few.len
    omega
  go_enter Tryz.func14, Tryz.ntmps14
  go_wp2_with fail
  refine HEv.out.mono ?_
  rintro e w1 ⟨v1, rfl, ra1, k1⟩
  obtain ⟨A1, c1, rfl, -, -⟩ := own_form ra1
  go_wp2_with fail
  refine (HSt.out _ k1).mono ?_
  rintro e w2 ⟨v2, base, rfl, rb2, hb2, k2⟩
  obtain ⟨A2, c2, rfl, -, -⟩ := own_form rb2
  clear HEv HSt
  have ra2 := own_only ra1 k2 (by simp)
  have l1 := fun g hg => World.ownsRow.lt ra1 g hg
  have l2 := fun g hg => World.ownsRow.lt rb2 g hg
  have hkl := h.bk.lt
  have haz := h.st.only.size
  have hz1 := k1.size
  have hz2 := k2.size
  have HK1 := Lib.hid (bstored_any (h.bk.keep0 (k1.trans k2)) (own_base ra2 (Nat.zero_le _)) (fun g hg => ⟨fun q => by have := hkl g q; have := (l1 g hg).1; omega, by have := (l1 g hg).1; omega⟩) (by omega))
  go_wp2_with fail
  refine HK1.out.mono ?_
  rintro e w3 ⟨rfl, hK3⟩
  obtain ⟨Hk1, b3, f3, -, ⟨S3, o3, -, t3⟩, HKb⟩ := h.kept (k1.trans k2) (va := .slice A1 s.all.length c1) (vb := .slice A2 s.streamsP.length c2) (fun g hg => ⟨(l1 g hg).1, by have := (l1 g hg).2; omega⟩) (fun g hg => ⟨by have := (l2 g hg).1; omega, (l2 g hg).2⟩) (fun g hg q => by have := (l1 g hg).2; have := (l2 g q).1; omega) hK3
  have ra3 := row_stays ra2 (.inl rfl) o3 t3
  have rb3 := row_stays rb2 (.inr rfl) o3 t3
  have HK2 := Lib.hid (btexts_any b3 (own_base rb3 (Nat.zero_le _)) f3 hstl)
  clear HK1 hK3 b3
  go_wp2_with fail
  refine HK2.out.mono ?_
  rintro e wx ⟨rfl, hK4⟩
  obtain ⟨⟨Hk2, hD⟩, kE, ⟨S4, o4, -, t4⟩⟩ := HKb _ _ (Only.refl _ _) hK4
  have Ra := Lib.hid (Slc.of_own (row_stays ra3 (.inl rfl) o4 t4)).1
  have Rb := Lib.hid (Slc.of_own (row_stays rb3 (.inr rfl) o4 t4)).1
  have Rn := Lib.hid (kE.slc hn (fun g hg => .inr (List.mem_append_right _ (hE g hg))))
  have HFin := Lib.hid (fun (W : World) (k : Only [] wx W) => (show STo a w X H E sb mb rb kb s r N W from ⟨Hk2, hD.keep0 k, kE.then0 k⟩))
  clear HK2 hK4 HKb ra1 ra2 ra3 rb2 rb3 o3 o4 t3 t4 f3 hn hE hkl l1 l2 haz hz1 hz2 hb2 k1 k2 h kE
  have hal := hL.alike
  have hi2 := hL.inv2
  have hfine := hal.fine hD.st.ok (by omega)
  have hnod : (s.m.map (·.1)).Nodup := by
    obtain ⟨M, av, pf, q1, _⟩ := hD.st.st
    exact q1.nodup
  have HSee := Lib.hid (fun (i : Int) (W : World) (k : Only [] wx W) => has_seen (hD.st.keep k) (by omega) i)
  have HLen := Lib.hid (fun (W : World) (k : Only [] wx W) => has_len (hD.st.keep k))
  have HDone := Lib.hid (fun (W : World) (k : Only [] wx W) => has_done (hD.st.keep k))
  have HNow := Lib.hid (fun (W : World) (k : Only [] wx W) => has_now (hD.st.keep k))
  have HCnt := Lib.hid (fun (n : ByteArray) (W : World) (k : Only [] wx W) => has_count (hD.st.keep k) n)
  have HFlo := Lib.hid (fun (n : ByteArray) (W : World) (k : Only [] wx W) => has_floor (hD.st.keep k) (by omega) n)
  have HDel := Lib.hid (fun (n : ByteArray) (W : World) (k : Only [] wx W) => has_deleted (hD.st.keep k) n)
  have HMet := Lib.hid (fun (n : ByteArray) (W : World) (k : Only [] wx W) => show Calls Tryz.prog 37 #[.pointer (some ⟨sb, 0, none⟩), .string n] W fun e w' => e = .returned (s.find n).mt.val ∧ Only [] W w' from by
    obtain ⟨M, av, pf, q1, _⟩ := (hD.st.keep k).st
    exact metaOfS_any q1 n)
  have HGet := Lib.hid (fun (n : ByteArray) (W : World) (k : Only [] wx W) => show Calls Tryz.prog 44 #[.pointer (some ⟨rb, 0, none⟩), .string n] W fun e w' => e = .returned (.agg #[.string (r.get n).name, .int .i64 (s.find n).mt.maxCount, .int .i64 (s.find n).mt.maxAge, .int .i64 (s.find n).mt.before, .int .i64 (r.get n).kept, .bool (s.find n).deleted]) ∧ Only [] W w' from by
    rw [← hal.mt n, ← hal.del n]
    exact dget_any (hD.doc.keep0 k) n)
  have HOf := Lib.hid (fun (n : ByteArray) (W : World) (k : Only [] wx W) => show Calls Tryz.prog 46 #[.pointer (some ⟨rb, 0, none⟩), .string n] W fun e w' => ∃ A c, e = .returned (.slice A (s.find n).places.length c) ∧ c ≤ maxLen ∧ Only [] W w' from by
    refine (dof_any (hD.doc.keep0 k) hfine.few n).mono ?_
    rintro e w' ⟨v', rfl, ho, k'⟩
    obtain ⟨A, c, rfl, _, hc⟩ := own_form ho
    exact ⟨A, c, by rw [hal.len hi2], hc, k'⟩)
  have HDFl := Lib.hid (fun (n : ByteArray) (W : World) (k : Only [] wx W) => show Calls Tryz.prog 58 #[.pointer (some ⟨rb, 0, none⟩), .string n] W fun e w' => e = .returned (.int .i64 (s.floorS n)) ∧ Only [] W w' from by
    rw [← hal.floor hi2]
    exact dfloor_any (hD.doc.keep0 k) n hfine.few (hfine.mt n) (hfine.kept n) hfine.now)
  have HStr := Lib.hid (fun (W : World) (k : Only [] wx W) => show Calls Tryz.prog 57 #[.pointer (some ⟨rb, 0, none⟩)] W fun e w' => ∃ A c, e = .returned (.slice A s.streamsP.length c) ∧ Slc w' 1 (.slice A s.streamsP.length c) s.streamsP.length (strs s.streamsP) ∧ Only [] W w' from by
    refine (dstreams_any (hD.doc.keep0 k) hfine.few).mono ?_
    rintro e w' ⟨v', rfl, ho, k'⟩
    rw [hal.streams hi2 hnod] at ho
    obtain ⟨A, c, rfl, _, hc⟩ := own_form ho
    exact ⟨A, c, rfl, (Slc.of_own ho).1, k'⟩)
  obtain ⟨⟨vl, vs, hA, -⟩, -, -⟩ := hD.doc
  obtain ⟨Al, cl, As, cs, rfl, rfl, hll, hcm, -, -, hel, -⟩ := hA.open
  have hsl := (Slc.of_own hA.l).1
  have hrbl := hA.blk.lt
  have f0 : wx.cell? ⟨rb, 0, none⟩ = some (.slice Al r.l.length cl) := hA.blk.cell 0
  have f2 : wx.cell? ⟨rb, 2, none⟩ = some (.int .i64 s.now) := by rw [← hal.now]; exact hA.blk.cell 2
  have f3 : wx.cell? ⟨rb, 3, none⟩ = some (.int .i64 s.done) := by rw [← hal.done]; exact hA.blk.cell 3
  have hrl := hal.l
  obtain ⟨rl, hrle⟩ : ∃ rl, r.l = rl := ⟨_, rfl⟩
  rw [hrle] at hel hsl f0 hll hrl
  subst hrl
  have HSame := Lib.hid (fun (W : World) (k : Only [] wx W) => (sameL_any (Ra.out.only0 k) (hsl.only0 k) (by omega) (by omega)).mono fun e w' q => show e = .returned (.bool true) ∧ Only [] W w' from ⟨by rw [q.1, sameL_refl], q.2⟩)
  unfold maxLen at hcm
  have hwant : ∀ i : Int, s.seenAt i = if i < 0 ∨ (s.all.length : Int) ≤ i then false else !(s.find (evAt s.all i).stream).deleted && decide (s.floorS (evAt s.all i).stream ≤ (evAt s.all i).version) := fun i => rfl
  have Hel := Lib.hid hel
  have HW := Lib.hid hwant
  clear hel hwant hA hsl hrle hfine hnod hi2 hal hD hll
  have d0 := Within.cell (S := []) f0 (by simp)
  have d2 := Within.cell (S := []) f2 (by simp)
  have d3 := Within.cell (S := []) f3 (by simp)
  have kd : Only [] wx wx.drew := (Only.refl _ _).drew
  have q1 : ((s.all.length : Int) != (s.all.length : Int)) = false := by simp
  have q2 : (s.done != s.done) = false := by simp
  have q3 : (s.now != s.now) = false := by simp
  go_wp2_with fail
  refine wp_region_stages (C := fun W => ∃ p : Within [] wx, W = p.W) [([0, 2, 3, 4, 5, 6], [1]), ([7, 8, 9, 11, 12, 13, 14], [10]), ([15, 16, 17, 18, 20, 21, 22, 23], [19]), ([24, 25, 26, 27, 28, 29, 30, 31], [32]), ([33, 34, 35, 36, 37], [38, 39]), ([40, 41], [])] [] (by kernel_rfl) (by kernel_rfl) (by intro c d u a w h; cases d <;> exact h) ⟨⟨_, (Only.refl _ _).drew⟩, rfl⟩ ?_
  refine stagesFirst ?_
  show wpQuiet _ _ _ _ [_, _, _, _, _, _] _
  repeat (go_big_quiet_step (fail))
  refine wpQuiet_nil ?_
  show wpList _ _ _ [_] _ _
  go_wp2_with (go_at_call 26; refine (HLen.out _ kd).mono ?_; rintro e w1 ⟨rfl, rfl⟩)
  refine check_of (S := []) kd ?_
  refine stagesNext ?_
  show wpQuiet _ _ _ _ [_, _, _, _, _, _, _] _
  try go_frame
  repeat (go_big_quiet_step (fail))
  refine wpQuiet_nil ?_
  show wpList _ _ _ [_] _ _
  go_wp2_with (go_at_call 27; refine (HDone.out _ kd).mono ?_; rintro e w1 ⟨rfl, rfl⟩)
  refine check_of (S := []) kd ?_
  refine stagesNext ?_
  show wpQuiet _ _ _ _ [_, _, _, _, _, _, _, _] _
  try go_frame
  repeat (go_big_quiet_step (fail))
  refine wpQuiet_nil ?_
  show wpList _ _ _ [_] _ _
  go_wp2_with (go_at_call 54; refine (HNow.out _ kd).mono ?_; rintro e w1 ⟨rfl, rfl⟩)
  refine check_of (S := []) kd ?_
  refine stagesNext ?_
  show wpQuiet _ _ _ _ [_, _, _, _, _, _, _, _] _
  try go_frame
  repeat (go_big_quiet_step (fail))
  refine wpQuiet_nil ?_
  show wpList _ _ _ [_] _ _
  go_wp2_with (go_at_call 55; refine (HSame.out _ kd).mono ?_; rintro e w5 ⟨rfl, ho5⟩)
  have k5 : Only [] wx w5 := kd.trans ho5
  refine check_of (S := []) k5 ?_
  refine stagesNext ?_
  show wpQuiet _ _ _ _ [_, _, _, _, _] _
  try go_frame
  repeat (go_big_quiet_step (fail))
  refine wpQuiet_nil ?_
  show wpList _ _ _ [_] _ _
  go_wp2_with (go_at_call 57; refine (HStr.out _ k5).mono ?_; rintro e w6 ⟨A6, c6, rfl, hs6, ho6⟩)
  have k6 := k5.trans ho6
  have HTx := Lib.hid (sameT_refl (Rb.out.only0 k6) hs6)
  clear hs6
  refine check_of (S := []) k6 ?_
  show wpList _ _ _ [_] _ _
  go_wp2_with (go_at_call 56; refine (HTx.out).mono ?_; rintro e w7 ⟨rfl, ho7⟩)
  have k7 : Only [] wx w7 := k6.trans ho7
  refine check_of (S := []) k7 ?_
  refine stagesNext ?_
  show wpQuiet _ _ _ _ [_, _] _
  try go_frame
  repeat (go_big_quiet_step (fail))
  refine wpQuiet_nil ?_
  refine stagesEnd0 ?_
  clear HLen HDone HNow HSame HStr HTx Ra Rb d0 d2 d3 f2 f3 q1 q2 q3
  go_wp2_with fail
  go_loopw [11] (fun iv wr => ∃ j : Int, -1 ≤ j ∧ j ≤ (s.all.length : Int) + 1 ∧ iv = .int .i64 j ∧ Only [] wx wr) (fun iv _ => ((s.all.length : Int) + 1 - intOf iv).toNat)
  case atStart => exact ⟨-1, by omega, by omega, rfl, k7⟩
  case round =>
    obtain ⟨j, hj1, hj2, rfl, hO⟩ := hrel
    have g0 := (hO.cell (p := ⟨rb, 0, none⟩) hrbl (by simp)).trans f0
    have kd2 : Only [] wr wr.drew := (Only.refl _ _).drew
    by_cases hjl : j ≤ (s.all.length : Int)
    · have d0 := Within.cell (S := []) g0 (by simp)
      have e9 := IntWalk.i64_in (j + 1) ⟨by omega, by omega⟩
      by_cases hneg : j < 0
      · obtain rfl : j = -1 := by omega
        have HSj := Lib.hid (fun (W : World) (k : Only [] wx W) => HSee.out (-1) W k)
        rw [HW.out (-1), if_pos (.inl (by omega))] at HSj
        go_wp2_with fail
        refine wp_region_stages (C := fun W => ∃ p : Within [] wr, W = p.W) [([0, 1, 2, 3, 4, 5, 6, 7, 8, 9, 10, 11, 12, 13, 14, 15, 16, 17, 18, 19, 20], [21, 22]), ([23, 24, 25, 26, 27, 28, 29, 30, 31, 32, 33, 34, 35, 36, 37, 38, 39, 40, 41, 42], [43]), ([44, 45, 46], [])] [] (by kernel_rfl) (by kernel_rfl) (by intro c d u a w h; cases d <;> exact h) ⟨⟨_, (Only.refl _ _).drew⟩, rfl⟩ ?_
        refine stagesFirst ?_
        show wpQuiet _ _ _ _ [_, _, _, _, _, _, _, _, _, _, _, _, _, _, _, _, _, _, _, _, _] _
        repeat (go_big_quiet_step (fail))
        refine wpQuiet_nil ?_
        show wpList _ _ _ [_] _ _
        go_wp2
        refine check_of (S := []) kd2 ?_
        show wpList _ _ _ [_] _ _
        go_wp2
        refine check_of (S := []) kd2 ?_
        refine stagesNext ?_
        show wpQuiet _ _ _ _ [_, _, _, _, _, _, _, _, _, _, _, _, _, _, _, _, _, _, _, _] _
        try go_frame
        repeat (go_big_quiet_step (fail))
        refine wpQuiet_nil ?_
        show wpList _ _ _ [_] _ _
        go_wp2
        refine check_of (S := []) kd2 ?_
        refine stagesNext ?_
        show wpQuiet _ _ _ _ [_, _, _] _
        try go_frame
        repeat (go_big_quiet_step (fail))
        refine wpQuiet_nil ?_
        refine stagesEnd0 ?_
        go_wp2_with (go_at_call 59; refine (HSj.out _ (hO.trans (kd2))).mono ?_; rintro e w12 ⟨rfl, ho12⟩)
        go_round
        case rel => exact ⟨0, by omega, by omega, rfl, hO.trans (kd2.trans ho12)⟩
        case measure => simp [intOf]; omega
      · obtain ⟨k, rfl⟩ : ∃ k : Nat, j = k := ⟨j.toNat, by omega⟩
        by_cases hlt : k < s.all.length
        · have HSj := Lib.hid (fun (W : World) (q : Only [] wx W) => HSee.out (k : Int) W q)
          rw [HW.out (k : Int), if_neg (by omega), show evAt s.all (k : Int) = s.all[k] from evAt_nat hlt] at HSj
          obtain ⟨b, off, rfl, hbb, hcc⟩ := Hel.out k hlt
          obtain ⟨x, hx⟩ : ∃ x, x = s.all[k] := ⟨_, rfl⟩
          rw [← hx] at hcc HSj
          have c4 : wr.cell? ⟨b, off + k * 8 + 4, none⟩ = some (.string x.stream) := (hO.cell hbb (by simp)).trans (hcc 4 (by omega))
          have c5 : wr.cell? ⟨b, off + k * 8 + 5, none⟩ = some (.int .i64 x.version) := (hO.cell hbb (by simp)).trans (hcc 5 (by omega))
          have D4 := Within.cell (S := []) c4 (by simp)
          have D5 := Within.cell (S := []) c5 (by simp)
          have HG := Lib.hid (fun (W : World) (q : Only [] wx W) => HGet.out x.stream W q)
          have HF := Lib.hid (fun (W : World) (q : Only [] wx W) => HDFl.out x.stream W q)
          have hfd3 := fldG3
          have hlt' : (k : Int) < (s.all.length : Int) := by omega
          obtain ⟨de, hde⟩ : ∃ de, (s.find x.stream).deleted = de := ⟨_, rfl⟩
          obtain ⟨fl, hfl⟩ : ∃ fl, s.floorS x.stream = fl := ⟨_, rfl⟩
          rw [hde] at HG HSj
          rw [hfl] at HF HSj
          clear hcc hx hneg hde hfl c4 c5
          cases de with
          | true =>
            rw [show (!true && decide (fl ≤ x.version)) = false from rfl] at HSj
            go_wp2_with fail
            refine wp_region_stages (C := fun W => ∃ p : Within [] wr, W = p.W) [([0, 1, 2, 3, 4, 5, 6, 7, 8, 9, 10, 11, 12, 13, 14, 15, 16, 17, 18, 19, 20], [21, 22]), ([23, 24, 25, 26, 27, 28, 29, 30, 31, 32, 33, 34, 35, 36, 37, 38, 39, 40, 41, 42], [43]), ([44, 45, 46], [])] [] (by kernel_rfl) (by kernel_rfl) (by intro c d u a w h; cases d <;> exact h) ⟨⟨_, (Only.refl _ _).drew⟩, rfl⟩ ?_
            refine stagesFirst ?_
            show wpQuiet _ _ _ _ [_, _, _, _, _, _, _, _, _, _, _, _, _, _, _, _, _, _, _, _, _] _
            repeat (go_big_quiet_step (fail))
            refine wpQuiet_nil ?_
            show wpList _ _ _ [_] _ _
            go_wp2_with (go_at_call 44; refine (HG.out _ (hO.trans kd2)).mono ?_; rintro e w9 ⟨rfl, ho9⟩)
            refine check_of (S := []) (kd2.trans ho9) ?_
            show wpList _ _ _ [_] _ _
            go_wp2
            refine check_of (S := []) (kd2.trans ho9) ?_
            refine stagesNext ?_
            show wpQuiet _ _ _ _ [_, _, _, _, _, _, _, _, _, _, _, _, _, _, _, _, _, _, _, _] _
            try go_frame
            repeat (go_big_quiet_step (fail))
            refine wpQuiet_nil ?_
            show wpList _ _ _ [_] _ _
            go_wp2
            refine check_of (S := []) (kd2.trans ho9) ?_
            refine stagesNext ?_
            show wpQuiet _ _ _ _ [_, _, _] _
            try go_frame
            repeat (go_big_quiet_step (fail))
            refine wpQuiet_nil ?_
            refine stagesEnd0 ?_
            go_wp2_with (go_at_call 59; refine (HSj.out _ (hO.trans ((kd2.trans ho9)))).mono ?_; rintro e w12 ⟨rfl, ho12⟩)
            go_round
            case rel => exact ⟨(k : Int) + 1, by omega, by omega, by simp, hO.trans ((kd2.trans ho9).trans ho12)⟩
            case measure => simp [intOf]; omega
          | false =>
            by_cases hv : fl ≤ x.version
            · rw [show (!false && decide (fl ≤ x.version)) = true from by simp [hv]] at HSj
              go_wp2_with fail
              refine wp_region_stages (C := fun W => ∃ p : Within [] wr, W = p.W) [([0, 1, 2, 3, 4, 5, 6, 7, 8, 9, 10, 11, 12, 13, 14, 15, 16, 17, 18, 19, 20], [21, 22]), ([23, 24, 25, 26, 27, 28, 29, 30, 31, 32, 33, 34, 35, 36, 37, 38, 39, 40, 41, 42], [43]), ([44, 45, 46], [])] [] (by kernel_rfl) (by kernel_rfl) (by intro c d u a w h; cases d <;> exact h) ⟨⟨_, (Only.refl _ _).drew⟩, rfl⟩ ?_
              refine stagesFirst ?_
              show wpQuiet _ _ _ _ [_, _, _, _, _, _, _, _, _, _, _, _, _, _, _, _, _, _, _, _, _] _
              repeat (go_big_quiet_step (fail))
              refine wpQuiet_nil ?_
              show wpList _ _ _ [_] _ _
              go_wp2_with (go_at_call 44; refine (HG.out _ (hO.trans kd2)).mono ?_; rintro e w9 ⟨rfl, ho9⟩)
              refine check_of (S := []) (kd2.trans ho9) ?_
              show wpList _ _ _ [_] _ _
              go_wp2
              refine check_of (S := []) (kd2.trans ho9) ?_
              refine stagesNext ?_
              show wpQuiet _ _ _ _ [_, _, _, _, _, _, _, _, _, _, _, _, _, _, _, _, _, _, _, _] _
              try go_frame
              repeat (go_big_quiet_step (fail))
              refine wpQuiet_nil ?_
              show wpList _ _ _ [_] _ _
              go_wp2_with (go_at_call 58; refine (HF.out _ (hO.trans (kd2.trans ho9))).mono ?_; rintro e w10 ⟨rfl, ho10⟩)
              refine check_of (S := []) (kd2.trans (ho9.trans ho10)) ?_
              refine stagesNext ?_
              show wpQuiet _ _ _ _ [_, _, _] _
              try go_frame
              repeat (go_big_quiet_step (fail))
              refine wpQuiet_nil ?_
              refine stagesEnd0 ?_
              go_wp2_with (go_at_call 59; refine (HSj.out _ (hO.trans ((kd2.trans (ho9.trans ho10))))).mono ?_; rintro e w12 ⟨rfl, ho12⟩)
              go_round
              case rel => exact ⟨(k : Int) + 1, by omega, by omega, by simp, hO.trans ((kd2.trans (ho9.trans ho10)).trans ho12)⟩
              case measure => simp [intOf]; omega
            · rw [show (!false && decide (fl ≤ x.version)) = false from by simp [hv]] at HSj
              go_wp2_with fail
              refine wp_region_stages (C := fun W => ∃ p : Within [] wr, W = p.W) [([0, 1, 2, 3, 4, 5, 6, 7, 8, 9, 10, 11, 12, 13, 14, 15, 16, 17, 18, 19, 20], [21, 22]), ([23, 24, 25, 26, 27, 28, 29, 30, 31, 32, 33, 34, 35, 36, 37, 38, 39, 40, 41, 42], [43]), ([44, 45, 46], [])] [] (by kernel_rfl) (by kernel_rfl) (by intro c d u a w h; cases d <;> exact h) ⟨⟨_, (Only.refl _ _).drew⟩, rfl⟩ ?_
              refine stagesFirst ?_
              show wpQuiet _ _ _ _ [_, _, _, _, _, _, _, _, _, _, _, _, _, _, _, _, _, _, _, _, _] _
              repeat (go_big_quiet_step (fail))
              refine wpQuiet_nil ?_
              show wpList _ _ _ [_] _ _
              go_wp2_with (go_at_call 44; refine (HG.out _ (hO.trans kd2)).mono ?_; rintro e w9 ⟨rfl, ho9⟩)
              refine check_of (S := []) (kd2.trans ho9) ?_
              show wpList _ _ _ [_] _ _
              go_wp2
              refine check_of (S := []) (kd2.trans ho9) ?_
              refine stagesNext ?_
              show wpQuiet _ _ _ _ [_, _, _, _, _, _, _, _, _, _, _, _, _, _, _, _, _, _, _, _] _
              try go_frame
              repeat (go_big_quiet_step (fail))
              refine wpQuiet_nil ?_
              show wpList _ _ _ [_] _ _
              go_wp2_with (go_at_call 58; refine (HF.out _ (hO.trans (kd2.trans ho9))).mono ?_; rintro e w10 ⟨rfl, ho10⟩)
              refine check_of (S := []) (kd2.trans (ho9.trans ho10)) ?_
              refine stagesNext ?_
              show wpQuiet _ _ _ _ [_, _, _] _
              try go_frame
              repeat (go_big_quiet_step (fail))
              refine wpQuiet_nil ?_
              refine stagesEnd0 ?_
              go_wp2_with (go_at_call 59; refine (HSj.out _ (hO.trans ((kd2.trans (ho9.trans ho10))))).mono ?_; rintro e w12 ⟨rfl, ho12⟩)
              go_round
              case rel => exact ⟨(k : Int) + 1, by omega, by omega, by simp, hO.trans ((kd2.trans (ho9.trans ho10)).trans ho12)⟩
              case measure => simp [intOf]; omega
        · have hkl : k = s.all.length := by omega
          have HSj := Lib.hid (fun (W : World) (q : Only [] wx W) => HSee.out (k : Int) W q)
          rw [HW.out (k : Int), if_pos (.inr (by omega))] at HSj
          have hlt' : ¬ (k : Int) < (s.all.length : Int) := by omega
          clear hkl hneg
          go_wp2_with fail
          refine wp_region_stages (C := fun W => ∃ p : Within [] wr, W = p.W) [([0, 1, 2, 3, 4, 5, 6, 7, 8, 9, 10, 11, 12, 13, 14, 15, 16, 17, 18, 19, 20], [21, 22]), ([23, 24, 25, 26, 27, 28, 29, 30, 31, 32, 33, 34, 35, 36, 37, 38, 39, 40, 41, 42], [43]), ([44, 45, 46], [])] [] (by kernel_rfl) (by kernel_rfl) (by intro c d u a w h; cases d <;> exact h) ⟨⟨_, (Only.refl _ _).drew⟩, rfl⟩ ?_
          refine stagesFirst ?_
          show wpQuiet _ _ _ _ [_, _, _, _, _, _, _, _, _, _, _, _, _, _, _, _, _, _, _, _, _] _
          repeat (go_big_quiet_step (fail))
          refine wpQuiet_nil ?_
          show wpList _ _ _ [_] _ _
          go_wp2
          refine check_of (S := []) kd2 ?_
          show wpList _ _ _ [_] _ _
          go_wp2
          refine check_of (S := []) kd2 ?_
          refine stagesNext ?_
          show wpQuiet _ _ _ _ [_, _, _, _, _, _, _, _, _, _, _, _, _, _, _, _, _, _, _, _] _
          try go_frame
          repeat (go_big_quiet_step (fail))
          refine wpQuiet_nil ?_
          show wpList _ _ _ [_] _ _
          go_wp2
          refine check_of (S := []) kd2 ?_
          refine stagesNext ?_
          show wpQuiet _ _ _ _ [_, _, _] _
          try go_frame
          repeat (go_big_quiet_step (fail))
          refine wpQuiet_nil ?_
          refine stagesEnd0 ?_
          go_wp2_with (go_at_call 59; refine (HSj.out _ (hO.trans (kd2))).mono ?_; rintro e w12 ⟨rfl, ho12⟩)
          go_round
          case rel => exact ⟨(k : Int) + 1, by omega, by omega, by simp, hO.trans (kd2.trans ho12)⟩
          case measure => simp [intOf]; omega
    · have hjl' : ¬ j ≤ (s.all.length : Int) := hjl
      obtain ⟨_, _, en, hnl, hnc, hnm, heln⟩ := Rn.out
      injection en with en1 en2 en3
      subst en1 en3
      unfold maxLen at hnm
      have Heln := Lib.hid heln
      have hfd1 := fldG1
      have hfd3 := fldG3
      clear heln HSee Hel HW
      go_wp2_with fail
      go_loopw [13] (fun iv w2 => ∃ i : Nat, i ≤ ts.length ∧ iv = .int .i64 i ∧ Only [] wx w2) (fun iv _ => ts.length - (intOf iv).toNat)
      case atStart => exact ⟨0, Nat.zero_le _, rfl, hO⟩
      case round =>
        rename World => w2
        obtain ⟨i, hi, rfl, hO2⟩ := hrel
        by_cases hlt : i < ts.length
        · obtain ⟨b, off, rfl, hbb, hcc⟩ := Heln.out (by omega)
          have c0 : w2.cell? ⟨b, off + i, none⟩ = some (.string ts[i]) := by
            rw [(hO2.cell hbb (by simp)), hcc i (by simpa [strs] using hlt)]
            simp [strs, hlt]
          obtain ⟨n, hn⟩ : ∃ n, ts[i] = n := ⟨_, rfl⟩
          rw [hn] at c0
          have C1 := Lib.hid (HCnt.out n)
          have C2 := Lib.hid (HOf.out n)
          have C3 := Lib.hid (HFlo.out n)
          have C4 := Lib.hid (HDFl.out n)
          have C5 := Lib.hid (HDel.out n)
          have C6 := Lib.hid (HGet.out n)
          have C7 := Lib.hid (HMet.out n)
          obtain ⟨pl, hpl⟩ : ∃ pl, (s.find n).places.length = pl := ⟨_, rfl⟩
          obtain ⟨fo, hfo⟩ : ∃ fo, s.floorS n = fo := ⟨_, rfl⟩
          obtain ⟨dl, hdl⟩ : ∃ dl, (s.find n).deleted = dl := ⟨_, rfl⟩
          obtain ⟨mt, hmt⟩ : ∃ mt, (s.find n).mt = mt := ⟨_, rfl⟩
          rw [hpl] at C1 C2
          rw [hfo] at C3 C4
          rw [hdl, hmt] at C6
          rw [hdl] at C5
          rw [hmt] at C7
          obtain ⟨g1, g2, g3⟩ := mt
          simp only [MetaR.val] at C6 C7
          have q1 : ((pl : Int) != (pl : Int)) = false := by simp
          have q2 : (fo != fo) = false := by simp
          have q3 : (dl != dl) = false := by simp
          clear hcc hn hpl hfo hdl hmt HCnt HOf HFlo HDFl HDel HGet HMet
          go_wp2_with fail
          refine (C1.out _ hO2).mono ?_
          rintro e y1 ⟨rfl, k1⟩
          have o1 := hO2.trans k1
          go_wp2_with fail
          refine (C2.out _ o1).mono ?_
          rintro e y2 ⟨A2, c2, rfl, hc2, k2⟩
          have o2 := o1.trans k2
          unfold maxLen at hc2
          go_wp2_with fail
          refine (C3.out _ o2).mono ?_
          rintro e y3 ⟨rfl, k3⟩
          have o3 := o2.trans k3
          go_wp2_with fail
          refine (C4.out _ o3).mono ?_
          rintro e y4 ⟨rfl, k4⟩
          have o4 := o3.trans k4
          go_wp2_with fail
          refine (C5.out _ o4).mono ?_
          rintro e y5 ⟨rfl, k5⟩
          have o5 := o4.trans k5
          go_wp2_with fail
          refine (C6.out _ o5).mono ?_
          rintro e y6 ⟨rfl, k6⟩
          have o6 := o5.trans k6
          go_wp2_with fail
          refine (C7.out _ o6).mono ?_
          rintro e y7 ⟨rfl, k7⟩
          have o7 := o6.trans k7
          go_wp2_with fail
          refine (C6.out _ o7).mono ?_
          rintro e y8 ⟨rfl, k8⟩
          have o8 := o7.trans k8
          go_wp2
          exact ⟨⟨i + 1, hlt, by simp, o8⟩, by simp [intOf]; omega⟩
        · go_wp2
          go_ret
          exact ⟨rfl, HFin.out _ hO2⟩
end
end Go.Proofs.YtikboecmcbcghaaGreat
/- ModelPlays: what lies there at the start; a command's events copied with one more behind them. -/
set_option linter.unusedVariables false
set_option linter.unusedSimpArgs false
namespace Go.Proofs.YtikboecmcbcghaaGreat
open Go.RowKit Go Go.Sort
theorem infoEv : (Tryz.prog.info? 50).map (fun i => (i.zero, i.size, i.bytes)) = some (some (.agg #[.int .i64 0, .string ⟨#[]⟩, .string ⟨#[]⟩, .float .f64 0]), 4, 48) := by kernel_rfl
theorem ev_one (l : List EventR) : ∀ u ∈ l.flatMap EventR.cells, u.oneCell' = true := by
  intro u hu
  obtain ⟨x, -, hx⟩ := List.mem_flatMap.1 hu
  simp [EventR.cells] at hx
  rcases hx with rfl | rfl | rfl | rfl <;> rfl
section
variable {a w w' : World}
theorem hasD_new {g : Nat} (ha : Only [] a w) (hg : a.heap.size ≤ g) (h : Blk w g 31 #[.slice none 0 0, .slice none 0 0, .int .i64 0, .int .i64 0]) : HasD a w [g] g RS.new :=
  ⟨⟨.slice none 0 0, .slice none 0 0, ⟨h, World.ownsRow_nil _ _ _ _, World.ownsRow_nil _ _ _ _⟩, rfl⟩, ha, fun b q => by simp at q; omega⟩
theorem hasB_new {g : Nat} (ha : Only [] a w) (hg : a.heap.size ≤ g) (h : Blk w g 40 #[.slice none 0 0, .slice none 0 0, .slice none 0 0, .slice none 0 0, .slice none 0 0, .slice none 0 0, .slice none 0 0, .slice none 0 0, .slice none 0 0, .slice none 0 0, .slice none 0 0, .slice none 0 0]) : HasB a w [g] g :=
  ⟨⟨.slice none 0 0, .slice none 0 0, .slice none 0 0, .slice none 0 0, [], [], [], [], ⟨h, World.ownsRow_nil _ _ _ _, World.ownsRow_nil _ _ _ _, World.ownsRow_nil _ _ _ _, World.ownsRow_nil _ _ _ _, by simp [Value.ownBlock], by simp [Value.ownBlock], ⟨by simp, by simp [blocksV], by simp⟩, ⟨by simp, by simp [blocksV], by simp⟩, rfl, rfl, by simp, by simp, by simp⟩, by simp [hBk, blocksV, Value.ownBlock]⟩, ha, fun b q => by simp at q; omega⟩
theorem like_new : Like MS.new RS.new 0 := ⟨alike_new, inv2_new, few_new, Nat.le_refl _⟩
/-- The three at the start. -/
theorem trio_new {sb mb rb kb : Nat} {w1 w2 w3 : World} (hs : HasS a w1 [] [] sb mb MS.new 0) (k1 : Only [] w1 w2) (hb : Blk w2 rb 31 #[.slice none 0 0, .slice none 0 0, .int .i64 0, .int .i64 0]) (h1 : w1.heap.size ≤ rb) (k2 : Only [] w2 w3)
    (hk : Blk w3 kb 40 #[.slice none 0 0, .slice none 0 0, .slice none 0 0, .slice none 0 0, .slice none 0 0, .slice none 0 0, .slice none 0 0, .slice none 0 0, .slice none 0 0, .slice none 0 0, .slice none 0 0, .slice none 0 0]) (h2 : w2.heap.size ≤ kb) :
    Trio a w3 [] [rb] [kb] [] sb mb rb kb MS.new RS.new 0 := by
  have hs2 := hs.addR k1 h1 hb.lt
  have hs3 := hs2.addR k2 h2 hk.lt
  have hz := hs.only.size
  have hz1 := k1.size
  have hlt := hb.lt
  exact ⟨hs3.less (fun g hg => by simp at hg ⊢; omega) (by simp), hasD_new (hs3.only) (by omega) (k2.blk hb (by simp)), hasB_new hs3.only (by omega) hk, fun b q z => by simp at q z; omega, by simp⟩
theorem HasS.addEL {R E L : List Nat} {sb mb N : Nat} {s : MS} (h : HasS a w R E sb mb s N) (k : Only [] w w') (hL : ∀ g ∈ L, w.heap.size ≤ g ∧ g < w'.heap.size) : HasS a w' R (L ++ E) sb mb s N := by
  obtain ⟨M, av, pf, q1, q2, q3, q4⟩ := h.st
  refine ⟨h.only.trans k, ⟨M, av, pf, q1.only0 k, fun i hi => ⟨(q2 i hi).1, fun q => ?_⟩, q3, q4⟩, fun i hi => ?_, h.ok, h.inv⟩
  · rcases List.mem_append.1 q with q | q
    · have := q1.mlt i hi
      have := (hL i q).1
      omega
    · exact (q2 i hi).2 q
  · rcases List.mem_append.1 hi with hi | hi
    · exact (hL i hi).2
    · exact Nat.lt_of_lt_of_le (h.el i hi) k.size
theorem Trio.addEL {X H Hk E L : List Nat} {sb mb rb kb N : Nat} {s : MS} {r : RS} (h : Trio a w X H Hk E sb mb rb kb s r N) (k : Only [] w w') (hL : ∀ g ∈ L, w.heap.size ≤ g ∧ g < w'.heap.size) : Trio a w' X H Hk (L ++ E) sb mb rb kb s r N :=
  ⟨h.st.addEL k hL, h.doc.keep0 k, h.bk.keep0 k, h.dis, h.dx⟩
def zzE : EventR := ⟨9, ⟨#[116]⟩, ⟨#[]⟩, 0⟩
def zzC : Cmd := ⟨1, 0, ⟨#[122, 122]⟩, -2, [zzE], MetaR.zero⟩
theorem zzC_ok : CmdOk zzC := ⟨by decide, fun e he => by simp [zzC] at he; subst he; decide⟩
/-- One of two takes the command. -/
theorem pair_zz {R E : List Nat} {sb mb sc mc N g : Nat} {s : MS} {w2 : World} (h : Pair a w R E sb mb sc mc s N) (hN : N ≤ 100000) (k : Only [] w w2) (hb : Blk w2 g 50 #[.int .i64 9, .string ⟨#[116]⟩, .string ⟨#[]⟩, .float .f64 0]) (hg : w.heap.size ≤ g) :
    Calls Tryz.prog 10 #[.pointer (some ⟨sb, 0, none⟩), .agg #[.int .i64 1, .int .i64 0, .string ⟨#[122, 122]⟩, .int .i64 (-2), .slice (some ⟨g, 0, none⟩) 1 1, .int .i64 0, .int .i64 0, .int .i64 0]] w2 fun e w' => (∃ v, e = .returned v) ∧ HasS a w' R (g :: E) sc mc s N ∧ Keeps a (R ++ g :: E) w2 w' :=
  pair_do (c := zzC) (h.addE k hg hb.lt) hN zzC_ok (ev_in (e := zzE) hb (by simp))
end
end Go.Proofs.YtikboecmcbcghaaGreat
/- 'a, b := s.Do(c), r.Do(d)': the two calls and their boxes, in whatever order they come; the world's side. -/
set_option linter.unusedVariables false
set_option linter.unusedSimpArgs false
namespace Go.Proofs.YtikboecmcbcghaaGreat
open Go.RowKit Go Go.Sort
theorem inv_intro_k {P : Program} {C : World → Prop} {Q : Exit → Act → World → Prop} {l : List Oper} {H T : List Nat} {a0 : Act} {w0 : World} (I : Act → Array Bool → Act → World → Prop) (h0 : I a0 (listedOf l.toArray.size H) a0 w0)
    (hstep : ∀ i ∈ T, ∀ listed a w, i ∈ Region.ready .any l.toArray listed → I a0 listed a w → ∀ K : Act → World → Prop, Hid (∀ a' w', I a0 (listed.setIfInBounds i true) a' w' → K a' w') → wpList P l.toArray (CheckQ C Q K) (opsAt l [i]) a w)
    (hend : ∀ listed a w, I a0 listed a w → (∀ t ∈ T, listed.getD t false = true) → Q .normal a w) : InvGo P l C Q H T a0 w0 :=
  inv_intro I h0 (fun i hi listed a w hr hI => hstep i hi listed a w hr hI _ (fun _ _ h => h)) hend
def ansC (x : Ans) : Array Value := #[.int .i64 x.err, .int .i64 x.version, .int .i64 x.position, .bool x.again]
def ans0 : Array Value := #[.int .i64 0, .int .i64 0, .int .i64 0, .bool false]
structure DoW (a W0 : World) (E Hk : List Nat) (sb mb rb kb : Nat) (s s' : MS) (r r' : RS) (k : Nat) (an : Ans) (f2 f8 f9 f10 f11 f12 : Bool) (W : World) (v20 v21 v119 v125 : Value) (X H : List Nat) : Prop where
  trio : Trio a W X H Hk E sb mb rb kb (if f2 then s' else s) (if f8 then r' else r) (if f2 then k + 1 else k)
  kept : Keeps a E W0 W
  h82 : f8 = true → f2 = true
  h2 : f2 = true → v119 = an.val
  h8 : f8 = true → v125 = an.val
  h9 : f9 = true → ∃ b, v20 = .pointer (some ⟨b, 0, none⟩) ∧ b ∈ X ∧ Blk W b 54 (if f11 then ansC an else ans0)
  h10 : f10 = true → ∃ b, v21 = .pointer (some ⟨b, 0, none⟩) ∧ b ∈ X ∧ Blk W b 54 (if f12 then ansC an else ans0)
  h910 : f9 = true → f10 = true → v20 ≠ v21
  h11 : f11 = true → f9 = true ∧ f10 = true
  h12 : f12 = true → f11 = true
section
variable {a W0 W W' : World} {E Hk X H : List Nat} {sb mb rb kb k : Nat} {s s' : MS} {r r' : RS} {an : Ans} {f2 f8 f9 f10 f11 f12 : Bool} {v20 v21 v119 v125 : Value}
theorem DoW.step2 (h : DoW a W0 E Hk sb mb rb kb s s' r r' k an false f8 f9 f10 f11 f12 W v20 v21 v119 v125 X H) (hs : HasS a W' (X ++ (H ++ Hk)) E sb mb s' (k + 1)) (hk : Keeps a (X ++ (H ++ Hk) ++ E) W W') :
    DoW a W0 E Hk sb mb rb kb s s' r r' k an true f8 f9 f10 f11 f12 W' v20 v21 an.val v125 X H := by
  have h8 : f8 = false := by
    cases q : f8
    · rfl
    · cases h.h82 q
  subst h8
  have ht : Trio a W X H Hk E sb mb rb kb s r k := h.trio
  obtain ⟨t1, t2⟩ := ht.doS (fun _ q => q) hs hk
  refine ⟨t1, h.kept.trans (t2.less (fun g q => List.mem_append_right _ q)), by simp, fun _ => rfl, by simp, fun q => ?_, fun q => ?_, h.h910, h.h11, h.h12⟩
  · obtain ⟨b, q1, q2, q3⟩ := h.h9 q
    exact ⟨b, q1, q2, hk.blk q3 (.inr (by simp [q2]))⟩
  · obtain ⟨b, q1, q2, q3⟩ := h.h10 q
    exact ⟨b, q1, q2, hk.blk q3 (.inr (by simp [q2]))⟩
theorem DoW.step8 (h : DoW a W0 E Hk sb mb rb kb s s' r r' k an true false f9 f10 f11 f12 W v20 v21 v119 v125 X H) (hd : DTo a W H rb r' W') :
    ∃ H', DoW a W0 E Hk sb mb rb kb s s' r r' k an true true f9 f10 f11 f12 W' v20 v21 v119 an.val X H' := by
  have ht : Trio a W X H Hk E sb mb rb kb s' r (k + 1) := h.trio
  obtain ⟨H', t1, t2⟩ := ht.doD hd
  refine ⟨H', t1, h.kept.trans (t2.less (fun g q => List.mem_append_right _ q)), by simp, h.h2, fun _ => rfl, fun q => ?_, fun q => ?_, h.h910, h.h11, h.h12⟩
  · obtain ⟨b, q1, q2, q3⟩ := h.h9 q
    exact ⟨b, q1, q2, t2.blk q3 (.inr (by simp [q2]))⟩
  · obtain ⟨b, q1, q2, q3⟩ := h.h10 q
    exact ⟨b, q1, q2, t2.blk q3 (.inr (by simp [q2]))⟩
theorem DoW.step9 (h : DoW a W0 E Hk sb mb rb kb s s' r r' k an f2 f8 false f10 f11 f12 W v20 v21 v119 v125 X H) :
    DoW a W0 E Hk sb mb rb kb s s' r r' k an f2 f8 true f10 f11 f12 (W.alloc (.cells ans0 54)) (.pointer (some ⟨W.heap.size, 0, none⟩)) v21 v119 v125 (W.heap.size :: X) H := by
  have h11 : f11 = false := by
    cases q : f11
    · rfl
    · cases (h.h11 q).1
  subst h11
  have hl := fun b (q : b ∈ X) => (h.trio.st.rl b (by simp [q])).2.1
  have ho := (Only.refl [] W).alloc (.cells ans0 54)
  refine ⟨h.trio.boxX _, h.kept.then0 ho, h.h82, h.h2, h.h8, fun _ => ⟨_, rfl, by simp, Blk.new _ _ _⟩, fun q => ?_, fun _ q => ?_, by simp, h.h12⟩
  · obtain ⟨b, q1, q2, q3⟩ := h.h10 q
    exact ⟨b, q1, List.mem_cons_of_mem _ q2, ho.blk q3 (by simp)⟩
  · obtain ⟨b, q1, q2, q3⟩ := h.h10 q
    rw [q1]
    intro e
    injection e with e
    injection e with e
    injection e with e
    have := hl b q2
    omega
theorem DoW.step10 (h : DoW a W0 E Hk sb mb rb kb s s' r r' k an f2 f8 f9 false f11 f12 W v20 v21 v119 v125 X H) :
    DoW a W0 E Hk sb mb rb kb s s' r r' k an f2 f8 f9 true f11 f12 (W.alloc (.cells ans0 54)) v20 (.pointer (some ⟨W.heap.size, 0, none⟩)) v119 v125 (W.heap.size :: X) H := by
  have h12 : f12 = false := by
    cases q : f12
    · rfl
    · cases (h.h11 (h.h12 q)).2
  subst h12
  have hl := fun b (q : b ∈ X) => (h.trio.st.rl b (by simp [q])).2.1
  have ho := (Only.refl [] W).alloc (.cells ans0 54)
  refine ⟨h.trio.boxX _, h.kept.then0 ho, h.h82, h.h2, h.h8, fun q => ?_, fun _ => ⟨_, rfl, by simp, Blk.new _ _ _⟩, fun q _ => ?_, fun q => ⟨(h.h11 q).1, rfl⟩, by simp⟩
  · obtain ⟨b, q1, q2, q3⟩ := h.h9 q
    exact ⟨b, q1, List.mem_cons_of_mem _ q2, ho.blk q3 (by simp)⟩
  · obtain ⟨b, q1, q2, q3⟩ := h.h9 q
    rw [q1]
    intro e
    injection e with e
    injection e with e
    injection e with e
    have := hl b q2
    omega
/-- The flags of the six operations. -/
def DoI (a W0 : World) (E Hk : List Nat) (sb mb rb kb : Nat) (s s' : MS) (r r' : RS) (k : Nat) (an : Ans) (A0 : Act) (listed : Array Bool) (ac : Act) (W : World) : Prop :=
  ∃ v20 v21 v119 v125 X H, ac = (((A0.put (some 20) v20).put (some 21) v21).put (some 119) v119).put (some 125) v125 ∧
    DoW a W0 E Hk sb mb rb kb s s' r r' k an (listed.getD 2 false) (listed.getD 8 false) (listed.getD 9 false) (listed.getD 10 false) (listed.getD 11 false) (listed.getD 12 false) W v20 v21 v119 v125 X H
/-- A box takes its answer. -/
theorem DoW.step11 {b : Nat} (h : DoW a W0 E Hk sb mb rb kb s s' r r' k an f2 f8 true true false f12 W (.pointer (some ⟨b, 0, none⟩)) v21 v119 v125 X H) (ho : Only [b] W W') (hb : Blk W' b 54 (ansC an)) :
    DoW a W0 E Hk sb mb rb kb s s' r r' k an f2 f8 true true true f12 W' (.pointer (some ⟨b, 0, none⟩)) v21 v119 v125 X H := by
  obtain ⟨b1, e1, q2, q3⟩ := h.h9 rfl
  injection e1 with e1
  injection e1 with e1
  injection e1 with e1
  subst e1
  obtain ⟨t1, t2⟩ := h.trio.turnX ho (fun g q => by simp at q; subst q; exact q2)
  refine ⟨t1, h.kept.trans t2, h.h82, h.h2, h.h8, fun _ => ⟨b, rfl, q2, hb⟩, fun q => ?_, h.h910, fun _ => ⟨rfl, rfl⟩, fun _ => rfl⟩
  obtain ⟨b2, r1, r2, r3⟩ := h.h10 q
  refine ⟨b2, r1, r2, ho.blk r3 (fun z => ?_)⟩
  simp at z
  subst z
  exact h.h910 rfl rfl r1.symm
theorem DoW.step12 {b : Nat} (h : DoW a W0 E Hk sb mb rb kb s s' r r' k an f2 f8 true true true false W v20 (.pointer (some ⟨b, 0, none⟩)) v119 v125 X H) (ho : Only [b] W W') (hb : Blk W' b 54 (ansC an)) :
    DoW a W0 E Hk sb mb rb kb s s' r r' k an f2 f8 true true true true W' v20 (.pointer (some ⟨b, 0, none⟩)) v119 v125 X H := by
  obtain ⟨b1, e1, q2, q3⟩ := h.h10 rfl
  injection e1 with e1
  injection e1 with e1
  injection e1 with e1
  subst e1
  obtain ⟨t1, t2⟩ := h.trio.turnX ho (fun g q => by simp at q; subst q; exact q2)
  refine ⟨t1, h.kept.trans t2, h.h82, h.h2, h.h8, fun q => ?_, fun _ => ⟨b, rfl, q2, hb⟩, h.h910, h.h11, fun _ => rfl⟩
  obtain ⟨b2, r1, r2, r3⟩ := h.h9 q
  refine ⟨b2, r1, r2, ho.blk r3 (fun z => ?_)⟩
  simp at z
  subst z
  exact h.h910 rfl rfl r1
end
end Go.Proofs.YtikboecmcbcghaaGreat
/- What is read behind each command: pages of the program's state and of the document's, one event, all that is seen; a row of one's own is kept by the book. -/
set_option linter.unusedVariables false
set_option linter.unusedSimpArgs false
namespace Go.Proofs.YtikboecmcbcghaaGreat
open Go.RowKit Go Go.Sort
/-! ## plain -/
theorem pageBy_false (key : StoredR → Int) (l : List StoredR) (f n : Int) : pageBy key l f n false = forwardBy key l f n := by unfold pageBy forwardBy; simp
theorem readP_false (s : MS) (n : ByteArray) (f k : Int) : s.readP n f k false = s.readF n f k := by unfold MS.readP MS.readF MS.readOk; rw [pageBy_false]
theorem bwdGo_few (key : StoredR → Int) (f n : Int) : ∀ (l acc : List StoredR) (nx : Int), (bwdGo key f n l acc nx).events.length ≤ acc.length + l.length
  | [], acc, nx => by simp [bwdGo]
  | s :: l, acc, nx => by
    unfold bwdGo
    split
    · have := bwdGo_few key f n l acc nx
      simp
      omega
    · split
      · simp
      · have := bwdGo_few key f n l (acc ++ [s]) (max (key s) 0 - 1)
        simp at this ⊢
        omega
theorem pageBy_few (key : StoredR → Int) (l : List StoredR) (f n : Int) (back : Bool) : (pageBy key l f n back).1.events.length ≤ l.length := by
  cases back
  · rw [pageBy_false]; exact forwardBy_few key l f n
  · unfold pageBy
    split
    · simp [PageR.zero]
    · have := bwdGo_few key f n l.reverse [] f
      simpa using this
theorem seenL_less {s : MS} (hi : s.Inv) (h2 : s.Inv2) (n : ByteArray) : (s.seenL n).length ≤ s.all.length := by
  rw [seenL_filter hi h2]
  exact Nat.le_trans (List.length_filter_le _ _) (List.length_filter_le _ _)
theorem readP_few {s : MS} (hi : s.Inv) (h2 : s.Inv2) (n : ByteArray) (f k : Int) (back : Bool) : (s.readP n f k back).1.events.length ≤ s.all.length := by
  unfold MS.readP
  split
  · simp [PageR.zero]
  · split
    · simp [PageR.zero]
    · split
      · simp [PageR.zero]
      · exact Nat.le_trans (pageBy_few _ _ _ _ _) (seenL_less hi h2 n)
theorem atB_atP (s : MS) (n : ByteArray) (v : Int) : s.atB n v = s.atP n v := by
  unfold MS.atB MS.atP
  by_cases h : v < 0 ∨ ((s.find n).places.length : Int) ≤ v
  · rw [if_pos h, if_pos (by omega)]
  · rw [if_neg h]
    cases q : s.seenAt (((s.find n).places[v.toNat]?).getD 0)
    · simp
    · rw [if_pos rfl, if_neg (by simp; omega)]
/-- What the law looks for in all that is seen. -/
def wantAt (n : ByteArray) (v : Int) (l : List StoredR) : Option StoredR := if n.toList = [] then none else lastV v l none
theorem lastV_snoc (v : Int) : ∀ (l : List StoredR) (e : StoredR) (o : Option StoredR), lastV v (l ++ [e]) o = if e.version = v then some e else lastV v l o
  | [], e, o => rfl
  | x :: l, e, o => by
    show lastV v (l ++ [e]) _ = _
    rw [lastV_snoc v l e]
    rfl
theorem want_at {s : MS} {r : RS} (h : Alike s r) (hi : s.Inv) (h2 : s.Inv2) (n : ByteArray) (v : Int) : wantAt n v (r.seenD n) = s.atP n v := by
  unfold wantAt
  split
  · rename_i hn
    have h0 : (s.find n).places.length = 0 := by
      by_cases q : (s.find n).places.length = 0
      · exact q
      · exact absurd hn (name_some (name_of hi h2 n q))
    unfold MS.atP
    rw [if_pos (by omega)]
  · rename_i hn
    rw [h.seenS hi h2 hn, at_last hi h2]
theorem wantAt_nil {n : ByteArray} (h : n.toList = []) (v : Int) (l : List StoredR) : wantAt n v l = none := by unfold wantAt; rw [if_pos h]
theorem wantAt_succ {n : ByteArray} (h : n.toList ≠ []) (v : Int) (l : List StoredR) {j : Nat} (hj : j < l.length) : wantAt n v (l.take (j + 1)) = if l[j].version = v then some l[j] else wantAt n v (l.take j) := by
  unfold wantAt
  rw [if_neg h, if_neg h, List.take_succ_eq_append_getElem hj, lastV_snoc]
theorem wantAt_zero (n : ByteArray) (v : Int) : wantAt n v [] = none := by unfold wantAt; split <;> rfl
def stC (x : StoredR) : Array Value := #[.int .i64 x.ev.id, .string x.ev.type, .string x.ev.data, .float .f64 x.ev.value, .string x.stream, .int .i64 x.version, .int .i64 x.position, .int .i64 x.time]
/-! ## the calls -/
section
variable {a w w' : World} {X X' H Hk E : List Nat} {sb mb rb kb N : Nat} {s : MS} {r : RS}
theorem sread_any (h : HasS a w X E sb mb s N) (hN : N ≤ 100000) (n : ByteArray) (hn : n.size ≤ maxLen) (f k : Int) (back : Bool) : Calls Tryz.prog 15 #[.pointer (some ⟨sb, 0, none⟩), .string n, .int .i64 f, .int .i64 k, .bool back] w (PageRet w (s.readP n f k back)) := by
  cases back
  · rw [readP_false]; exact has_read h hN n hn f k
  · obtain ⟨M, av, pf, h1, h2⟩ := h.st
    exact readB_any h1 h.ok hN n hn f k (seenL_vers h.inv h.ok hN n)
theorem sall_any (h : HasS a w X E sb mb s N) (hN : N ≤ 100000) (f k : Int) (back : Bool) : Calls Tryz.prog 17 #[.pointer (some ⟨sb, 0, none⟩), .int .i64 f, .int .i64 k, .bool back] w (PageRet w (pageBy StoredR.position s.seenAll f k back)) := by
  cases back
  · rw [pageBy_false]; exact has_all h hN f k
  · exact has_allB h hN f k
theorem vers_bd (hi : s.Inv) (ok : s.Ok N) (hN : N ≤ 100000) : ∀ e ∈ s.all, 0 ≤ e.version ∧ e.version ≤ 1000000000 := by
  intro e he
  obtain ⟨i, hl, rfl⟩ := List.mem_iff_getElem.1 he
  obtain ⟨k, q1, q2⟩ := hi.ver i hl
  have h1 := (List.getElem?_eq_some_iff.1 q2).1
  have := (ok.xok s.all[i].stream).few
  have := ok.all
  omega
theorem pos_bd (hi : s.Inv) (ok : s.Ok N) (hN : N ≤ 100000) : ∀ e ∈ s.all, 0 ≤ e.position ∧ e.position ≤ 1000000000 := by
  intro e he
  obtain ⟨i, hl, rfl⟩ := List.mem_iff_getElem.1 he
  have := hi.pos i hl
  have := ok.all
  omega
/-- A page as a call leaves it, in literals. -/
def PageLit (w : World) (ps : List StoredR) (pn : Int) (pe : Bool) (pr : Int) (e : Ending) (w' : World) : Prop :=
  ∃ A c, e = .returned (.tuple #[.agg #[.slice A ps.length c, .int .i64 pn, .bool pe], .int .i64 pr]) ∧ w'.ownsRow w.heap.size 66 8 (.slice A ps.length c) ps.length (ps.flatMap StoredR.cells) ∧ Only [] w w'
theorem page_lit {r : PageR × Int} {w : World} {n : Nat} {args : Array Value} (h : Calls Tryz.prog n args w (PageRet w r)) : Calls Tryz.prog n args w (PageLit w r.1.events r.1.next r.1.isEnd r.2) :=
  h.mono fun e w' ⟨pv, h1, h2, h3⟩ => by
    obtain ⟨A, c, rfl, _, _⟩ := own_form h2
    exact ⟨A, c, h1, h2, h3⟩
theorem atV_lit (o : Option StoredR) : atV o = .tuple #[.agg #[.int .i64 (o.getD StoredR.zero).ev.id, .string (o.getD StoredR.zero).ev.type, .string (o.getD StoredR.zero).ev.data, .float .f64 (o.getD StoredR.zero).ev.value, .string (o.getD StoredR.zero).stream, .int .i64 (o.getD StoredR.zero).version, .int .i64 (o.getD StoredR.zero).position, .int .i64 (o.getD StoredR.zero).time], .bool o.isSome] := by
  cases o <;> rfl
/-- All that the law reads behind a command. -/
theorem reads_any (hL : Like s r N) (hi : s.Inv) (ho : s.Ok N) (hN : N ≤ 1000) (n : ByteArray) (hn : n.size ≤ maxLen) (f k v : Int) (back : Bool) :
    ∃ (ps : List StoredR) (pn : Int) (pe : Bool) (pr : Int) (us : List StoredR) (un : Int) (ue : Bool) (ur : Int) (x : StoredR) (is : Bool) (L : List StoredR), ps.length ≤ 900000 ∧ us.length ≤ 900000 ∧ L.length ≤ 900000 ∧ (wantAt n v L).getD StoredR.zero = x ∧ (wantAt n v L).isSome = is ∧
      ∀ (a W : World) (X H Hk E : List Nat) (sb mb rb kb : Nat), Trio a W X H Hk E sb mb rb kb s r N →
        Calls Tryz.prog 15 #[.pointer (some ⟨sb, 0, none⟩), .string n, .int .i64 f, .int .i64 k, .bool back] W (PageLit W ps pn pe pr) ∧
        Calls Tryz.prog 16 #[.pointer (some ⟨rb, 0, none⟩), .string n, .int .i64 f, .int .i64 k, .bool back] W (PageLit W ps pn pe pr) ∧
        Calls Tryz.prog 17 #[.pointer (some ⟨sb, 0, none⟩), .int .i64 f, .int .i64 k, .bool back] W (PageLit W us un ue ur) ∧
        Calls Tryz.prog 18 #[.pointer (some ⟨rb, 0, none⟩), .int .i64 f, .int .i64 k, .bool back] W (PageLit W us un ue ur) ∧
        Calls Tryz.prog 20 #[.pointer (some ⟨sb, 0, none⟩), .string n, .int .i64 v] W (fun e w' => e = .returned (.tuple #[.agg #[.int .i64 x.ev.id, .string x.ev.type, .string x.ev.data, .float .f64 x.ev.value, .string x.stream, .int .i64 x.version, .int .i64 x.position, .int .i64 x.time], .bool is]) ∧ Only [] W w') ∧
        Calls Tryz.prog 21 #[.pointer (some ⟨rb, 0, none⟩), .string n] W (fun e w' => ∃ A c, e = .returned (.slice A L.length c) ∧ w'.ownsRow W.heap.size 66 8 (.slice A L.length c) L.length (L.flatMap StoredR.cells) ∧ Only [] W w') := by
  have hal := hL.alike
  have hi2 := hL.inv2
  have hfine := hal.fine ho (by omega)
  have hall := ho.all
  have hrl := hal.l
  have hlen : r.l.length = s.all.length := by rw [hrl]
  have hn0 : (⟨#[]⟩ : ByteArray).toList = [] := by rw [ByteArray.toList_eq]
  refine ⟨(s.readP n f k back).1.events, (s.readP n f k back).1.next, (s.readP n f k back).1.isEnd, (s.readP n f k back).2, (pageBy StoredR.position s.seenAll f k back).1.events, (pageBy StoredR.position s.seenAll f k back).1.next, (pageBy StoredR.position s.seenAll f k back).1.isEnd, (pageBy StoredR.position s.seenAll f k back).2, (wantAt n v (r.seenD n)).getD StoredR.zero, (wantAt n v (r.seenD n)).isSome, r.seenD n, ?_, ?_, ?_, rfl, rfl, fun a W X H Hk E sb mb rb kb hT => ⟨?_, ?_, ?_, ?_, ?_, ?_⟩⟩
  · have := readP_few hi hi2 n f k back
    omega
  · have := pageBy_few StoredR.position s.seenAll f k back
    have : s.seenAll.length ≤ s.all.length := List.length_filter_le _ _
    omega
  · have : (r.seenD n).length ≤ r.l.length := List.length_filter_le _ _
    omega
  · exact page_lit (sread_any hT.st (by omega) n hn f k back)
  · refine page_lit ?_
    rw [← hal.read hi hi2]
    exact dread_any hT.doc hfine n hn f k back (by rw [hrl]; exact vers_bd hi ho (by omega))
  · exact page_lit (sall_any hT.st (by omega) f k back)
  · refine page_lit ?_
    rw [← hal.allP hi hi2 hn0]
    exact dall_any hT.doc hfine f k back (by rw [hrl]; exact pos_bd hi ho (by omega))
  · obtain ⟨M, av, pf, h1, h2⟩ := hT.st.st
    rw [← atV_lit, want_at hal hi hi2, ← atB_atP]
    exact atS_any h1 hT.st.ok (by omega) hi n v
  · refine (dseen_any hT.doc hfine n).mono ?_
    rintro e w' ⟨v', rfl, ho', k'⟩
    obtain ⟨A, c, rfl, _, _⟩ := own_form ho'
    exact ⟨A, c, rfl, ho', k'⟩
/-! ## the book keeps a row of one's own -/
theorem Trio.keep1 {va : Value} (h : Trio a w X H Hk E sb mb rb kb s r N) (hva : ∀ g, va.ownBlock = some g → g ∈ X) (hX : ∀ g ∈ X', g ∈ X ∧ va.ownBlock ≠ some g) (hk : KpTo a w Hk kb va w') :
    ∃ Hk', Trio a w' X' H Hk' E sb mb rb kb s r N ∧ Keeps a (X ++ E) w w' ∧ (∃ S, Only S w w' ∧ (∀ b ∈ S, b ∈ Hk) ∧ ∀ b ∈ S, ∀ cur, ¬ Blk w b 66 cur ∧ ¬ Blk w b 9 cur) := by
  obtain ⟨Hk', hb, ⟨S, o, sS, t⟩, m⟩ := hk
  have hrl := h.st.rl
  have hst : Stepped w w' (X ++ Hk) Hk' := ⟨⟨S, o, fun b q => List.mem_append_right _ (sS b q)⟩, fun b q => by
    rcases m b q with y | y | y
    · exact .inl (List.mem_append_right _ y)
    · exact .inl (List.mem_append_left _ (hva b y))
    · exact .inr y⟩
  refine ⟨Hk', ⟨(h.st.stepR hst (fun g q => by simp at q ⊢; rcases q with q | q; exact .inl q; exact .inr (.inr q)) hb.lt).less (fun g hg => ?_) (fun _ q => q), h.doc.keep o (fun b q => h.bk.above b (sS b q)) (fun b q z => h.dis b (sS b z) q), hb, fun b q z => ?_, fun b q => ⟨(h.dx b (hX b q).1).1, fun z => ?_⟩⟩, ⟨S, o, fun g hg => ⟨h.bk.above g (sS g hg), fun z => ?_⟩⟩, ⟨S, o, sS, t⟩⟩
  · simp only [List.mem_append] at hg ⊢
    rcases hg with y | y | y
    · exact .inr (.inl (hX g y).1)
    · exact .inr (.inr (.inl y))
    · exact .inl y
  · rcases m b q with y | y | y
    · exact h.dis b y z
    · exact (h.dx b (hva b y)).1 z
    · have := h.doc.lt b z
      omega
  · rcases m b z with y | y | y
    · exact (h.dx b (hX b q).1).2 y
    · exact (hX b q).2 y
    · have := (hrl b (by simp [(hX b q).1])).2.1
      omega
  · rcases List.mem_append.1 z with y | y
    · exact (h.dx g y).2 (sS g hg)
    · exact (hrl g (by simp [sS g hg])).2.2 y
/-- A fresh row of one's own. -/
theorem Trio.addRow {t : TypeId} {sz n : Nat} {v : Value} {xs : List Value} (h : Trio a w X H Hk E sb mb rb kb s r N) (k : Only [] w w') (hv : w'.ownsRow w.heap.size t sz v n xs) : Trio a w' (v.ownBlock.toList ++ X) H Hk E sb mb rb kb s r N := by
  cases q : v.ownBlock with
  | none => exact h.keep0 k
  | some g =>
    have := World.ownsRow.lt hv g q
    exact h.addX k this.1 this.2
end
end Go.Proofs.YtikboecmcbcghaaGreat
