/- Proved here: contracts of functions and plain laws, part 28 of one proof. Conditions: each theorem names its own. -/
import Derived.Test.YteinoiicnmemhaaGreatDoorZ16
import Derived.RangeFuncNested
import Derived.RangeFuncBound
import Derived.RangeFuncCalls
import Derived.RangeFuncLeaves
import Derived.RangeFuncBox
import Derived.Shelf.Abstract
import Derived.Shelf.RegionOpen
import Derived.WalkKit
import Derived.OwnWalkIn
import Derived.TacticsInMore
import Derived.LoopNIn
import Derived.LoopIn
set_option linter.unusedSimpArgs false
set_option linter.unusedVariables false
namespace Go.Proofs.YteinoiicnmemhaaGreatDoor
section
open Go Go.RowKit Go.Shelf Go.Proofs
attribute [local go_sem] Oper.semAt_some
/-- An event of the list, and its place. -/
structure BkE (l : List StoredR) where
  i : Int
  x : StoredR
  mem : x ∈ l
def bkV {l : List StoredR} (e : BkE l) : Array Value := #[.int .i64 e.i, .agg #[.int .i64 e.x.ev.id, .string e.x.ev.type, .string e.x.ev.data, .float .f64 e.x.ev.value, .string e.x.stream, .int .i64 e.x.version, .int .i64 e.x.position, .int .i64 e.x.time]]
theorem bk_step {l : List StoredR} {k : Nat} (hk : k < l.length) {pre : List (BkE l)} (h : pre.map (·.x) = (l.drop (l.length - k)).reverse) (hm : l[l.length - k - 1] ∈ l) :
    (pre ++ [(⟨((l.length - k - 1 : Nat) : Int), l[l.length - k - 1], hm⟩ : BkE l)]).map (·.x) = (l.drop (l.length - (k + 1))).reverse := by
  have e : l.length - (k + 1) = l.length - k - 1 := by omega
  rw [List.map_append, h, e, List.drop_eq_getElem_cons (i := l.length - k - 1) (by omega), List.reverse_cons]
  have e2 : l.length - k - 1 + 1 = l.length - k := by omega
  rw [e2]
  rfl
/-- The blocks of T stay as they are. -/
def KeepT (T : List Nat) (A B : World) : Prop := A.heap.size ≤ B.heap.size ∧ ∀ i ∈ T, B.heap[i]? = A.heap[i]?
theorem KeepT.refl (T : List Nat) (A : World) : KeepT T A A := ⟨Nat.le_refl _, fun _ _ => rfl⟩
theorem KeepT.trans {T : List Nat} {A B C : World} (h : KeepT T A B) (k : KeepT T B C) : KeepT T A C := ⟨Nat.le_trans h.1 k.1, fun i hi => (k.2 i hi).trans (h.2 i hi)⟩
theorem KeepT.cell {T : List Nat} {A B : World} (h : KeepT T A B) {p : Addr} (hp : p.block ∈ T) : B.cell? p = A.cell? p := World.cell?_of_block (h.2 _ hp)
theorem KeepT.put {T : List Nat} {w : World} (hT : ∀ i ∈ T, i < w.heap.size) : ∀ (W : World) (l : Nat) (o o' : Obj), w.heap.size ≤ l → W.heap[l]? = some o → o.isCells = false → o.isWalk = false → KeepT T W (W.putObj l o') := fun W l o o' hl _ _ _ => ⟨by simp [World.putObj], fun i hi => by
  have := hT i hi
  have h : l ≠ i := by omega
  simp [World.putObj, Array.getElem?_setIfInBounds, h]⟩
theorem KeepT.only {T S : List Nat} {A B : World} (k : Only S A B) (hT : ∀ i ∈ T, i < A.heap.size ∧ i ∉ S) : KeepT T A B := ⟨k.size, fun i hi => k.block i (hT i hi).1 (hT i hi).2⟩
set_option maxRecDepth 100000 in
set_option maxHeartbeats 2000000 in
theorem bk1_in (F : Fence) (n : Nat) (h8 : F.fn 172) (hro : F.round = none) (hn : 1 ≤ n) (T : List Nat) (ly Bs b off cap : Nat) (l : List StoredR) (hreach : l.length ≤ 1000000) (hb : b ∈ T) (J Jx : List (BkE l) → World → Prop)
    (hY : ∀ pre x W, J pre W → pre.length < l.length → YieldAt F (n - 1) Tryz.prog ly (bkV x) W fun e W' =>
      (e = .returned (.bool true) ∧ J (pre ++ [x]) W' ∧ KeepT T W W') ∨ (e = .returned (.bool false) ∧ Jx (pre ++ [x]) W'))
    (W : World) (hBl : Bs ∈ T) (hBs : W.cell? ⟨Bs, 0, none⟩ = some (.slice (some ⟨b, off, none⟩) l.length cap))
    (hc : ∀ j (hj : j < l.length), ∀ r, r < 8 → W.cell? ⟨b, off + j * 8 + r, none⟩ = (l[j].cells)[r]?) (h0 : J [] W) :
    CallsIn F n Tryz.prog 172 #[.func (.yield ly) #[] #[], .pointer (some ⟨Bs, 0, none⟩)] W fun e W' => (∃ v, e = .returned v) ∧
      ((∃ ys, ys.map (·.x) = l.reverse ∧ J ys W') ∨ (∃ pre, pre.map (·.x) <+: l.reverse ∧ Jx pre W')) := by
  refine callsIn_of_wp Tryz.func172 rfl h8 ?_ hro
  simp only [Tryz.ntmps172, List.size_toArray, List.length_cons, List.length_nil, Nat.reduceAdd, Nat.reduceSub, Array.replicate_succ, Array.replicate_zero, List.push_toArray, List.append_toArray, List.nil_append, List.cons_append]
  have hbd : ∀ k, k < l.length → l.length - k - 1 < l.length := fun k h => by omega
  have e0 := IntWalk.i64_in ((l.length : Int) - 1) ⟨by omega, by omega⟩
  gi_wp2
  gi_loopw [3] (fun i wr => ∃ (k : Nat) (pre : List (BkE l)), k ≤ l.length ∧ i = .int .i64 ((l.length : Int) - k - 1) ∧ pre.length = k ∧ pre.map (·.x) = (l.drop (l.length - k)).reverse ∧ J pre wr ∧ KeepT T W wr)
    (fun i _ => (intOf i + 1).toNat)
  case atStart => exact ⟨0, [], Nat.zero_le _, by simp, rfl, by simp, h0, KeepT.refl _ _⟩
  case round =>
    obtain ⟨k, pre, hk, rfl, hpl, hpm, hJs, hnx⟩ := hrel
    have hbx : wr.cell? ⟨Bs, 0, none⟩ = some (.slice (some ⟨b, off, none⟩) l.length cap) := (hnx.cell (p := ⟨Bs, 0, none⟩) hBl).trans hBs
    by_cases hlt : k < l.length
    · have hm : l[l.length - k - 1]'(hbd k hlt) ∈ l := List.getElem_mem (hbd k hlt)
      have hst := bk_step hlt hpm hm
      obtain ⟨fn, tmps, assign, body, hy, hR⟩ := hY pre ⟨((l.length - k - 1 : Nat) : Int), l[l.length - k - 1]'(hbd k hlt), hm⟩ wr hJs (by omega)
      have hcc := hc (l.length - k - 1) (hbd k hlt)
      obtain ⟨j, hj⟩ : ∃ j, j = l.length - k - 1 := ⟨_, rfl⟩
      have hjl : j < l.length := by omega
      have hi : (l.length : Int) - k - 1 = (j : Int) := by omega
      obtain ⟨s, hs⟩ : ∃ s, s = l[l.length - k - 1]'(hbd k hlt) := ⟨_, rfl⟩
      rw [← hs] at hcc
      unfold bkV at hy
      dsimp only at hy
      rw [← hs] at hy
      rw [← hj] at hy hcc
      rw [hi]
      have c0 : wr.cell? ⟨b, off + j * 8, none⟩ = some (.int .i64 s.ev.id) := (hnx.cell (p := ⟨b, off + j * 8, none⟩) hb).trans (hcc 0 (by omega))
      have c1 : wr.cell? ⟨b, off + j * 8 + 1, none⟩ = some (.string s.ev.type) := (hnx.cell (p := ⟨b, off + j * 8 + 1, none⟩) hb).trans (hcc 1 (by omega))
      have c2 : wr.cell? ⟨b, off + j * 8 + 2, none⟩ = some (.string s.ev.data) := (hnx.cell (p := ⟨b, off + j * 8 + 2, none⟩) hb).trans (hcc 2 (by omega))
      have c3 : wr.cell? ⟨b, off + j * 8 + 3, none⟩ = some (.float .f64 s.ev.value) := (hnx.cell (p := ⟨b, off + j * 8 + 3, none⟩) hb).trans (hcc 3 (by omega))
      have c4 : wr.cell? ⟨b, off + j * 8 + 4, none⟩ = some (.string s.stream) := (hnx.cell (p := ⟨b, off + j * 8 + 4, none⟩) hb).trans (hcc 4 (by omega))
      have c5 : wr.cell? ⟨b, off + j * 8 + 5, none⟩ = some (.int .i64 s.version) := (hnx.cell (p := ⟨b, off + j * 8 + 5, none⟩) hb).trans (hcc 5 (by omega))
      have c6 : wr.cell? ⟨b, off + j * 8 + 6, none⟩ = some (.int .i64 s.position) := (hnx.cell (p := ⟨b, off + j * 8 + 6, none⟩) hb).trans (hcc 6 (by omega))
      have c7 : wr.cell? ⟨b, off + j * 8 + 7, none⟩ = some (.int .i64 s.time) := (hnx.cell (p := ⟨b, off + j * 8 + 7, none⟩) hb).trans (hcc 7 (by omega))
      have hsf := stF
      have e1 := IntWalk.i64_in ((j : Int) - 1) ⟨by omega, by omega⟩
      have HST := Lib.hid hst
      have HPL := Lib.hid hpl
      have HR := Lib.hid hR
      have hjk : (j : Int) - 1 = (l.length : Int) - ((k + 1 : Nat) : Int) - 1 := by omega
      have HJK := Lib.hid hjk
      clear hst hpm hcc hs hpl hi hR hjk hj
      gi_wp2
      refine HR.out.mono ?_
      rintro e W3 (⟨rfl, hJ3, hk3⟩ | ⟨rfl, hJx3⟩)
      · gi_wp2
        go_roundw
        case rel => exact ⟨k + 1, _, hlt, by rw [← HJK.out], by rw [List.length_append, HPL.out]; rfl, HST.out, hJ3, hnx.trans hk3⟩
        case measure => simp [intOf]
      · gi_wp2
        refine bodyPost_ret (results_none rfl _ _ _) rfl ?_
        exact ⟨⟨_, rfl⟩, .inr ⟨_, by rw [HST.out]; exact List.reverse_prefix.2 (List.drop_suffix _ _), hJx3⟩⟩
    · have hkl : k = l.length := by omega
      have hi : (l.length : Int) - k - 1 = -1 := by omega
      rw [hi]
      have hfin : pre.map (·.x) = l.reverse := by rw [hpm, hkl, Nat.sub_self]; rfl
      clear hpm hi hkl
      gi_wp2
      go_end0
      exact ⟨⟨_, rfl⟩, .inl ⟨_, hfin, hJs⟩⟩
set_option maxRecDepth 100000 in
theorem bk1_nil_in (F : Fence) (n : Nat) (h8 : F.fn 172) (hro : F.round = none) (ly Bs cap : Nat) (A : Option Addr) (l : List StoredR) (J : List (BkE l) → World → Prop) (W : World) (hBs : W.cell? ⟨Bs, 0, none⟩ = some (.slice A 0 cap)) (h0 : J [] W) :
    CallsIn F n Tryz.prog 172 #[.func (.yield ly) #[] #[], .pointer (some ⟨Bs, 0, none⟩)] W fun e W' => (∃ v, e = .returned v) ∧ J [] W' := by
  refine callsIn_of_wp Tryz.func172 rfl h8 ?_ hro
  simp only [Tryz.ntmps172, List.size_toArray, List.length_cons, List.length_nil, Nat.reduceAdd, Nat.reduceSub, Array.replicate_succ, Array.replicate_zero, List.push_toArray, List.append_toArray, List.nil_append, List.cons_append]
  gi_wp2
  gi_loopw [3] (fun i wr => i = .int .i64 (-1) ∧ J [] wr) (fun _ _ => 0)
  case atStart => exact ⟨rfl, h0⟩
  case round =>
    obtain ⟨rfl, hJs⟩ := hrel
    gi_wp2
    go_end0
    exact ⟨⟨_, rfl⟩, hJs⟩
set_option maxRecDepth 100000 in
theorem back_in (F : Fence) (n : Nat) (h5 : F.fn 145) (hro : F.round = none) (A : Option Addr) (len cap : Nat) (w : World) :
    CallsIn F n Tryz.prog 145 #[.slice A len cap] w fun e w' => e = .returned (.func (.func 172) #[] #[.pointer (some ⟨w.heap.size, 0, none⟩)]) ∧ w' = w.alloc (.cells #[.slice A len cap] 28) := by
  refine callsIn_of_wp Tryz.func145 rfl h5 ?_ hro
  simp only [Tryz.ntmps145, List.size_toArray, List.length_cons, List.length_nil, Nat.reduceAdd, Nat.reduceSub, Array.replicate_succ, Array.replicate_zero, List.push_toArray, List.append_toArray, List.nil_append, List.cons_append]
  gi_wp2
  go_ret
  exact ⟨rfl, rfl⟩
theorem slc_keepT {T : List Nat} {A B : World} {size n : Nat} {v : Value} {cs : List Value} (h : Slc A size v n cs) (hv : ∀ g, v.ownBlock = some g → g ∈ T ∨ n = 0) (k : KeepT T A B) : Slc B size v n cs := by
  rcases Nat.eq_zero_or_pos n with h0 | h0
  · subst h0
    exact h.empty
  · refine h.keep k.1 fun g hg _ => k.2 g ?_
    rcases hv g hg with q | q
    · exact q
    · omega
/-- All of l from the last one on; or the last ones of it. -/
theorem bk_stops2 (F : Fence) (n : Nat) (h8 : F.fn 172) (hro : F.round = none) (hn : 1 ≤ n) (T : List Nat) (Bs : Nat) (A : Option Addr) (cap : Nat) (l : List StoredR) (hreach : l.length ≤ 1000000) (w : World) (hBl : Bs ∈ T) (hTw : ∀ i ∈ T, i < w.heap.size)
    (hc : w.cell? ⟨Bs, 0, none⟩ = some (.slice A l.length cap)) (hI : Slc w 8 (.slice A l.length cap) l.length (l.flatMap StoredR.cells)) (hv : ∀ g, (Value.slice A l.length cap).ownBlock = some g → g ∈ T ∨ l.length = 0) :
    SeqStopsK F n Tryz.prog 172 #[.pointer (some ⟨Bs, 0, none⟩)] (fun x : BkE l => bkV x) (KeepT T) (fun ys => ys.map (·.x) = l.reverse) (fun pre => pre.map (·.x) <+: l.reverse) l.length w := fun ly J Jx W hW _ _ hY h0 => by
  have hKW : KeepT T w W := ⟨hW.size, fun i hi => hW.block i (hTw i hi)⟩
  have hc' := (hKW.cell (p := ⟨Bs, 0, none⟩) hBl).trans hc
  have hI' := slc_keepT hI hv hKW
  rcases Nat.eq_zero_or_pos l.length with h0' | h0'
  · have hl : l.reverse = [] := by rw [List.length_eq_zero_iff.1 h0']; rfl
    rw [h0'] at hc'
    exact (bk1_nil_in F n h8 hro ly Bs cap A l J W hc' h0).mono fun e W' ⟨he, hj⟩ => ⟨he, .inl ⟨_, by rw [hl]; rfl, hj⟩⟩
  · obtain ⟨A', cap', e, h1, h2, h3⟩ := hI'.openE StoredR.cells (fun _ => rfl)
    injection e with e1 e2 e3
    subst e1 e3
    obtain ⟨b, off, rfl, hb, _⟩ := h3 0 h0'
    have hbn : b ∈ T := by
      rcases hv b rfl with q | q
      · exact q
      · omega
    exact bk1_in F n h8 hro hn T ly Bs b off cap l hreach hbn J Jx hY W hBl hc' (fun j hj r hr => by
      obtain ⟨b', off', e, _, hcc⟩ := h3 j hj
      cases e
      exact hcc r hr) h0
end
end Go.Proofs.YteinoiicnmemhaaGreatDoor
