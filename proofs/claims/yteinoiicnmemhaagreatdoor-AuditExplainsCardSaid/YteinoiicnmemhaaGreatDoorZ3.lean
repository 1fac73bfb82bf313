/- Proved here: contracts of functions and plain laws, part 3 of one proof. Conditions: each theorem names its own. -/
import Derived.Test.YteinoiicnmemhaaGreatDoorZ1
import Derived.Test.YteinoiicnmemhaaGreatDoorZ2
import Derived.Test.YteinoiicnmemhaaGreatDoorProg
set_option linter.unusedSimpArgs false
set_option linter.unusedVariables false
namespace Go.Proofs.YteinoiicnmemhaaGreatDoor
section
open Go.RowKit
/-- What keeps a state's numbers small: N bounds the commands. -/
structure MS.Ok (s : MS) (N : Nat) : Prop where
  now : 0 ≤ s.now ∧ s.now ≤ 1099511627776
  done : 0 ≤ s.done ∧ s.done ≤ N
  all : s.all.length ≤ 8 * N
  st : ∀ n x, (n, x) ∈ s.m → x.mt.ok = true ∧ 0 ≤ x.floor ∧ x.floor ≤ x.places.length ∧ x.places.length ≤ s.all.length ∧ ∀ p ∈ x.places, 0 ≤ p ∧ p < s.all.length
/-- The state s lies in block sb, its map in mb, its events in av; M are all blocks that may turn. -/
structure StAt (w : World) (M : List Nat) (sb mb : Nat) (av : Value) (pf : ByteArray → Value) (s : MS) : Prop where
  blk : Blk w sb 72 #[av, .map (some mb), .int .i64 s.done, .int .i64 s.now]
  own : w.ownsRow 0 92 8 av s.all.length (s.all.flatMap StoredR.cells)
  map : MapIs Value.string w mb (s.m.map fun p => (p.1, p.2.val (pf p.1)))
  pl : ∀ n x, (n, x) ∈ s.m → Rd M w 1 (pf n) x.places.length (ints x.places)
  inM : sb ∈ M ∧ mb ∈ M ∧ ∀ g, av.ownBlock = some g → g ∈ M
  mlt : ∀ g ∈ M, g < w.heap.size
/-- The blocks that a call on the state may turn. -/
def hM (sb mb : Nat) (av : Value) : List Nat := sb :: mb :: av.ownBlock.toList
def pvOf (s : MS) (pf : ByteArray → Value) (n : ByteArray) : Value := if (aget s.m n).isSome then pf n else .slice none 0 0
section
variable {w w' : World} {M M' S : List Nat} {sb mb : Nat} {av : Value} {pf : ByteArray → Value} {s : MS}
theorem StAt.only (h : StAt w M sb mb av pf s) (k : Only S w w') (hS : ∀ g ∈ S, g ∈ M) (hd : ∀ g ∈ hM sb mb av, g ∉ S) : StAt w' M sb mb av pf s :=
  ⟨k.blk h.blk (hd sb (by simp [hM])), own_only h.own k (fun g hg => hd g (by simp [hM, hg])), h.map.only k (hd mb (by simp [hM])), fun n x hx => (h.pl n x hx).only k hS, h.inM, fun g hg => Nat.lt_of_lt_of_le (h.mlt g hg) k.size⟩
theorem StAt.only0 (h : StAt w M sb mb av pf s) (k : Only [] w w') : StAt w' M sb mb av pf s := h.only k (by simp) (by simp)
theorem StAt.ne (h : StAt w M sb mb av pf s) : mb ≠ sb := h.map.ne_blk h.blk
theorem StAt.own_lt (h : StAt w M sb mb av pf s) : ∀ g, av.ownBlock = some g → g < w.heap.size := fun g hg => (h.own.lt g hg).2
theorem StAt.lt (h : StAt w M sb mb av pf s) : ∀ g ∈ hM sb mb av, g < w.heap.size := by
  intro g hg
  simp [hM] at hg
  rcases hg with rfl | rfl | hg
  · exact h.blk.lt
  · exact h.map.lt
  · exact h.own_lt g hg
theorem StAt.hMM (h : StAt w M sb mb av pf s) : ∀ g ∈ hM sb mb av, g ∈ M := by
  intro g hg
  simp [hM] at hg
  rcases hg with rfl | rfl | hg
  · exact h.inM.1
  · exact h.inM.2.1
  · exact h.inM.2.2 g hg
theorem StAt.ownne (h : StAt w M sb mb av pf s) : ∀ g, av.ownBlock = some g → g ≠ sb ∧ g ≠ mb := by
  intro g hg
  obtain ⟨_, h2⟩ := h.own
  rcases h2 with ⟨rfl, _⟩ | ⟨g', cap, cur, rfl, hb, hg', q⟩
  · cases hg
  · cases hg
    have hB : Blk w g' 92 cur := hg'
    exact ⟨hB.other h.blk (by decide), fun e => h.map.ne_blk hB e.symm⟩
theorem StAt.nodup (h : StAt w M sb mb av pf s) : ANodup s.m := by
  have := h.map.nodup
  unfold ANodup at this ⊢
  rw [List.map_map] at this
  exact this
theorem aget_mapk {μ ν : Type} (f : ByteArray → ν → μ) (l : List (ByteArray × ν)) (k : ByteArray) : aget (l.map fun p => (p.1, f p.1 p.2)) k = (aget l k).map (f k) := by
  induction l with
  | nil => simp [aget]
  | cons p l ih =>
    obtain ⟨a, b⟩ := p
    simp only [aget, List.map_cons]
    split
    · rename_i h; subst h; rfl
    · exact ih
theorem aput_mapk {μ ν : Type} (f g : ByteArray → ν → μ) (l : List (ByteArray × ν)) (hn : ANodup l) (k : ByteArray) (v : ν) (u : μ) (hu : u = g k v) (hfg : ∀ a, a ≠ k → f a = g a) : aput (l.map fun p => (p.1, f p.1 p.2)) k u = (aput l k v).map fun p => (p.1, g p.1 p.2) := by
  subst hu
  induction l with
  | nil => simp [aput]
  | cons p l ih =>
    obtain ⟨a, b⟩ := p
    simp only [ANodup, List.map_cons, List.nodup_cons] at hn
    simp only [aput, List.map_cons]
    by_cases h : a = k
    · subst h
      rw [if_pos rfl, if_pos rfl]
      simp only [List.map_cons, List.cons.injEq, true_and]
      apply List.map_congr_left
      intro q hq
      rw [hfg q.1 (fun e => hn.1 (List.mem_map.2 ⟨q, hq, e⟩))]
    · rw [if_neg h, if_neg h, ih hn.2, List.map_cons, hfg a h]
theorem StAt.rd (h : StAt w M sb mb av pf s) (n : ByteArray) : Rd M w 1 (pvOf s pf n) (s.find n).places.length (ints (s.find n).places) := by
  unfold pvOf MS.find
  cases hx : aget s.m n with
  | none => exact Rd.nil _ _ _
  | some x => exact h.pl n x (aget_mem hx)
theorem StAt.look (h : StAt w M sb mb av pf s) (n : ByteArray) : (aget (s.m.map fun p => (p.1, p.2.val (pf p.1))) n).getD (StreamR.zero.val (.slice none 0 0)) = (s.find n).val (pvOf s pf n) := by
  rw [aget_mapk (fun k x => StreamR.val x (pf k))]
  unfold pvOf MS.find
  cases aget s.m n <;> rfl
theorem MS.Ok.find {N : Nat} (h : s.Ok N) (n : ByteArray) : (s.find n).mt.ok = true ∧ 0 ≤ (s.find n).floor ∧ (s.find n).floor ≤ (s.find n).places.length ∧ (s.find n).places.length ≤ s.all.length ∧ ∀ p ∈ (s.find n).places, 0 ≤ p ∧ p < s.all.length := by
  unfold MS.find
  cases hx : aget s.m n with
  | none =>
    refine ⟨by decide, Int.le_refl _, ?_, Nat.zero_le _, fun p hp => ?_⟩
    · simp [StreamR.zero]
    · simp [StreamR.zero] at hp
  | some x => exact h.st n x (aget_mem hx)
/-- An event's cell. -/
theorem StAt.cell (h : StAt w M sb mb av pf s) : ∃ A cap, av = .slice A s.all.length cap ∧ s.all.length ≤ cap ∧ cap ≤ maxLen ∧ ∀ j (hj : j < s.all.length), ∃ b, A = some ⟨b, 0, none⟩ ∧ b < w.heap.size ∧ ∀ r, r < 8 → w.cell? ⟨b, j * 8 + r, none⟩ = (s.all[j].cells)[r]? := by
  obtain ⟨h1, h2⟩ := h.own
  rcases h2 with ⟨q1, q2⟩ | ⟨g, cap, cur, q1, hb, hg, hn, hc, hs, ht⟩
  · have h0 : s.all.length = 0 := q2
    refine ⟨none, 0, by rw [h0]; exact q1, by omega, by unfold maxLen; omega, fun j hj => by omega⟩
  · refine ⟨_, cap, q1, hn, hc, fun j hj => ⟨g, rfl, lt_of_block hg, fun r hr => ?_⟩⟩
    have hj8 : j * 8 + r < s.all.length * 8 := by omega
    rw [cell_of_row w g _ cur 92 (0, 0) hg]
    have e1 := flat_get StoredR.cells 8 s.all (fun o _ => rfl) j r hj hr
    rw [← ht] at e1
    rw [← e1]
    simp [hj8]
end
end
end Go.Proofs.YteinoiicnmemhaaGreatDoor
