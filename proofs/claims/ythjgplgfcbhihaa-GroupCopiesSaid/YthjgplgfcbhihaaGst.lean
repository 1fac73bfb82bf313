/- A group in memory. -/
import Derived.Test.YthjgplgfcbhihaaProg
import Derived.Test.YthjgplgfcbhihaaGp
import Derived.Test.YthjgplgfcbhihaaGr
import Derived.Test.YthjgplgfcbhihaaIter
set_option linter.unusedVariables false
set_option linter.unusedSimpArgs false
namespace Go.Proofs.Ythjgplgfcbhihaa
open Go.RowKit
/-- All rows of a group, each with its list. -/
def rowsOf (vw vp va vs : Value) (pf : ByteArray → Value) (g : GS) : List (Value × List Int) :=
  (vw, g.waiting) :: (vp, g.parked) :: (va, g.acked) :: (vs, g.skipped) :: g.flight.map fun p => (pf p.1, p.2)
/-- The group g lies in block gb, its maps in fb and tb, its lists in these rows. -/
structure GAt (w : World) (gb fb tb : Nat) (vw vp va vs : Value) (pf : ByteArray → Value) (g : GS) : Prop where
  blk : Blk w gb 53 #[.int .i64 g.from_, .int .i64 g.buffer, .int .i64 g.retries, .int .i64 g.next, vw, .map (some fb), vp, va, vs, .map (some tb)]
  flight : MapIs Value.string w fb (g.flight.map fun p => (p.1, pf p.1))
  tries : MapIs (Value.int .i64) w tb (g.tries.map fun p => (p.1, Value.int .i64 p.2))
  rows : Rows w (rowsOf vw vp va vs pf g)
  ne : fb ≠ tb
/-- The blocks that a call may turn. -/
def hG (gb fb tb : Nat) (L : List (Value × List Int)) : List Nat := gb :: fb :: tb :: blocksOf L
section
variable {w w' : World} {gb fb tb : Nat} {vw vp va vs : Value} {pf : ByteArray → Value} {g : GS} {S : List Nat}
theorem GAt.only (h : GAt w gb fb tb vw vp va vs pf g) (k : Only S w w') (hd : ∀ b ∈ hG gb fb tb (rowsOf vw vp va vs pf g), b ∉ S) : GAt w' gb fb tb vw vp va vs pf g :=
  ⟨k.blk h.blk (hd gb (by simp [hG])), h.flight.only k (hd fb (by simp [hG])), h.tries.only k (hd tb (by simp [hG])), h.rows.only k (fun b hb => hd b (by simp [hG, hb])), h.ne⟩
theorem GAt.only0 (h : GAt w gb fb tb vw vp va vs pf g) (k : Only [] w w') : GAt w' gb fb tb vw vp va vs pf g := h.only k (by simp)
theorem GAt.nef (h : GAt w gb fb tb vw vp va vs pf g) : fb ≠ gb := h.flight.ne_blk h.blk
theorem GAt.net (h : GAt w gb fb tb vw vp va vs pf g) : tb ≠ gb := h.tries.ne_blk h.blk
theorem GAt.rowne (h : GAt w gb fb tb vw vp va vs pf g) : ∀ b ∈ blocksOf (rowsOf vw vp va vs pf g), b ≠ gb ∧ b ≠ fb ∧ b ≠ tb := by
  intro b hb
  obtain ⟨p, hp, hq⟩ := mem_blocksOf.1 hb
  obtain ⟨cur, hcur⟩ := own_type (h.rows.own p hp) hq
  exact ⟨hcur.other h.blk (by decide), fun e => h.flight.ne_blk hcur e.symm, fun e => h.tries.ne_blk hcur e.symm⟩
theorem GAt.lt (h : GAt w gb fb tb vw vp va vs pf g) : ∀ b ∈ hG gb fb tb (rowsOf vw vp va vs pf g), b < w.heap.size := by
  intro b hb
  simp only [hG, List.mem_cons] at hb
  rcases hb with rfl | rfl | rfl | hb
  · exact h.blk.lt
  · exact h.flight.lt
  · exact h.tries.lt
  · exact h.rows.lt b hb
theorem GAt.nod (h : GAt w gb fb tb vw vp va vs pf g) : ANodup g.flight := by
  have := h.flight.nodup
  unfold ANodup at this ⊢
  rw [List.map_map] at this
  exact this
theorem GAt.nodT (h : GAt w gb fb tb vw vp va vs pf g) : ANodup g.tries := by
  have := h.tries.nodup
  unfold ANodup at this ⊢
  rw [List.map_map] at this
  exact this
theorem aget_mapk {κ μ ν : Type} [DecidableEq κ] (f : κ → ν → μ) (l : List (κ × ν)) (k : κ) : aget (l.map fun p => (p.1, f p.1 p.2)) k = (aget l k).map (f k) := by
  induction l with
  | nil => simp [aget]
  | cons p l ih =>
    obtain ⟨a, b⟩ := p
    simp only [aget, List.map_cons]
    split
    · rename_i h; subst h; rfl
    · exact ih
theorem aput_mapk {κ μ ν : Type} [DecidableEq κ] (f g : κ → ν → μ) (l : List (κ × ν)) (hn : ANodup l) (k : κ) (v : ν) (u : μ) (hu : u = g k v) (hfg : ∀ a, a ≠ k → f a = g a) : aput (l.map fun p => (p.1, f p.1 p.2)) k u = (aput l k v).map fun p => (p.1, g p.1 p.2) := by
  subst hu
  induction l with
  | nil => simp [aput]
  | cons p l ih =>
    obtain ⟨a, b⟩ := p
    simp only [ANodup, List.map_cons, List.nodup_cons] at hn
    simp only [aput, List.map_cons]
    by_cases h : a = k
    · subst h
      rw [if_pos rfl, if_pos rfl]
      simp only [List.map_cons, List.cons.injEq, true_and]
      apply List.map_congr_left
      intro q hq
      rw [hfg q.1 (fun e => hn.1 (List.mem_map.2 ⟨q, hq, e⟩))]
    · rw [if_neg h, if_neg h, ih hn.2, List.map_cons, hfg a h]
theorem adel_mapk {κ μ ν : Type} [DecidableEq κ] (f : κ → ν → μ) (l : List (κ × ν)) (k : κ) : adel (l.map fun p => (p.1, f p.1 p.2)) k = (adel l k).map fun p => (p.1, f p.1 p.2) := by
  induction l with
  | nil => simp [adel]
  | cons p l ih =>
    obtain ⟨a, b⟩ := p
    simp only [adel, List.map_cons]
    split
    · rfl
    · rw [List.map_cons, ih]
/-- The row of somebody's flight, put ahead of all others. -/
theorem GAt.front (h : GAt w gb fb tb vw vp va vs pf g) {who : ByteArray} {l : List Int} (hl : aget g.flight who = some l) :
    ∃ L, (rowsOf vw vp va vs pf g).Perm ((pf who, l) :: L) ∧ ∀ (l' : List Int) (v' : Value), ((v', l') :: L).Perm (rowsOf vw vp va vs (fun a => if a = who then v' else pf a) { g with flight := aput g.flight who l' }) := by
  have hm : ∀ (fl : List (ByteArray × List Int)), ANodup fl → aget fl who = some l → ∃ M, (fl.map fun p => (pf p.1, p.2)).Perm ((pf who, l) :: M) ∧ ∀ (l' : List Int) (v' : Value), ((v', l') :: M).Perm ((aput fl who l').map fun p => ((fun a => if a = who then v' else pf a) p.1, p.2)) := by
    intro fl
    induction fl with
    | nil => intro _ q; cases q
    | cons p fl ih =>
      intro hn q
      obtain ⟨a, b⟩ := p
      have hn' : a ∉ fl.map (·.1) ∧ ANodup fl := List.nodup_cons.1 hn
      simp only [aget] at q
      by_cases e : a = who
      · subst e
        rw [if_pos rfl] at q
        injection q with q
        subst q
        refine ⟨fl.map fun p => (pf p.1, p.2), List.Perm.refl _, fun l' v' => ?_⟩
        simp only [aput, if_pos, List.map_cons]
        refine List.Perm.cons _ ?_
        rw [show (fl.map fun p => ((if p.1 = a then v' else pf p.1), p.2)) = fl.map fun p => (pf p.1, p.2) from List.map_congr_left (fun p hp => by
          rw [if_neg (fun e => hn'.1 (List.mem_map.2 ⟨p, hp, e⟩))])]
      · rw [if_neg e] at q
        obtain ⟨M, h1, h2⟩ := ih hn'.2 q
        refine ⟨(pf a, b) :: M, ?_, fun l' v' => ?_⟩
        · rw [List.map_cons]
          exact (h1.cons _).trans (List.Perm.swap _ _ _)
        · simp only [aput, if_neg e, List.map_cons]
          exact (List.Perm.swap _ _ _).trans ((h2 l' v').cons _)
  obtain ⟨M, h1, h2⟩ := hm g.flight h.nod hl
  have mid : ∀ (a b c d x : Value × List Int) (M : List (Value × List Int)), (a :: b :: c :: d :: x :: M).Perm (x :: a :: b :: c :: d :: M) := fun a b c d x M => by
    have := List.perm_middle (a := x) (l₁ := [a, b, c, d]) (l₂ := M)
    simpa using this
  refine ⟨(vw, g.waiting) :: (vp, g.parked) :: (va, g.acked) :: (vs, g.skipped) :: M, ?_, fun l' v' => ?_⟩
  · unfold rowsOf
    exact ((((h1.cons _).cons _).cons _).cons _).trans (mid _ _ _ _ _ _)
  · unfold rowsOf
    exact (mid _ _ _ _ _ _).symm.trans (((((h2 l' v').cons _).cons _).cons _).cons _)
end
end Go.Proofs.Ythjgplgfcbhihaa
