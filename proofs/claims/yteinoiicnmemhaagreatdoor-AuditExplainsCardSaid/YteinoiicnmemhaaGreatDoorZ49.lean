/- Proved here: contracts of functions and plain laws, part 49 of one proof. Conditions: each theorem names its own. -/
import Derived.Test.YteinoiicnmemhaaGreatDoorZ48
set_option linter.unusedSimpArgs false
set_option linter.unusedVariables false
namespace Go.Proofs.YteinoiicnmemhaaGreatDoor
section
open Go.RowKit Go Go.Sort
structure LayAt (w wr : World) (k : Nat) (sv dv : Value) (es : List EntV) (ds : List DoneV) (H : List Nat) (rb : Nat) (r : RS) : Prop where
  doc : HasD w wr H rb r
  like : Like (runE MS.new es) r es.length
  lay : LayOk es ds
  cmd : ∀ i (h : i < ds.length) (h' : i < es.length), ∃ t, es[i].x.c = ds[i].req.cmd t
  rowE : wr.ownsRow w.heap.size 43 9 sv es.length (es.flatMap EntV.cells)
  rowD : wr.ownsRow w.heap.size 61 26 dv ds.length (ds.flatMap DoneV.cells)
  hE : ∀ g, sv.ownBlock = some g → g ∉ H
  hD : ∀ g, dv.ownBlock = some g → g ∉ H
  ent : ∀ e ∈ es, CmdOk e.x.c ∧ e.x.c.events.length ≤ 12 ∧ Slc w 4 e.x.ev e.x.c.events.length (e.x.c.events.flatMap EventR.cells) ∧ ∀ g, e.x.ev.ownBlock = some g → g < w.heap.size ∨ e.x.c.events = []
  don : ∀ d ∈ ds, Slc w 4 d.req.x.ev d.req.x.c.events.length (d.req.x.c.events.flatMap EventR.cells) ∧ d.req.x.c.events.length ≤ 1000000 ∧ d.req.x.c.stream.size ≤ maxLen ∧ d.pg.events.length ≤ 1000000
  pgs : ∀ d ∈ ds, wr.ownsRow w.heap.size 92 8 d.pv d.pg.events.length (d.pg.events.flatMap StoredR.cells) ∧ ∀ g, d.pv.ownBlock = some g → g ∉ H
  few : es.length ≤ k
  asc : ∀ y ∈ ds, y.answered < 2 * (k : Int)
section
variable {w wr w' : World} {k : Nat} {sv dv : Value} {es : List EntV} {ds : List DoneV} {H H' : List Nat} {rb : Nat} {r r' : RS}
theorem LayAt.grow (h : LayAt w wr k sv dv es ds H rb r) (j : Only [] wr w') : LayAt w w' k sv dv es ds H rb r :=
  ⟨h.doc.keep0 j, h.like, h.lay, h.cmd, own_only h.rowE j (by simp), own_only h.rowD j (by simp), h.hE, h.hD, h.ent, h.don, fun d hd => ⟨own_only (h.pgs d hd).1 j (by simp), (h.pgs d hd).2⟩, h.few, h.asc⟩
theorem LayAt.more (h : LayAt w wr k sv dv es ds H rb r) : LayAt w wr (k + 1) sv dv es ds H rb r :=
  ⟨h.doc, h.like, h.lay, h.cmd, h.rowE, h.rowD, h.hE, h.hD, h.ent, h.don, h.pgs, by have := h.few; omega, fun y hy => by have := h.asc y hy; omega⟩
/-- A row's block that the document's state does not own stays there. -/
theorem own_stepped {base size n : Nat} {t : TypeId} {v : Value} {xs : List Value} (h : wr.ownsRow base t size v n xs) (hn : ∀ g, v.ownBlock = some g → g ∉ H) (st : Stepped wr w' H H') : w'.ownsRow base t size v n xs ∧ ∀ g, v.ownBlock = some g → g ∉ H' := by
  obtain ⟨⟨S, k, hS⟩, hb⟩ := st
  refine ⟨own_only h k (fun g hg q => hn g hg (hS g q)), fun g hg q => ?_⟩
  rcases hb g q with y | y
  · exact hn g hg y
  · have := (World.ownsRow.lt h g hg).2
    omega
/-- The rows, and all pages, behind what the document's state did. -/
theorem LayAt.rows (h : LayAt w wr k sv dv es ds H rb r) (st : Stepped wr w' H H') :
    (w'.ownsRow w.heap.size 43 9 sv es.length (es.flatMap EntV.cells) ∧ ∀ g, sv.ownBlock = some g → g ∉ H') ∧ (w'.ownsRow w.heap.size 61 26 dv ds.length (ds.flatMap DoneV.cells) ∧ ∀ g, dv.ownBlock = some g → g ∉ H') ∧
      ∀ d ∈ ds, w'.ownsRow w.heap.size 92 8 d.pv d.pg.events.length (d.pg.events.flatMap StoredR.cells) ∧ ∀ g, d.pv.ownBlock = some g → g ∉ H' :=
  ⟨own_stepped h.rowE h.hE st, own_stepped h.rowD h.hD st, fun d hd => own_stepped (h.pgs d hd).1 (h.pgs d hd).2 st⟩
/-- One more answer and its entry. -/
theorem LayAt.one {w3 : World} {sv' dv' : Value} {e : EntV} {d : DoneV} (h : LayAt w wr k sv dv es ds H rb r) (st : Stepped wr w' H H') (hd : HasD w w' H' rb r') (hL : Like ((runE MS.new es).do e.x.c).2 r' (es.length + 1))
    (k1 : Only (sv.ownBlock.toList ++ dv.ownBlock.toList) w' w3) (hE : w3.ownsRow w.heap.size 43 9 sv' (es.length + 1) ((es ++ [e]).flatMap EntV.cells)) (hD : w3.ownsRow w.heap.size 61 26 dv' (ds.length + 1) ((ds ++ [d]).flatMap DoneV.cells))
    (nE : ∀ g, sv'.ownBlock = some g → sv.ownBlock = some g ∨ w'.heap.size ≤ g) (nD : ∀ g, dv'.ownBlock = some g → dv.ownBlock = some g ∨ w'.heap.size ≤ g)
    (hp : d.place = (ds.length : Int)) (hr : rightF ((runE MS.new es).do e.x.c).2 e.x.c ((runE MS.new es).do e.x.c).1 d = true) (hc : ∃ t, e.x.c = d.req.cmd t)
    (ha : d.asked = 2 * (k : Int)) (hb : d.answered = 2 * (k : Int) + 1)
    (he : CmdOk e.x.c ∧ e.x.c.events.length ≤ 12 ∧ Slc w 4 e.x.ev e.x.c.events.length (e.x.c.events.flatMap EventR.cells) ∧ ∀ g, e.x.ev.ownBlock = some g → g < w.heap.size ∨ e.x.c.events = [])
    (hq : Slc w 4 d.req.x.ev d.req.x.c.events.length (d.req.x.c.events.flatMap EventR.cells) ∧ d.req.x.c.events.length ≤ 1000000 ∧ d.req.x.c.stream.size ≤ maxLen ∧ d.pg.events.length ≤ 1000000)
    (hpg : w'.ownsRow w.heap.size 92 8 d.pv d.pg.events.length (d.pg.events.flatMap StoredR.cells) ∧ ∀ g, d.pv.ownBlock = some g → g ∉ H') :
    LayAt w w3 (k + 1) sv' dv' (es ++ [e]) (ds ++ [d]) H' rb r' := by
  obtain ⟨⟨e1, e2⟩, ⟨d1, d2⟩, p1⟩ := h.rows st
  have hlen := h.lay.len
  have hty : ∀ g, g ∈ sv.ownBlock.toList ++ dv.ownBlock.toList → (∃ cur, Blk w' g 43 cur) ∨ ∃ cur, Blk w' g 61 cur := fun g hg => by
    rcases List.mem_append.1 hg with q | q
    · exact .inl (own_type e1 (by simpa using q))
    · exact .inr (own_type d1 (by simpa using q))
  have pgk : ∀ {v : Value} {n : Nat} {xs : List Value}, w'.ownsRow w.heap.size 92 8 v n xs → w3.ownsRow w.heap.size 92 8 v n xs := fun ho => own_only ho k1 (fun g hg q => by
    obtain ⟨cur, hb⟩ := own_type ho hg
    rcases hty g q with ⟨c2, y⟩ | ⟨c2, y⟩
    · exact absurd (blk_tyL hb y) (by decide)
    · exact absurd (blk_tyL hb y) (by decide))
  refine ⟨hd.keep k1 (fun g hg => ?_) (fun g hg q => ?_), ?_, h.lay.snoc hp hr (fun y hy => by have := h.asc y hy; omega) (by omega), fun i hi hi' => ?_, by simpa using hE, by simpa using hD, fun g hg q => ?_, fun g hg q => ?_, fun y hy => ?_, fun y hy => ?_, fun y hy => ?_, by have := h.few; simp; omega, fun y hy => ?_⟩
  · rcases List.mem_append.1 hg with q | q
    · exact (World.ownsRow.lt e1 g (by simpa using q)).1
    · exact (World.ownsRow.lt d1 g (by simpa using q)).1
  · rcases List.mem_append.1 q with z | z
    · exact e2 g (by simpa using z) hg
    · exact d2 g (by simpa using z) hg
  · have e : runE MS.new (es ++ [e]) = ((runE MS.new es).do e.x.c).2 := by unfold runE; rw [List.foldl_append]; rfl
    rw [e, List.length_append]
    exact hL
  · by_cases q : i < ds.length
    · rw [List.getElem_append_left q, List.getElem_append_left (by omega)]
      exact h.cmd i q (by omega)
    · have : i = ds.length := by simp at hi; omega
      subst this
      rw [List.getElem_append_right (by omega), List.getElem_append_right (by omega)]
      simpa [hlen] using hc
  · rcases nE g hg with y | y
    · exact e2 g y q
    · have := hd.lt g q; omega
  · rcases nD g hg with y | y
    · exact d2 g y q
    · have := hd.lt g q; omega
  · rcases List.mem_append.1 hy with q | q
    · exact h.ent y q
    · simp at q; subst q; exact he
  · rcases List.mem_append.1 hy with q | q
    · exact h.don y q
    · simp at q; subst q; exact hq
  · rcases List.mem_append.1 hy with q | q
    · exact ⟨pgk (p1 y q).1, (p1 y q).2⟩
    · simp at q; subst q; exact ⟨pgk hpg.1, hpg.2⟩
  · rcases List.mem_append.1 hy with q | q
    · have := h.asc y q; omega
    · simp at q; subst q; omega
end
end
end Go.Proofs.YteinoiicnmemhaaGreatDoor
