/- Opening []api.Command. -/
import Derived.Test.YtefkhkbkengniaaMop
import Derived.Test.YtefkhkbkengniaaMh
set_option linter.unusedVariables false
set_option linter.unusedSimpArgs false
namespace Go.Proofs.Ytefkhkbkengniaa
open Go.ChangeShapes Go.WideShapes Go.ChangeAt Go.RowKit Go.WideElems Go.ChangeMaps Go.Deep Go.Sort
/-- A command, and the slice of its events. -/
structure CmdV where
  c : Cmd
  ev : Value
def CmdV.cells (x : CmdV) : List Value := [.int .i64 x.c.kind, .int .i64 x.c.time, .string x.c.stream, .int .i64 x.c.expected, x.ev, .int .i64 x.c.mt.maxCount, .int .i64 x.c.mt.maxAge, .int .i64 x.c.mt.before]
structure CmdV.Ok (W : World) (x : CmdV) : Prop where
  ok : CmdOk x.c
  slc : Slc W 4 x.ev x.c.events.length (x.c.events.flatMap EventR.cells)
  own : ∀ g, x.ev.ownBlock = some g → g < W.heap.size ∨ x.c.events = []
theorem cellsI : Try.prog.cellsOf 3 = 1 := by kernel_rfl
theorem cellsS : Try.prog.cellsOf 9 = 1 := by kernel_rfl
theorem cellsF : Try.prog.cellsOf 41 = 1 := by kernel_rfl
theorem cellsEv : Try.prog.cellsOf 43 = 4 := by kernel_rfl
theorem cellsEvs : Try.prog.cellsOf 31 = 1 := by kernel_rfl
theorem cellsMt : Try.prog.cellsOf 33 = 3 := by kernel_rfl
theorem cellsCmd : Try.prog.cellsOf 35 = 8 := by kernel_rfl
section
variable {H : Type} {enc : TypeId × Value → H} {W : World}
theorem trod_float {P : Program} {base : Nat} {spare : Nat → Bool} {held : Bool} {fuel : Nat} {t : TypeId} {cs : List Value} {x : DataW H × List MemPlace} (ht : P.underlying t = some (.float .f64)) (h : DataW.trod enc P W base spare held fuel t cs = some x) : ∃ b, cs = [.float .f64 b] := by
  cases fuel with
  | zero => simp [DataW.trod] at h
  | succ n =>
    unfold DataW.trod at h
    rw [ht] at h
    split at h <;> simp_all
theorem one_at {cs : List Value} {i : Nat} {v : Value} (h : (cs.drop i).take 1 = [v]) : cs[i]? = some v := by
  have : ((cs.drop i).take 1)[0]? = some v := by rw [h]; rfl
  rw [List.getElem?_take] at this
  simpa using this
theorem open_ev (n : Nat) (cs : List Value) (x : DataW H × List MemPlace) (h : DataW.trod enc Try.prog W 0 (fun _ => true) true n 43 cs = some x) (hlt : ∀ y ∈ x.2, y.block < W.heap.size) :
    ∃ e : EventR, cs = e.cells ∧ (e.type.size ≤ maxLen ∧ e.data.size ≤ maxLen) := by
  obtain ⟨xs, m, _, hx, hl, hlen, hf⟩ := DataW.trod_struct Try.underlying43 h
  rw [cellsEv] at hl
  have g0 : DataW.trod enc Try.prog W 0 (fun _ => true) true m 3 ((cs.drop 0).take (Try.prog.cellsOf 3)) = xs[0]? := hf 0 _ rfl
  have g1 : DataW.trod enc Try.prog W 0 (fun _ => true) true m 9 ((cs.drop 1).take (Try.prog.cellsOf 9)) = xs[1]? := hf 1 _ rfl
  have g2 : DataW.trod enc Try.prog W 0 (fun _ => true) true m 9 ((cs.drop 2).take (Try.prog.cellsOf 9)) = xs[2]? := hf 2 _ rfl
  have g3 : DataW.trod enc Try.prog W 0 (fun _ => true) true m 41 ((cs.drop 3).take (Try.prog.cellsOf 41)) = xs[3]? := hf 3 _ rfl
  rw [cellsI] at g0
  rw [cellsS] at g1 g2
  rw [cellsF] at g3
  clear hf
  match xs, hlen with
  | [y0, y1, y2, y3], _ =>
    simp only [List.getElem?_cons_zero, List.getElem?_cons_succ] at g0 g1 g2 g3
    obtain ⟨k, c0, _, w0⟩ := DataW.trod_int Try.underlying3 g0
    obtain ⟨s1, c1, _, w1⟩ := DataW.trod_string Try.underlying9 g1
    obtain ⟨s2, c2, _, w2⟩ := DataW.trod_string Try.underlying9 g2
    obtain ⟨b, c3⟩ := trod_float Try.underlying41 g3
    refine ⟨⟨k, s1, s2, b⟩, ?_, w1, w2⟩
    apply List.ext_getElem?
    intro i
    unfold EventR.cells
    have a0 := one_at c0
    have a1 := one_at c1
    have a2 := one_at c2
    have a3 := one_at c3
    match i with
    | 0 => exact a0
    | 1 => exact a1
    | 2 => exact a2
    | 3 => exact a3
    | i + 4 => simp; omega
theorem open_mt (n : Nat) (cs : List Value) (x : DataW H × List MemPlace) (h : DataW.trod enc Try.prog W 0 (fun _ => true) true n 33 cs = some x) : ∃ m : MetaR, cs = m.cells := by
  obtain ⟨xs, m, _, hx, hl, hlen, hf⟩ := DataW.trod_struct Try.underlying33 h
  rw [cellsMt] at hl
  have g0 : DataW.trod enc Try.prog W 0 (fun _ => true) true m 3 ((cs.drop 0).take (Try.prog.cellsOf 3)) = xs[0]? := hf 0 _ rfl
  have g1 : DataW.trod enc Try.prog W 0 (fun _ => true) true m 3 ((cs.drop 1).take (Try.prog.cellsOf 3)) = xs[1]? := hf 1 _ rfl
  have g2 : DataW.trod enc Try.prog W 0 (fun _ => true) true m 3 ((cs.drop 2).take (Try.prog.cellsOf 3)) = xs[2]? := hf 2 _ rfl
  rw [cellsI] at g0 g1 g2
  clear hf
  match xs, hlen with
  | [y0, y1, y2], _ =>
    simp only [List.getElem?_cons_zero, List.getElem?_cons_succ] at g0 g1 g2
    obtain ⟨k0, c0, _, _⟩ := DataW.trod_int Try.underlying3 g0
    obtain ⟨k1, c1, _, _⟩ := DataW.trod_int Try.underlying3 g1
    obtain ⟨k2, c2, _, _⟩ := DataW.trod_int Try.underlying3 g2
    refine ⟨⟨k0, k1, k2⟩, ?_⟩
    apply List.ext_getElem?
    intro i
    unfold MetaR.cells
    have a0 := one_at c0
    have a1 := one_at c1
    have a2 := one_at c2
    match i with
    | 0 => exact a0
    | 1 => exact a1
    | 2 => exact a2
    | i + 3 => simp; omega
theorem open_cmd (n : Nat) (cs : List Value) (x : DataW H × List MemPlace) (h : DataW.trod enc Try.prog W 0 (fun _ => true) true n 35 cs = some x) (hlt : ∀ y ∈ x.2, y.block < W.heap.size) :
    ∃ o : CmdV, cs = o.cells ∧ o.Ok W := by
  obtain ⟨xs, m, _, hx, hl, hlen, hf⟩ := DataW.trod_struct Try.underlying35 h
  rw [cellsCmd] at hl
  have g0 : DataW.trod enc Try.prog W 0 (fun _ => true) true m 3 ((cs.drop 0).take (Try.prog.cellsOf 3)) = xs[0]? := hf 0 _ rfl
  have g1 : DataW.trod enc Try.prog W 0 (fun _ => true) true m 3 ((cs.drop 1).take (Try.prog.cellsOf 3)) = xs[1]? := hf 1 _ rfl
  have g2 : DataW.trod enc Try.prog W 0 (fun _ => true) true m 9 ((cs.drop 2).take (Try.prog.cellsOf 9)) = xs[2]? := hf 2 _ rfl
  have g3 : DataW.trod enc Try.prog W 0 (fun _ => true) true m 3 ((cs.drop 3).take (Try.prog.cellsOf 3)) = xs[3]? := hf 3 _ rfl
  have g4 : DataW.trod enc Try.prog W 0 (fun _ => true) true m 31 ((cs.drop 4).take (Try.prog.cellsOf 31)) = xs[4]? := hf 4 _ rfl
  have g5 : DataW.trod enc Try.prog W 0 (fun _ => true) true m 33 ((cs.drop 5).take (Try.prog.cellsOf 33)) = xs[5]? := hf 5 _ rfl
  rw [cellsI] at g0 g1 g3
  rw [cellsS] at g2
  rw [cellsEvs] at g4
  rw [cellsMt] at g5
  clear hf
  match xs, hlen with
  | [y0, y1, y2, y3, y4, y5], _ =>
    simp only [List.getElem?_cons_zero, List.getElem?_cons_succ] at g0 g1 g2 g3 g4 g5
    obtain ⟨k, c0, _, w0⟩ := DataW.trod_int Try.underlying3 g0
    obtain ⟨tm, c1, _, w1⟩ := DataW.trod_int Try.underlying3 g1
    obtain ⟨s2, c2, _, w2⟩ := DataW.trod_string Try.underlying9 g2
    obtain ⟨ex, c3, _, w3⟩ := DataW.trod_int Try.underlying3 g3
    obtain ⟨v, es, c4, q1, q2, q3⟩ := open_rows_at Try.underlying31 cellsEv (by omega) EventR.cells (fun e => e.type.size ≤ maxLen ∧ e.data.size ≤ maxLen) open_ev g4 (fun y hy => hlt y (by rw [hx]; simp; right; right; right; right; left; exact hy))
    obtain ⟨mt, c5⟩ := open_mt _ _ _ g5
    refine ⟨⟨⟨k, tm, s2, ex, es, mt⟩, v⟩, ?_, ⟨⟨w2, fun e he => (q2 e he).1⟩, q1, q3⟩⟩
    apply List.ext_getElem?
    intro i
    unfold CmdV.cells
    have a0 := one_at c0
    have a1 := one_at c1
    have a2 := one_at c2
    have a3 := one_at c3
    have a4 := one_at c4
    have b : ∀ j, j < 3 → cs[5 + j]? = mt.cells[j]? := fun j hj => by
      rw [← c5, List.getElem?_take, if_pos hj, List.getElem?_drop]
    match i with
    | 0 => exact a0
    | 1 => exact a1
    | 2 => exact a2
    | 3 => exact a3
    | 4 => exact a4
    | 5 => exact b 0 (by omega)
    | 6 => exact b 1 (by omega)
    | 7 => exact b 2 (by omega)
    | i + 8 => simp; omega
set_option maxRecDepth 100000 in
theorem open_cmdv {base : Nat} {v : Value} {d : DataW H} {ps : List MemPlace} (hval : Value.okWide Try.prog W .any base 35 v) (hd : DataW.Trod enc Try.prog W 0 (fun _ => true) true 35 v d ps) (hlt : ∀ x ∈ ps, x.block < W.heap.size) :
    ∃ o : CmdV, v = o.c.val o.ev ∧ o.Ok W := by
  obtain ⟨fuel, hf⟩ := hd
  obtain ⟨cs, rfl, _⟩ := okWide_struct Try.underlying35 hval
  obtain ⟨o, h1, h2⟩ := open_cmd _ _ _ hf hlt
  refine ⟨o, ?_, h2⟩
  have h3 : cs.toList = o.cells := by simpa [Value.cells] using h1
  have h4 : cs = o.cells.toArray := by rw [← h3]
  rw [h4]
  rfl
set_option maxRecDepth 100000 in
theorem open_cmds {base : Nat} {v : Value} {d : DataW H} {ps : List MemPlace} (hval : Value.okWide Try.prog W .any base 22 v) (hd : DataW.Trod enc Try.prog W 0 (fun _ => true) true 22 v d ps) (hlt : ∀ x ∈ ps, x.block < W.heap.size) :
    ∃ os : List CmdV, Slc W 8 v os.length (os.flatMap CmdV.cells) ∧ (∀ o ∈ os, o.Ok W ∧ o.cells.length = 8) ∧ ∀ g, v.ownBlock = some g → g < W.heap.size ∨ os = [] :=
  open_rows Try.underlying22 cellsCmd (by omega) CmdV.cells (CmdV.Ok W) open_cmd hval hd hlt
end
/-- Commands that lie below the world a. -/
structure CmdsAt (a w : World) (v : Value) (l : List CmdV) : Prop where
  slc : Slc w 8 v l.length (l.flatMap CmdV.cells)
  own : ∀ g, v.ownBlock = some g → g < a.heap.size ∨ l = []
  cmd : ∀ x ∈ l, CmdOk x.c ∧ Slc w 4 x.ev x.c.events.length (x.c.events.flatMap EventR.cells) ∧ ∀ g, x.ev.ownBlock = some g → g < a.heap.size ∨ x.c.events = []
section
variable {a w w' : World} {R : List Nat} {v : Value} {l : List CmdV}
theorem CmdsAt.of {W : World} (h1 : Slc W 8 v l.length (l.flatMap CmdV.cells)) (h2 : ∀ o ∈ l, o.Ok W ∧ o.cells.length = 8) (h3 : ∀ g, v.ownBlock = some g → g < W.heap.size ∨ l = []) : CmdsAt W W v l :=
  ⟨h1, h3, fun x hx => ⟨(h2 x hx).1.ok, (h2 x hx).1.slc, (h2 x hx).1.own⟩⟩
theorem Keeps.slcE {size n : Nat} {u : Value} {cs : List Value} {E : Type} {os : List E} (h : Keeps a R w w') (hn : n = os.length) (hs : Slc w size u n cs) (hg : ∀ g, u.ownBlock = some g → g < a.heap.size ∨ os = []) : Slc w' size u n cs := by
  by_cases h0 : os = []
  · subst h0
    subst hn
    exact hs.empty
  · exact h.slc hs (fun g q => .inl ((hg g q).resolve_right h0))
theorem CmdsAt.keep (h : CmdsAt a w v l) (k : Keeps a R w w') : CmdsAt a w' v l :=
  ⟨k.slcE rfl h.slc h.own, h.own, fun x hx => ⟨(h.cmd x hx).1, k.slcE rfl (h.cmd x hx).2.1 (h.cmd x hx).2.2, (h.cmd x hx).2.2⟩⟩
theorem CmdsAt.keep0 (h : CmdsAt a w v l) (k : Only [] w w') : CmdsAt a w' v l := h.keep (R := []) (.of0 k)
theorem CmdsAt.ev (h : CmdsAt a w v l) {E : List Nat} {x : CmdV} (hx : x ∈ l) : EvIn a w E x.ev x.c.events := ⟨(h.cmd x hx).2.1, fun g hg => by
  rcases (h.cmd x hx).2.2 g hg with q | q
  · exact .inl (.inl q)
  · exact .inr (by rw [q]; rfl)⟩
/-- The cells of the command at j. -/
theorem CmdsAt.cells (h : CmdsAt a w v l) : ∃ A cap, v = .slice A l.length cap ∧ l.length ≤ cap ∧ cap ≤ maxLen ∧ ∀ j (hj : j < l.length), ∃ b off, A = some ⟨b, off, none⟩ ∧ b < w.heap.size ∧ b < a.heap.size ∧ ∀ r, r < 8 → w.cell? ⟨b, off + j * 8 + r, none⟩ = (l[j].cells)[r]? := by
  obtain ⟨A, cap, rfl, h1, h2, h3⟩ := h.slc.openE CmdV.cells (fun _ => rfl)
  refine ⟨A, cap, rfl, h1, h2, fun j hj => ?_⟩
  obtain ⟨b, off, rfl, q1, q2⟩ := h3 j hj
  refine ⟨b, off, rfl, q1, ?_, q2⟩
  rcases h.own b rfl with q | q
  · exact q
  · rw [q] at hj
    simp at hj
end
end Go.Proofs.Ytefkhkbkengniaa
