/- Steps of a disk: opening []Op; Light; run. -/
import Derived.Test.YtgahjdfjlfoioaaRows0
import Derived.Test.YtgahjdfjlfoioaaDl6
set_option linter.unusedVariables false
namespace Go.Proofs.Ytgahjdfjlfoioaa
open Go.ChangeShapes Go.WideShapes Go.ChangeAt Go.RowKit Go.WideElems Go.ChangeMaps Go.Deep Go.Sort
/-- A step of a disk. -/
structure OpR where
  kind : Int
  n : Int
  name : ByteArray
  to : ByteArray
  data : ByteArray
  keepV : Value
  keep : List Int
def OpR.cells (o : OpR) : List Value := [.int .i64 o.kind, .int .i64 o.n, .string o.name, .string o.to, .string o.data, o.keepV]
structure OpR.Ok (W : World) (o : OpR) : Prop where
  kind : (Lit.int .i64 o.kind).wf = true
  n : (Lit.int .i64 o.n).wf = true
  name : o.name.size ≤ maxLen
  to : o.to.size ≤ maxLen
  data : o.data.size ≤ maxLen
  slc : Slc W 1 o.keepV o.keep.length (ints o.keep)
  own : ∀ g, o.keepV.ownBlock = some g → g < W.heap.size ∨ o.keep = []
theorem cellsI (W : World) : Try.prog.cellsOf 3 = 1 := by kernel_rfl
theorem cellsS (W : World) : Try.prog.cellsOf 9 = 1 := by kernel_rfl
theorem cellsL (W : World) : Try.prog.cellsOf 22 = 1 := by kernel_rfl
theorem cellsOp : Try.prog.cellsOf 72 = 6 := by kernel_rfl
section
variable {H : Type} {enc : TypeId × Value → H} {W : World}
theorem flat_ints (os : List Int) : os.flatMap (fun z : Int => [Value.int .i64 z]) = ints os := by
  unfold ints
  induction os with
  | nil => rfl
  | cons a l ih => rw [List.flatMap_cons, ih]; rfl
theorem one_at {cs : List Value} {i : Nat} {v : Value} (h : (cs.drop i).take 1 = [v]) : cs[i]? = some v := by
  have : ((cs.drop i).take 1)[0]? = some v := by rw [h]; rfl
  rw [List.getElem?_take] at this
  simpa using this
theorem open_op (n : Nat) (cs : List Value) (x : DataW H × List MemPlace) (h : DataW.trod enc Try.prog W 0 (fun _ => true) true n 72 cs = some x) (hlt : ∀ y ∈ x.2, y.block < W.heap.size) :
    ∃ o : OpR, cs = o.cells ∧ o.Ok W := by
  obtain ⟨xs, m, _, hx, hl, hlen, hf⟩ := DataW.trod_struct Try.underlying72 h
  rw [cellsOp] at hl
  have g0 : DataW.trod enc Try.prog W 0 (fun _ => true) true m 3 ((cs.drop 0).take (Try.prog.cellsOf 3)) = xs[0]? := hf 0 _ rfl
  have g1 : DataW.trod enc Try.prog W 0 (fun _ => true) true m 3 ((cs.drop 1).take (Try.prog.cellsOf 3)) = xs[1]? := hf 1 _ rfl
  have g2 : DataW.trod enc Try.prog W 0 (fun _ => true) true m 9 ((cs.drop 2).take (Try.prog.cellsOf 9)) = xs[2]? := hf 2 _ rfl
  have g3 : DataW.trod enc Try.prog W 0 (fun _ => true) true m 9 ((cs.drop 3).take (Try.prog.cellsOf 9)) = xs[3]? := hf 3 _ rfl
  have g4 : DataW.trod enc Try.prog W 0 (fun _ => true) true m 9 ((cs.drop 4).take (Try.prog.cellsOf 9)) = xs[4]? := hf 4 _ rfl
  have g5 : DataW.trod enc Try.prog W 0 (fun _ => true) true m 22 ((cs.drop 5).take (Try.prog.cellsOf 22)) = xs[5]? := hf 5 _ rfl
  rw [cellsI W] at g0 g1
  rw [cellsS W] at g2 g3 g4
  rw [cellsL W] at g5
  clear hf
  match xs, hlen with
  | [y0, y1, y2, y3, y4, y5], _ =>
    simp only [List.getElem?_cons_zero, List.getElem?_cons_succ] at g0 g1 g2 g3 g4 g5
    obtain ⟨k, c0, _, w0⟩ := DataW.trod_int Try.underlying3 g0
    obtain ⟨nn, c1, _, w1⟩ := DataW.trod_int Try.underlying3 g1
    obtain ⟨s2, c2, _, w2⟩ := DataW.trod_string Try.underlying9 g2
    obtain ⟨s3, c3, _, w3⟩ := DataW.trod_string Try.underlying9 g3
    obtain ⟨s4, c4, _, w4⟩ := DataW.trod_string Try.underlying9 g4
    obtain ⟨v, os, c5, q1, q2, q3⟩ := open_rows_at Try.underlying22 (cellsI W) (by omega) (fun z : Int => [.int .i64 z]) (fun z => True)
      (fun n cs x h _ => by
        obtain ⟨z, hz, _, _⟩ := DataW.trod_int Try.underlying3 h
        exact ⟨z, hz, trivial⟩) g5 (fun y hy => hlt y (by rw [hx]; simp; right; right; right; right; right; exact hy))
    rw [flat_ints] at q1
    refine ⟨⟨k, nn, s2, s3, s4, v, os⟩, ?_, ⟨w0, w1, w2, w3, w4, q1, q3⟩⟩
    apply List.ext_getElem?
    intro i
    unfold OpR.cells
    have a0 := one_at c0
    have a1 := one_at c1
    have a2 := one_at c2
    have a3 := one_at c3
    have a4 := one_at c4
    have a5 := one_at c5
    match i with
    | 0 => exact a0
    | 1 => exact a1
    | 2 => exact a2
    | 3 => exact a3
    | 4 => exact a4
    | 5 => exact a5
    | i + 6 => simp; omega
set_option maxRecDepth 100000 in
theorem open_ops {base : Nat} {v : Value} {d : DataW H} {ps : List MemPlace} (hval : Value.okWide Try.prog W .any base 45 v) (hd : DataW.Trod enc Try.prog W 0 (fun _ => true) true 45 v d ps) (hlt : ∀ x ∈ ps, x.block < W.heap.size) :
    ∃ os : List OpR, Slc W 6 v os.length (os.flatMap OpR.cells) ∧ (∀ o ∈ os, o.Ok W ∧ o.cells.length = 6) ∧ ∀ g, v.ownBlock = some g → g < W.heap.size ∨ os = [] :=
  open_rows Try.underlying45 cellsOp (by omega) OpR.cells (OpR.Ok W) open_op hval hd hlt
end
end Go.Proofs.Ytgahjdfjlfoioaa
