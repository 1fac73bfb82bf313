/- Proved here: contracts of functions and plain laws, part 5 of one proof. Conditions: each theorem names its own. -/
import Derived.Test.YteinoiicnmemhaaGreatDoorZ1
import Derived.Test.YteinoiicnmemhaaGreatDoorProg
import Derived.Deep.MidRow
import Derived.Deep.WholeRow
set_option linter.unusedVariables false
namespace Go.Proofs.YteinoiicnmemhaaGreatDoor
section
open Go Go.RowKit
section
variable {P : Program} {ops : Array Oper} {rest : List Oper} {o : Oper} {a : Act} {Q : Exit → Act → World → Prop}
theorem wpList_store_new (hgd : o.guard = none) (ty : TypeId) (x y : Operand) (ho : o.op = .store ty x y) (w : World) (c : Array Value) (n : Nat) (cs : List Value) (hn : cs.length = n) (hs : c.size = n) (hx : a.eval x = .pointer (some ⟨w.heap.size, 0, none⟩)) (hy : a.eval y = .agg cs.toArray)
    (hi : (P.info? ty).map (·.size) = some n) (h1 : ∀ u ∈ cs, u.oneCell' = true) (h : wpList P ops Q rest (a.put o.dst undef) (w.alloc (.cells cs.toArray ty))) : wpList P ops Q (o :: rest) a (w.alloc (.cells c ty)) := by
  refine wpList_plain hgd fun _ hK => ?_
  unfold Oper.wp execOp
  simp only [ho, hx, hy, Sem.run_bind, Sem.run_pure, Result.andThen_ok, run_storeAt_new w ty c cs.toArray (by rw [hi, ← hn]; simp) (by rw [hs, ← hn]; simp) (all_oneCell_toArray h1)]
  exact hK _ _ h
theorem wpList_load_row2 (hgd : o.guard = none) (ty : TypeId) (x : Operand) (ho : o.op = .load ty x) {w : World} (b f : Nat) (hx : a.eval x = .pointer (some ⟨b, f, none⟩)) (n : Nat) (cs : List Value) (hn : cs.length = n) {d : TypeDesc} (hc : ∀ i, i < n → w.cell? ⟨b, f + i, none⟩ = cs[i]?)
    (hu : P.underlying ty = some d) (hd : d.isRow = true) (hi : (P.info? ty).map (·.size) = some n) (h : wpList P ops Q rest (a.put o.dst (.agg cs.toArray)) w) : wpList P ops Q (o :: rest) a w := by
  refine wpList_load_mid hgd ty x ho b f hx cs d (fun j v hv => ?_) hu hd (by rw [hi, hn]) h
  have hj : j < cs.length := (List.getElem?_eq_some_iff.1 hv).1
  rw [hc j (by omega)]
  exact hv
end
end
end Go.Proofs.YteinoiicnmemhaaGreatDoor
