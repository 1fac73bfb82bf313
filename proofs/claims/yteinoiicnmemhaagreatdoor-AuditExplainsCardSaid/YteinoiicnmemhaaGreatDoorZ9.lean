/- Proved here: contracts of functions and plain laws, part 9 of one proof. Conditions: each theorem names its own. -/
import Derived.Test.YteinoiicnmemhaaGreatDoorZ5
import Derived.BigFrame
import Derived.Deep.Quiet
set_option linter.unusedVariables false
namespace Go.Proofs.YteinoiicnmemhaaGreatDoor
section
open Go Go.RowKit
section
variable {P : Program} {ops : Array Oper} {rest : List Oper} {o : Oper} {a : Act} {Q : Exit → Act → World → Prop}
theorem wpList_load_row2w (hw : Region.wanted o (yielded ops a.tmps) = true) (ty : TypeId) (x : Operand) (ho : o.op = .load ty x) {w : World} (b f : Nat) (hx : a.eval x = .pointer (some ⟨b, f, none⟩)) (n : Nat) (cs : List Value) (hn : cs.length = n) {d : TypeDesc} (hc : ∀ i, i < n → w.cell? ⟨b, f + i, none⟩ = cs[i]?)
    (hu : P.underlying ty = some d) (hd : d.isRow = true) (hi : (P.info? ty).map (·.size) = some n) (h : wpList P ops Q rest (a.put o.dst (.agg cs.toArray)) w) : wpList P ops Q (o :: rest) a w := by
  refine BigFrame.wpList_want hw fun _ hK => wp_load_mid ty x ho b f hx cs d (fun j v hv => ?_) hu hd (by rw [hi, hn]) (hK _ _ h)
  have hj : j < cs.length := (List.getElem?_eq_some_iff.1 hv).1
  rw [hc j (by omega)]
  exact hv
theorem quiet_load_row {C : World → Prop} (ty : TypeId) (x : Operand) (ho : o.op = .load ty x) (b f : Nat) (hx : a.eval x = .pointer (some ⟨b, f, none⟩)) (n : Nat) (cs : List Value) (hn : cs.length = n) {d : TypeDesc} (hc : ∀ W, C W → ∀ i, i < n → W.cell? ⟨b, f + i, none⟩ = cs[i]?)
    (hu : P.underlying ty = some d) (hd : d.isRow = true) (hi : (P.info? ty).map (·.size) = some n) {K : Act → Prop} (h : K (a.put o.dst (.agg cs.toArray))) : o.quiet P a C K := by
  refine ⟨.agg cs.toArray, fun W hW => ?_, h⟩
  have hr : W.rangeAt b f cs := fun j v hv => by
    have hj : j < cs.length := (List.getElem?_eq_some_iff.1 hv).1
    rw [hc W hW j (by omega)]
    exact hv
  unfold Oper.quietAt execOp
  simp only [ho, hx, run_loadAt_mid W b f ty cs d hr hu hd (by rw [hi, hn]), Sem.run_bind, Sem.run_pure, Result.andThen_ok]
  exact ⟨rfl, rfl⟩
end
end
end Go.Proofs.YteinoiicnmemhaaGreatDoor
