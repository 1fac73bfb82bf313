/- Proved here: laws that the row alone asks for. Conditions: each theorem names its own. -/
import Derived.Test.YtikboecmcbcghaaGreatP7
import Derived.StillTailTactics
import Derived.ProofKit
import Derived.OpenShut
import Derived.ChangeMaps5
import Derived.SliceStrings
import Derived.Deep.Slices
import Derived.ChangeArms
import Derived.DataReads
/- Contracts: floorOf, put, keep. -/
set_option linter.unusedVariables false
set_option linter.unusedSimpArgs false
namespace Go.Proofs.YtikboecmcbcghaaGreat
open Go.RowKit
theorem StAt.tm {w : World} {M : List Nat} {sb mb : Nat} {av : Value} {pf : ByteArray → Value} {s : MS} (h : StAt w M sb mb av pf s) : w.cell? ⟨sb, 3, none⟩ = some (.int .i64 s.now) := h.blk.cell 3
end Go.Proofs.YtikboecmcbcghaaGreat
/- Opening a law's arguments: slices of strings, of integers and of structs as plain lists. -/
set_option linter.unusedVariables false
set_option linter.unusedSimpArgs false
namespace Go.Proofs.YtikboecmcbcghaaGreat
open Go.ChangeShapes Go.WideShapes Go.ChangeAt Go.RowKit Go.WideElems Go.ChangeMaps Go.Deep
theorem laidOut : laidOutB Tryz.prog = true := by kernel_rfl
theorem addr_add (b off j : Nat) : (⟨b, off, none⟩ : Addr).add j = ⟨b, off + j, none⟩ := by
  cases j <;> simp [Addr.add]
section
variable {H : Type} {enc : TypeId × Value → H} {P : Program} {W : World} {base : Nat} {t e : TypeId} {v : Value} {d : DataW H} {ps : List MemPlace}
end
section
variable {H : Type} {enc : TypeId × Value → H} {P : Program} {W : World} {t e : TypeId}
theorem list_of {E : Type} (Q : Nat → E → Prop) : ∀ len, (∀ i, i < len → ∃ o, Q i o) → ∃ os : List E, os.length = len ∧ ∀ i (h : i < os.length), Q i os[i]
  | 0, _ => ⟨[], rfl, fun i h => absurd h (Nat.not_lt_zero _)⟩
  | len + 1, h => by
    obtain ⟨os, h1, h2⟩ := list_of Q len (fun i hi => h i (by omega))
    obtain ⟨o, ho⟩ := h len (by omega)
    refine ⟨os ++ [o], by simp [h1], fun i hi => ?_⟩
    by_cases hl : i < os.length
    · rw [List.getElem_append_left hl]; exact h2 i hl
    · have : i = len := by simp at hi; omega
      subst this
      rw [List.getElem_append_right (by omega)]
      simpa [h1] using ho
/-- The slice whose cells read so, as a list of its elements. -/
theorem open_rows_at {fuel k : Nat} {cs : List Value} {x : DataW H × List MemPlace} (ht : P.underlying t = some (.slice e)) (hc : P.cellsOf e = k) (hk : 0 < k) {E : Type} (cells : E → List Value) (okE : E → Prop)
    (hel : ∀ n cs x, DataW.trod enc P W 0 (fun _ => true) true n e cs = some x → (∀ y ∈ x.2, y.block < W.heap.size) → ∃ o, cs = cells o ∧ okE o)
    (hd : DataW.trod enc P W 0 (fun _ => true) true fuel t cs = some x) (hlt : ∀ y ∈ x.2, y.block < W.heap.size) :
    ∃ (v : Value) (os : List E), cs = [v] ∧ Slc W k v os.length (os.flatMap cells) ∧ (∀ o ∈ os, okE o ∧ (cells o).length = k) ∧ ∀ g, v.ownBlock = some g → g < W.heap.size ∨ os = [] := by
  rcases open_slice ht hd with ⟨hcs, hx⟩ | ⟨a, len, cap, m, n, D, Pl, hcs, _, hl, hm, hmm, hx, hel0⟩
  · exact ⟨_, [], hcs, Slc.nil W k, by simp, fun g hg => .inr rfl⟩
  · simp only [if_true] at hmm
    subst hmm
    have hpl : ∀ i, i < m → ∀ y ∈ Pl i, y.block < W.heap.size := fun i hi y hy => hlt y (by
      rw [hx]
      exact List.mem_append_right _ (List.mem_flatMap.2 ⟨i, List.mem_range.2 hi, hy⟩))
    obtain ⟨os, h1, h2⟩ := list_of (E := E) (fun i o => W.cells? 0 (a.add (i * P.cellsOf e)) (P.cellsOf e) = some (cells o) ∧ okE o) len (fun i hi => by
      obtain ⟨cs', hc', ht'⟩ := hel0 i (by omega)
      obtain ⟨o, rfl, ho⟩ := hel n cs' _ ht' (hpl i (by omega))
      exact ⟨o, hc', ho⟩)
    have hlen : ∀ o ∈ os, (cells o).length = k := by
      intro o ho
      obtain ⟨i, hi, rfl⟩ := List.getElem_of_mem ho
      have := (World.cells?_some (h2 i hi).1).2.1
      rw [this, hc]
    obtain ⟨b, off, spot⟩ := a
    have hcell : ∀ i (hi : i < os.length) r, r < k → W.cell? (((⟨b, off, spot⟩ : Addr).add (i * k)).add r) = (cells os[i])[r]? := by
      intro i hi r hr
      have := (World.cells?_some (h2 i hi).1).2.2 r (by rw [hc]; exact hr)
      rwa [hc] at this
    have hb : 0 < len → b < W.heap.size ∧ spot = none := by
      intro h0
      have h00 := hcell 0 (by omega) 0 hk
      have hs : (cells os[0])[0]? = some ((cells os[0])[0]'(by rw [hlen _ (List.getElem_mem _)]; exact hk)) := List.getElem?_eq_getElem _
      rw [hs] at h00
      generalize (cells os[0])[0]'(by rw [hlen _ (List.getElem_mem _)]; exact hk) = u at h00
      have h01 : W.cell? ⟨b, off, spot⟩ = some u := by simpa [Addr.add] using h00
      exact ⟨block_lt_of_cell h01, by simpa using World.cell?_spot h01⟩
    refine ⟨_, os, hcs, ?_, fun o ho => ⟨?_, hlen o ho⟩, fun g hg => ?_⟩
    · refine ⟨_, _, by rw [h1], by rw [flat_len cells k os hlen], by omega, hm, fun h0 => ?_⟩
      obtain ⟨q1, rfl⟩ := hb (by omega)
      refine ⟨b, off, rfl, q1, fun j hj => ?_⟩
      rw [flat_len cells k os hlen] at hj
      have hi : j / k < os.length := Nat.div_lt_of_lt_mul (by rw [Nat.mul_comm]; exact hj)
      have hr : j % k < k := Nat.mod_lt _ hk
      have hjk : j / k * k + j % k = j := by rw [Nat.mul_comm]; exact Nat.div_add_mod j k
      have := hcell (j / k) hi (j % k) hr
      rw [addr_add, addr_add] at this
      have e2 := flat_get cells k os hlen (j / k) (j % k) hi hr
      rw [hjk] at e2
      rw [e2, ← this]
      congr 2
      omega
    · obtain ⟨i, hi, rfl⟩ := List.getElem_of_mem ho
      exact (h2 i hi).2
    · by_cases h0 : 0 < len
      · have e : g = b := by
          have : some b = some g := hg
          simpa using this.symm
        rw [e]; exact .inl (hb h0).1
      · right
        exact List.eq_nil_of_length_eq_zero (by omega)
theorem open_rows {k : Nat} {base : Nat} {v : Value} {d : DataW H} {ps : List MemPlace} (ht : P.underlying t = some (.slice e)) (hc : P.cellsOf e = k) (hk : 0 < k) {E : Type} (cells : E → List Value) (okE : E → Prop)
    (hel : ∀ n cs x, DataW.trod enc P W 0 (fun _ => true) true n e cs = some x → (∀ y ∈ x.2, y.block < W.heap.size) → ∃ o, cs = cells o ∧ okE o)
    (hval : Value.okWide P W .any base t v) (hd : DataW.Trod enc P W 0 (fun _ => true) true t v d ps) (hlt : ∀ x ∈ ps, x.block < W.heap.size) :
    ∃ os : List E, Slc W k v os.length (os.flatMap cells) ∧ (∀ o ∈ os, okE o ∧ (cells o).length = k) ∧ ∀ g, v.ownBlock = some g → g < W.heap.size ∨ os = [] := by
  obtain ⟨fuel, hf⟩ := hd
  obtain ⟨a0, len, cap, rfl⟩ := okWide_slice ht hval
  obtain ⟨v', os, h1, h2, h3, h4⟩ := open_rows_at ht hc hk cells okE hel hf hlt
  have : v' = .slice a0 len cap := by
    simp [Value.cells] at h1
    exact h1.symm
  subst this
  exact ⟨os, h2, h3, h4⟩
end
end Go.Proofs.YtikboecmcbcghaaGreat
/- Opening []api.Command. -/
set_option linter.unusedVariables false
set_option linter.unusedSimpArgs false
namespace Go.Proofs.YtikboecmcbcghaaGreat
open Go.ChangeShapes Go.WideShapes Go.ChangeAt Go.RowKit Go.WideElems Go.ChangeMaps Go.Deep Go.Sort
theorem cellsI : Tryz.prog.cellsOf 3 = 1 := by kernel_rfl
theorem cellsS : Tryz.prog.cellsOf 9 = 1 := by kernel_rfl
theorem cellsF : Tryz.prog.cellsOf 48 = 1 := by kernel_rfl
theorem cellsEv : Tryz.prog.cellsOf 50 = 4 := by kernel_rfl
theorem cellsEvs : Tryz.prog.cellsOf 43 = 1 := by kernel_rfl
theorem cellsMt : Tryz.prog.cellsOf 45 = 3 := by kernel_rfl
theorem cellsCmd : Tryz.prog.cellsOf 47 = 8 := by kernel_rfl
section
variable {H : Type} {enc : TypeId × Value → H} {W : World}
theorem trod_float {P : Program} {base : Nat} {spare : Nat → Bool} {held : Bool} {fuel : Nat} {t : TypeId} {cs : List Value} {x : DataW H × List MemPlace} (ht : P.underlying t = some (.float .f64)) (h : DataW.trod enc P W base spare held fuel t cs = some x) : ∃ b, cs = [.float .f64 b] := by
  cases fuel with
  | zero => simp [DataW.trod] at h
  | succ n =>
    unfold DataW.trod at h
    rw [ht] at h
    split at h <;> simp_all
theorem one_at {cs : List Value} {i : Nat} {v : Value} (h : (cs.drop i).take 1 = [v]) : cs[i]? = some v := by
  have : ((cs.drop i).take 1)[0]? = some v := by rw [h]; rfl
  rw [List.getElem?_take] at this
  simpa using this
theorem open_ev (n : Nat) (cs : List Value) (x : DataW H × List MemPlace) (h : DataW.trod enc Tryz.prog W 0 (fun _ => true) true n 50 cs = some x) (hlt : ∀ y ∈ x.2, y.block < W.heap.size) :
    ∃ e : EventR, cs = e.cells ∧ (e.type.size ≤ maxLen ∧ e.data.size ≤ maxLen) := by
  obtain ⟨xs, m, _, hx, hl, hlen, hf⟩ := DataW.trod_struct Tryz.underlying50 h
  rw [cellsEv] at hl
  have g0 : DataW.trod enc Tryz.prog W 0 (fun _ => true) true m 3 ((cs.drop 0).take (Tryz.prog.cellsOf 3)) = xs[0]? := hf 0 _ rfl
  have g1 : DataW.trod enc Tryz.prog W 0 (fun _ => true) true m 9 ((cs.drop 1).take (Tryz.prog.cellsOf 9)) = xs[1]? := hf 1 _ rfl
  have g2 : DataW.trod enc Tryz.prog W 0 (fun _ => true) true m 9 ((cs.drop 2).take (Tryz.prog.cellsOf 9)) = xs[2]? := hf 2 _ rfl
  have g3 : DataW.trod enc Tryz.prog W 0 (fun _ => true) true m 48 ((cs.drop 3).take (Tryz.prog.cellsOf 48)) = xs[3]? := hf 3 _ rfl
  rw [cellsI] at g0
  rw [cellsS] at g1 g2
  rw [cellsF] at g3
  clear hf
  match xs, hlen with
  | [y0, y1, y2, y3], _ =>
    simp only [List.getElem?_cons_zero, List.getElem?_cons_succ] at g0 g1 g2 g3
    obtain ⟨k, c0, _, w0⟩ := DataW.trod_int Tryz.underlying3 g0
    obtain ⟨s1, c1, _, w1⟩ := DataW.trod_string Tryz.underlying9 g1
    obtain ⟨s2, c2, _, w2⟩ := DataW.trod_string Tryz.underlying9 g2
    obtain ⟨b, c3⟩ := trod_float Tryz.underlying48 g3
    refine ⟨⟨k, s1, s2, b⟩, ?_, w1, w2⟩
    apply List.ext_getElem?
    intro i
    unfold EventR.cells
    have a0 := one_at c0
    have a1 := one_at c1
    have a2 := one_at c2
    have a3 := one_at c3
    match i with
    | 0 => exact a0
    | 1 => exact a1
    | 2 => exact a2
    | 3 => exact a3
    | i + 4 => simp; omega
theorem open_mt (n : Nat) (cs : List Value) (x : DataW H × List MemPlace) (h : DataW.trod enc Tryz.prog W 0 (fun _ => true) true n 45 cs = some x) : ∃ m : MetaR, cs = m.cells := by
  obtain ⟨xs, m, _, hx, hl, hlen, hf⟩ := DataW.trod_struct Tryz.underlying45 h
  rw [cellsMt] at hl
  have g0 : DataW.trod enc Tryz.prog W 0 (fun _ => true) true m 3 ((cs.drop 0).take (Tryz.prog.cellsOf 3)) = xs[0]? := hf 0 _ rfl
  have g1 : DataW.trod enc Tryz.prog W 0 (fun _ => true) true m 3 ((cs.drop 1).take (Tryz.prog.cellsOf 3)) = xs[1]? := hf 1 _ rfl
  have g2 : DataW.trod enc Tryz.prog W 0 (fun _ => true) true m 3 ((cs.drop 2).take (Tryz.prog.cellsOf 3)) = xs[2]? := hf 2 _ rfl
  rw [cellsI] at g0 g1 g2
  clear hf
  match xs, hlen with
  | [y0, y1, y2], _ =>
    simp only [List.getElem?_cons_zero, List.getElem?_cons_succ] at g0 g1 g2
    obtain ⟨k0, c0, _, _⟩ := DataW.trod_int Tryz.underlying3 g0
    obtain ⟨k1, c1, _, _⟩ := DataW.trod_int Tryz.underlying3 g1
    obtain ⟨k2, c2, _, _⟩ := DataW.trod_int Tryz.underlying3 g2
    refine ⟨⟨k0, k1, k2⟩, ?_⟩
    apply List.ext_getElem?
    intro i
    unfold MetaR.cells
    have a0 := one_at c0
    have a1 := one_at c1
    have a2 := one_at c2
    match i with
    | 0 => exact a0
    | 1 => exact a1
    | 2 => exact a2
    | i + 3 => simp; omega
theorem open_cmd (n : Nat) (cs : List Value) (x : DataW H × List MemPlace) (h : DataW.trod enc Tryz.prog W 0 (fun _ => true) true n 47 cs = some x) (hlt : ∀ y ∈ x.2, y.block < W.heap.size) :
    ∃ o : CmdV, cs = o.cells ∧ o.Ok W := by
  obtain ⟨xs, m, _, hx, hl, hlen, hf⟩ := DataW.trod_struct Tryz.underlying47 h
  rw [cellsCmd] at hl
  have g0 : DataW.trod enc Tryz.prog W 0 (fun _ => true) true m 3 ((cs.drop 0).take (Tryz.prog.cellsOf 3)) = xs[0]? := hf 0 _ rfl
  have g1 : DataW.trod enc Tryz.prog W 0 (fun _ => true) true m 3 ((cs.drop 1).take (Tryz.prog.cellsOf 3)) = xs[1]? := hf 1 _ rfl
  have g2 : DataW.trod enc Tryz.prog W 0 (fun _ => true) true m 9 ((cs.drop 2).take (Tryz.prog.cellsOf 9)) = xs[2]? := hf 2 _ rfl
  have g3 : DataW.trod enc Tryz.prog W 0 (fun _ => true) true m 3 ((cs.drop 3).take (Tryz.prog.cellsOf 3)) = xs[3]? := hf 3 _ rfl
  have g4 : DataW.trod enc Tryz.prog W 0 (fun _ => true) true m 43 ((cs.drop 4).take (Tryz.prog.cellsOf 43)) = xs[4]? := hf 4 _ rfl
  have g5 : DataW.trod enc Tryz.prog W 0 (fun _ => true) true m 45 ((cs.drop 5).take (Tryz.prog.cellsOf 45)) = xs[5]? := hf 5 _ rfl
  rw [cellsI] at g0 g1 g3
  rw [cellsS] at g2
  rw [cellsEvs] at g4
  rw [cellsMt] at g5
  clear hf
  match xs, hlen with
  | [y0, y1, y2, y3, y4, y5], _ =>
    simp only [List.getElem?_cons_zero, List.getElem?_cons_succ] at g0 g1 g2 g3 g4 g5
    obtain ⟨k, c0, _, w0⟩ := DataW.trod_int Tryz.underlying3 g0
    obtain ⟨tm, c1, _, w1⟩ := DataW.trod_int Tryz.underlying3 g1
    obtain ⟨s2, c2, _, w2⟩ := DataW.trod_string Tryz.underlying9 g2
    obtain ⟨ex, c3, _, w3⟩ := DataW.trod_int Tryz.underlying3 g3
    obtain ⟨v, es, c4, q1, q2, q3⟩ := open_rows_at Tryz.underlying43 cellsEv (by omega) EventR.cells (fun e => e.type.size ≤ maxLen ∧ e.data.size ≤ maxLen) open_ev g4 (fun y hy => hlt y (by rw [hx]; simp; right; right; right; right; left; exact hy))
    obtain ⟨mt, c5⟩ := open_mt _ _ _ g5
    refine ⟨⟨⟨k, tm, s2, ex, es, mt⟩, v⟩, ?_, ⟨⟨w2, fun e he => (q2 e he).1⟩, q1, q3⟩⟩
    apply List.ext_getElem?
    intro i
    unfold CmdV.cells
    have a0 := one_at c0
    have a1 := one_at c1
    have a2 := one_at c2
    have a3 := one_at c3
    have a4 := one_at c4
    have b : ∀ j, j < 3 → cs[5 + j]? = mt.cells[j]? := fun j hj => by
      rw [← c5, List.getElem?_take, if_pos hj, List.getElem?_drop]
    match i with
    | 0 => exact a0
    | 1 => exact a1
    | 2 => exact a2
    | 3 => exact a3
    | 4 => exact a4
    | 5 => exact b 0 (by omega)
    | 6 => exact b 1 (by omega)
    | 7 => exact b 2 (by omega)
    | i + 8 => simp; omega
set_option maxRecDepth 100000 in
theorem open_cmds {base : Nat} {v : Value} {d : DataW H} {ps : List MemPlace} (hval : Value.okWide Tryz.prog W .any base 22 v) (hd : DataW.Trod enc Tryz.prog W 0 (fun _ => true) true 22 v d ps) (hlt : ∀ x ∈ ps, x.block < W.heap.size) :
    ∃ os : List CmdV, Slc W 8 v os.length (os.flatMap CmdV.cells) ∧ (∀ o ∈ os, o.Ok W ∧ o.cells.length = 8) ∧ ∀ g, v.ownBlock = some g → g < W.heap.size ∨ os = [] :=
  open_rows Tryz.underlying22 cellsCmd (by omega) CmdV.cells (CmdV.Ok W) open_cmd hval hd hlt
end
section
variable {a w w' : World} {R : List Nat} {v : Value} {l : List CmdV}
end
end Go.Proofs.YtikboecmcbcghaaGreat
