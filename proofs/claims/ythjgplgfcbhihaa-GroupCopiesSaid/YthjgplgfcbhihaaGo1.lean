/- Opening []Op of the groups' laws; Light, SameInts, SameTexts. -/
import Derived.Test.YthjgplgfcbhihaaMop
import Derived.Test.YthjgplgfcbhihaaGc16
set_option linter.unusedVariables false
set_option linter.unusedSimpArgs false
namespace Go.Proofs.Ythjgplgfcbhihaa
open Go.ChangeShapes Go.WideShapes Go.ChangeAt Go.RowKit Go.WideElems Go.ChangeMaps Go.Deep Go.Sort
/-- A step: its list lies in lv. -/
structure OpG where
  kind : Int
  n : Int
  who : ByteArray
  l : List Int
  lv : Value
def OpG.cells (o : OpG) : List Value := [.int .i64 o.kind, .int .i64 o.n, .string o.who, o.lv]
structure OpG.Ok (W : World) (o : OpG) : Prop where
  who : o.who.size ≤ maxLen
  slc : Slc W 1 o.lv o.l.length (ints o.l)
  own : ∀ g, o.lv.ownBlock = some g → g < W.heap.size ∨ o.l = []
theorem cellsI : Try.prog.cellsOf 3 = 1 := by kernel_rfl
theorem cellsS : Try.prog.cellsOf 9 = 1 := by kernel_rfl
theorem cellsIs : Try.prog.cellsOf 22 = 1 := by kernel_rfl
theorem cellsOpG : Try.prog.cellsOf 62 = 4 := by kernel_rfl
theorem flat_ints : ∀ zs : List Int, zs.flatMap (fun z : Int => [Value.int .i64 z]) = ints zs
  | [] => rfl
  | a :: l => by
    rw [List.flatMap_cons, flat_ints l]
    rfl
section
variable {H : Type} {enc : TypeId × Value → H} {W : World}
theorem one_at {cs : List Value} {i : Nat} {v : Value} (h : (cs.drop i).take 1 = [v]) : cs[i]? = some v := by
  have : ((cs.drop i).take 1)[0]? = some v := by rw [h]; rfl
  rw [List.getElem?_take] at this
  simpa using this
theorem open_int1 (n : Nat) (cs : List Value) (x : DataW H × List MemPlace) (h : DataW.trod enc Try.prog W 0 (fun _ => true) true n 3 cs = some x) (hlt : ∀ y ∈ x.2, y.block < W.heap.size) :
    ∃ z : Int, cs = [.int .i64 z] ∧ True := by
  obtain ⟨k, c0, _, _⟩ := DataW.trod_int Try.underlying3 h
  exact ⟨k, c0, trivial⟩
theorem open_opg (n : Nat) (cs : List Value) (x : DataW H × List MemPlace) (h : DataW.trod enc Try.prog W 0 (fun _ => true) true n 62 cs = some x) (hlt : ∀ y ∈ x.2, y.block < W.heap.size) :
    ∃ o : OpG, cs = o.cells ∧ o.Ok W := by
  obtain ⟨xs, m, _, hx, hl, hlen, hf⟩ := DataW.trod_struct Try.underlying62 h
  rw [cellsOpG] at hl
  have g0 : DataW.trod enc Try.prog W 0 (fun _ => true) true m 3 ((cs.drop 0).take (Try.prog.cellsOf 3)) = xs[0]? := hf 0 _ rfl
  have g1 : DataW.trod enc Try.prog W 0 (fun _ => true) true m 3 ((cs.drop 1).take (Try.prog.cellsOf 3)) = xs[1]? := hf 1 _ rfl
  have g2 : DataW.trod enc Try.prog W 0 (fun _ => true) true m 9 ((cs.drop 2).take (Try.prog.cellsOf 9)) = xs[2]? := hf 2 _ rfl
  have g3 : DataW.trod enc Try.prog W 0 (fun _ => true) true m 22 ((cs.drop 3).take (Try.prog.cellsOf 22)) = xs[3]? := hf 3 _ rfl
  rw [cellsI] at g0 g1
  rw [cellsS] at g2
  rw [cellsIs] at g3
  clear hf
  match xs, hlen with
  | [y0, y1, y2, y3], _ =>
    simp only [List.getElem?_cons_zero, List.getElem?_cons_succ] at g0 g1 g2 g3
    obtain ⟨k, c0, _, w0⟩ := DataW.trod_int Try.underlying3 g0
    obtain ⟨j, c1, _, w1⟩ := DataW.trod_int Try.underlying3 g1
    obtain ⟨s, c2, _, w2⟩ := DataW.trod_string Try.underlying9 g2
    obtain ⟨v, zs, c3, q1, q2, q3⟩ := open_rows_at Try.underlying22 cellsI (by omega) (fun z : Int => [Value.int .i64 z]) (fun _ => True) open_int1 g3 (fun y hy => hlt y (by rw [hx]; simp; right; right; right; exact hy))
    rw [flat_ints] at q1
    refine ⟨⟨k, j, s, zs, v⟩, ?_, ⟨w2, q1, q3⟩⟩
    apply List.ext_getElem?
    intro i
    unfold OpG.cells
    have a0 := one_at c0
    have a1 := one_at c1
    have a2 := one_at c2
    have a3 := one_at c3
    match i with
    | 0 => exact a0
    | 1 => exact a1
    | 2 => exact a2
    | 3 => exact a3
    | i + 4 => simp; omega
set_option maxRecDepth 100000 in
theorem open_opgs {base : Nat} {v : Value} {d : DataW H} {ps : List MemPlace} (hval : Value.okWide Try.prog W .any base 41 v) (hd : DataW.Trod enc Try.prog W 0 (fun _ => true) true 41 v d ps) (hlt : ∀ x ∈ ps, x.block < W.heap.size) :
    ∃ os : List OpG, Slc W 4 v os.length (os.flatMap OpG.cells) ∧ (∀ o ∈ os, o.Ok W ∧ o.cells.length = 4) ∧ ∀ g, v.ownBlock = some g → g < W.heap.size ∨ os = [] :=
  open_rows Try.underlying41 cellsOpG (by omega) OpG.cells (OpG.Ok W) open_opg hval hd hlt
end
/-- Steps that lie below the world a. -/
structure OpsG (a w : World) (v : Value) (l : List OpG) : Prop where
  slc : Slc w 4 v l.length (l.flatMap OpG.cells)
  own : ∀ g, v.ownBlock = some g → g < a.heap.size ∨ l = []
  op : ∀ o ∈ l, o.who.size ≤ maxLen ∧ Slc w 1 o.lv o.l.length (ints o.l) ∧ ∀ g, o.lv.ownBlock = some g → g < a.heap.size ∨ o.l = []
section
variable {a w w' : World} {v : Value} {l : List OpG}
theorem OpsG.of {W : World} (h1 : Slc W 4 v l.length (l.flatMap OpG.cells)) (h2 : ∀ o ∈ l, o.Ok W ∧ o.cells.length = 4) (h3 : ∀ g, v.ownBlock = some g → g < W.heap.size ∨ l = []) : OpsG W W v l :=
  ⟨h1, h3, fun x hx => ⟨(h2 x hx).1.who, (h2 x hx).1.slc, (h2 x hx).1.own⟩⟩
theorem slc_keep {S : List Nat} {size n : Nat} {u : Value} {cs : List Value} {E : Type} {os : List E} (k : Only S w w') (hS : ∀ b ∈ S, a.heap.size ≤ b) (hn : n = os.length) (hs : Slc w size u n cs) (hg : ∀ g, u.ownBlock = some g → g < a.heap.size ∨ os = []) : Slc w' size u n cs := by
  by_cases h0 : os = []
  · subst h0
    subst hn
    exact hs.empty
  · exact hs.only k (fun g q r => by
      have := (hg g q).resolve_right h0
      have := hS g r
      omega)
theorem OpsG.keep {S : List Nat} (h : OpsG a w v l) (k : Only S w w') (hS : ∀ b ∈ S, a.heap.size ≤ b) : OpsG a w' v l :=
  ⟨slc_keep k hS rfl h.slc h.own, h.own, fun x hx => ⟨(h.op x hx).1, slc_keep k hS rfl (h.op x hx).2.1 (h.op x hx).2.2, (h.op x hx).2.2⟩⟩
theorem OpsG.keep0 (h : OpsG a w v l) (k : Only [] w w') : OpsG a w' v l := h.keep k (by simp)
theorem OpsG.cells (h : OpsG a w v l) : ∃ A cap, v = .slice A l.length cap ∧ l.length ≤ cap ∧ cap ≤ maxLen ∧ ∀ j (hj : j < l.length), ∃ b off, A = some ⟨b, off, none⟩ ∧ b < w.heap.size ∧ b < a.heap.size ∧ ∀ r, r < 4 → w.cell? ⟨b, off + j * 4 + r, none⟩ = (l[j].cells)[r]? := by
  obtain ⟨A, cap, rfl, h1, h2, h3⟩ := h.slc.openE OpG.cells (fun _ => rfl)
  refine ⟨A, cap, rfl, h1, h2, fun j hj => ?_⟩
  obtain ⟨b, off, rfl, q1, q2⟩ := h3 j hj
  refine ⟨b, off, rfl, q1, ?_, q2⟩
  rcases h.own b rfl with q | q
  · exact q
  · rw [q] at hj
    simp at hj
end
/-- Few and small. -/
def SmallG (l : List OpG) : Prop := l.length ≤ 60 ∧ ∀ o ∈ l, o.who.size ≤ 100 ∧ o.l.length ≤ 30
def LightRet (l : List OpG) (e : Ending) : Prop := ∃ b : Bool, e = .returned (.bool b) ∧ (b = true → SmallG l)
set_option maxRecDepth 100000 in
set_option maxHeartbeats 2000000 in
theorem lightG_any {w : World} {v : Value} {l : List OpG} (h : OpsG w w v l) :
    Calls Try.prog 22 #[v] w fun e w' => LightRet l e ∧ Only [] w w' := by
  have hop := h.op
  obtain ⟨A, cap, rfl, _, hcap, hel⟩ := h.cells
  unfold maxLen at hcap
  have Hel := Lib.hid hel
  clear hel h
  go_enter Try.func22, Try.ntmps22
  go_wp2
  go_loopw [3] (fun iv wr => ∃ j : Nat, j ≤ l.length ∧ j ≤ 200 ∧ iv = .int .i64 j ∧ Hid (∀ k (hk : k < j) (hl : k < l.length), l[k].who.size ≤ 100 ∧ l[k].l.length ≤ 30) ∧ Only [] w wr) (fun iv _ => l.length - (intOf iv).toNat)
  case atStart => exact ⟨0, Nat.zero_le _, by omega, rfl, fun k hk => absurd hk (Nat.not_lt_zero _), Only.refl _ _⟩
  case round =>
    obtain ⟨j, hj, hj2, rfl, hs, hO⟩ := hrel
    by_cases hlt : j < l.length
    · by_cases hj3 : j < 200
      · obtain ⟨b, off, rfl, hb, _, hcell⟩ := Hel.out j hlt
        obtain ⟨o, ho⟩ : ∃ o, o = l[j] := ⟨_, rfl⟩
        have hoo := hop o (by rw [ho]; exact List.getElem_mem hlt)
        rw [← ho] at hcell
        have c2 : wr.cell? ⟨b, off + j * 4 + 2, none⟩ = some (.string o.who) := (hO.cell hb (by simp)).trans (hcell 2 (by omega))
        have c3 : wr.cell? ⟨b, off + j * 4 + 3, none⟩ = some o.lv := (hO.cell hb (by simp)).trans (hcell 3 (by omega))
        obtain ⟨Al, cl, hlv, _, _, _⟩ := hoo.2.1.openI
        rw [hlv] at c3
        by_cases h1 : 100 < o.who.size
        · clear hcell hoo hop hlv ho
          go_wp2
          go_ret
          exact ⟨⟨_, rfl, fun q => by cases q⟩, hO⟩
        · by_cases h2 : 30 < o.l.length
          · clear hcell hoo hop hlv ho
            go_wp2
            go_ret
            exact ⟨⟨_, rfl, fun q => by cases q⟩, hO⟩
          · have hs2 : Hid (∀ k (hk : k < j + 1) (hl : k < l.length), l[k].who.size ≤ 100 ∧ l[k].l.length ≤ 30) := fun k hk hl => by
              by_cases e : k = j
              · subst e
                rw [← ho]
                omega
              · exact hs.out k (by omega) hl
            clear hcell hoo hop hlv ho hs
            go_wp2
            exact ⟨⟨j + 1, hlt, by omega, by simp, hs2, hO⟩, by simp [intOf]; omega⟩
      · have hbig : ¬ l.length ≤ 60 := by omega
        go_wp2
        go_ret
        exact ⟨⟨_, rfl, fun q => absurd (by have := of_decide_eq_true q; omega) hbig⟩, hO⟩
    · go_wp2
      go_ret
      refine ⟨⟨_, rfl, fun q => ⟨by have := of_decide_eq_true q; omega, fun o ho => ?_⟩⟩, hO⟩
      obtain ⟨k, hk, rfl⟩ := List.getElem_of_mem ho
      exact hs.out k (by omega) hk
end Go.Proofs.Ythjgplgfcbhihaa
