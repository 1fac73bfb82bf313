/- Proved here: contracts of functions and plain laws, part 3 of one proof. Conditions: each theorem names its own. -/
import Derived.Test.YtikboecmcbcghaaGreatP2
import Derived.Lib.SliceRun
import Derived.Deep.DeepCutAuto
import Derived.Sort.Walk0
import Derived.Test.YtikboecmcbcghaaGreatProg
import Derived.Deep.AppendLies
import Derived.Lib.AppendZeros
/- Contract: At, an event of a stream that is seen (from Lt1 of the Link seat). -/
set_option linter.unusedVariables false
set_option linter.unusedSimpArgs false
namespace Go.Proofs.YtikboecmcbcghaaGreat
open Go.RowKit Go Go.Sort
theorem places_bd {s : MS} (h : s.Inv) (n : ByteArray) : ∀ p ∈ (s.find n).places, 0 ≤ p ∧ p < s.all.length := by
  intro p hp
  obtain ⟨k, hk, rfl⟩ := List.mem_iff_getElem.1 hp
  obtain ⟨q, hq, e, _⟩ := h.plc n k hk
  omega
/-- What At tells. -/
def MS.atB (s : MS) (n : ByteArray) (v : Int) : Option StoredR :=
  if v < 0 ∨ ((s.find n).places.length : Int) ≤ v then none
  else if s.seenAt (((s.find n).places[v.toNat]?).getD 0) then some (evAt s.all (((s.find n).places[v.toNat]?).getD 0)) else none
def atV : Option StoredR → Value
  | some x => .tuple #[.agg #[.int .i64 x.ev.id, .string x.ev.type, .string x.ev.data, .float .f64 x.ev.value, .string x.stream, .int .i64 x.version, .int .i64 x.position, .int .i64 x.time], .bool true]
  | none => .tuple #[.agg #[.int .i64 0, .string ⟨#[]⟩, .string ⟨#[]⟩, .float .f64 0, .string ⟨#[]⟩, .int .i64 0, .int .i64 0, .int .i64 0], .bool false]
section
variable {w : World} {M : List Nat} {sb mb N : Nat} {av : Value} {pf : ByteArray → Value} {s : MS}
set_option maxRecDepth 100000 in
set_option maxHeartbeats 4000000 in
theorem atS_any (h : StAt w M sb mb av pf s) (hs : s.Ok N) (hN : N ≤ 100000) (hi : s.Inv) (n : ByteArray) (v : Int) :
    Calls Tryz.prog 20 #[.pointer (some ⟨sb, 0, none⟩), .string n, .int .i64 v] w fun e w' => e = .returned (atV (s.atB n v)) ∧ Only [] w w' := by
  have hal := hs.all
  have hsf := stF
  obtain ⟨Ap, capp, hpv, hcm, hf⟩ := findv h n
  have hsl := (h.rd n).1
  rw [hpv] at hsl
  obtain ⟨_, _, e1, hnp, _, help⟩ := hsl.openI
  cases e1
  unfold maxLen at hcm
  have HF := Lib.hid hf
  have hbd := places_bd hi n
  have hSe := Lib.hid (fun (W : World) (hW : Only [] w W) (p : Int) => seenAt_any (h.only0 hW) hs hN p)
  obtain ⟨A2, cap2, hav, hnc2, hcm2, hel2⟩ := h.cell
  unfold maxLen at hcm2
  have hsb := h.blk
  rw [hav] at hsb
  have hs0 := hsb.cell 0
  have hslt := hsb.lt
  obtain ⟨x, hx⟩ : ∃ x, s.find n = x := ⟨_, rfl⟩
  have hatB : s.atB n v = if v < 0 ∨ (x.places.length : Int) ≤ v then none else if s.seenAt ((x.places[v.toNat]?).getD 0) then some (evAt s.all ((x.places[v.toNat]?).getD 0)) else none := by
    unfold MS.atB
    rw [hx]
  rw [hx] at HF help hbd hnp
  clear hf hpv hsl hav hsb hx
  by_cases hp : v < 0
  · have hR : Hid (s.atB n v = none) := by unfold Hid; rw [hatB, if_pos (.inl hp)]
    have hd : decide (v < 0) = true := decide_eq_true hp
    clear hatB help hel2
    go_enter Tryz.func20, Tryz.ntmps20
    go_wp2_with (go_at_call 39; refine (HF.out _ ((Only.refl _ _).alloc _)).mono ?_; rintro e w1 ⟨rfl, ho1⟩
                 have hf := fun o i => (((Only.refl [] w1).alloc o).blk (ho1.blk (Blk.new w 66 _) (by simp)) (by simp)).free i
                 have hc := fun o i => (((Only.refl [] w1).alloc o).blk (ho1.blk (Blk.new w 66 _) (by simp)) (by simp)).cell i)
    refine bodyPost_ret (v := .tuple #[.agg #[.int .i64 0, .string ⟨#[]⟩, .string ⟨#[]⟩, .float .f64 0, .string ⟨#[]⟩, .int .i64 0, .int .i64 0, .int .i64 0], .bool false]) (by simp [results, Tryz.results20, go_sem, hc]) rfl ⟨by rw [hR.out]; rfl, ?hw⟩
    case hw =>
      iterate 8 (refine Only.setCell ?_ (.inr (Nat.le_refl _)) _)
      exact (((Only.refl [] w).alloc _).trans ho1).alloc _
  · by_cases hge : (x.places.length : Int) ≤ v
    · have hR : Hid (s.atB n v = none) := by unfold Hid; rw [hatB, if_pos (.inr hge)]
      have hd : decide (v < 0) = false := decide_eq_false hp
      have hd2 : decide (v ≥ (x.places.length : Int)) = true := decide_eq_true hge
      clear hatB help hel2
      go_enter Tryz.func20, Tryz.ntmps20
      go_wp2_with (go_at_call 39; refine (HF.out _ ((Only.refl _ _).alloc _)).mono ?_; rintro e w1 ⟨rfl, ho1⟩
                   have hf := fun o i => (((Only.refl [] w1).alloc o).blk (ho1.blk (Blk.new w 66 _) (by simp)) (by simp)).free i
                   have hc := fun o i => (((Only.refl [] w1).alloc o).blk (ho1.blk (Blk.new w 66 _) (by simp)) (by simp)).cell i)
      refine bodyPost_ret (v := .tuple #[.agg #[.int .i64 0, .string ⟨#[]⟩, .string ⟨#[]⟩, .float .f64 0, .string ⟨#[]⟩, .int .i64 0, .int .i64 0, .int .i64 0], .bool false]) (by simp [results, Tryz.results20, go_sem, hc]) rfl ⟨by rw [hR.out]; rfl, ?hw⟩
      case hw =>
        iterate 8 (refine Only.setCell ?_ (.inr (Nat.le_refl _)) _)
        exact (((Only.refl [] w).alloc _).trans ho1).alloc _
    · obtain ⟨k, rfl⟩ : ∃ k : Nat, v = k := ⟨v.toNat, by omega⟩
      have hk : k < x.places.length := by omega
      obtain ⟨bp, offp, rfl, hbp, hcp⟩ := help k hk
      obtain ⟨pp, hpp⟩ : ∃ pp, x.places[k] = pp := ⟨_, rfl⟩
      have hpb := hbd pp (by rw [← hpp]; exact List.getElem_mem hk)
      obtain ⟨q, rfl⟩ : ∃ q : Nat, pp = q := ⟨pp.toNat, by omega⟩
      rw [hpp] at hcp
      have hatC : s.atB n (k : Int) = if s.seenAt (q : Int) then some (evAt s.all (q : Int)) else none := by
        rw [hatB, if_neg (by omega), Int.toNat_natCast, List.getElem?_eq_getElem hk, hpp]
        rfl
      have hd : decide ((k : Int) < 0) = false := decide_eq_false (by omega)
      have hd2 : decide ((k : Int) ≥ (x.places.length : Int)) = false := decide_eq_false (by omega)
      have hd3 : decide (k < x.places.length) = true := decide_eq_true hk
      have hd4 : decide (x.places.length ≤ k) = false := decide_eq_false (by omega)
      have hq : q < s.all.length := by omega
      obtain ⟨b2, rfl, hb2, hc2⟩ := hel2 q hq
      obtain ⟨z, hz⟩ : ∃ z, s.all[q] = z := ⟨_, rfl⟩
      rw [hz] at hc2
      have hze : evAt s.all (q : Int) = z := by rw [evAt_nat hq, hz]
      rw [hze] at hatC
      have HSe := Lib.hid (fun (W : World) (hW : Only [] w W) => hSe.out W hW (q : Int))
      cases hb : s.seenAt (q : Int) with
      | false =>
        rw [hb] at hatC HSe
        have hR : Hid (s.atB n (k : Int) = none) := hatC
        clear hatC hatB hc2 hpp hz hze hSe hb hel2 help hbd
        go_enter Tryz.func20, Tryz.ntmps20
        go_wp2_with (first
          | (go_at_call 39; refine (HF.out _ ((Only.refl _ _).alloc _)).mono ?_; rintro e w1 ⟨rfl, ho1⟩
             have ho1' := (((Only.refl [] w).alloc _).trans ho1)
             have d0 := fun o => (World.cell?_alloc_lt w1 o ⟨bp, offp + k, none⟩ (Nat.lt_of_lt_of_le hbp ho1'.size)).trans ((ho1'.cell hbp (by simp)).trans hcp))
          | (go_at_call 59; refine (HSe.out _ (((((Only.refl _ _).alloc _).trans ho1)).alloc _)).mono ?_; rintro e w2 ⟨rfl, ho2⟩
             have hk2 : Blk w2 w.heap.size 66 #[.int .i64 0, .string ⟨#[]⟩, .string ⟨#[]⟩, .float .f64 0, .string ⟨#[]⟩, .int .i64 0, .int .i64 0, .int .i64 0] := ho2.blk (((Only.refl [] w1).alloc _).blk (ho1.blk (Blk.new w _ _) (by simp)) (by simp)) (by simp)
             have hf := hk2.free
             have hc := hk2.cell))
        refine bodyPost_ret (v := .tuple #[.agg #[.int .i64 0, .string ⟨#[]⟩, .string ⟨#[]⟩, .float .f64 0, .string ⟨#[]⟩, .int .i64 0, .int .i64 0, .int .i64 0], .bool false]) (by simp [results, Tryz.results20, go_sem, hc]) rfl ⟨by rw [hR.out]; rfl, ?hw⟩
        case hw =>
          iterate 8 (refine Only.setCell ?_ (.inr (Nat.le_refl _)) _)
          exact ((((Only.refl [] w).alloc _).trans ho1).alloc _).trans ho2
      | true =>
        rw [hb] at hatC HSe
        have hR : Hid (s.atB n (k : Int) = some z) := hatC
        clear hatC hatB hpp hz hze hSe hb hel2 help hbd
        go_enter Tryz.func20, Tryz.ntmps20
        go_wp2_with (first
          | (go_at_call 39; refine (HF.out _ ((Only.refl _ _).alloc _)).mono ?_; rintro e w1 ⟨rfl, ho1⟩
             have ho1' := (((Only.refl [] w).alloc _).trans ho1)
             have d0 := fun o => (World.cell?_alloc_lt w1 o ⟨bp, offp + k, none⟩ (Nat.lt_of_lt_of_le hbp ho1'.size)).trans ((ho1'.cell hbp (by simp)).trans hcp))
          | (go_at_call 59; refine (HSe.out _ (((((Only.refl _ _).alloc _).trans ho1)).alloc _)).mono ?_; rintro e w2 ⟨rfl, ho2⟩))
        have hk2 : Blk w2 w.heap.size 66 #[.int .i64 0, .string ⟨#[]⟩, .string ⟨#[]⟩, .float .f64 0, .string ⟨#[]⟩, .int .i64 0, .int .i64 0, .int .i64 0] := ho2.blk (((Only.refl [] w1).alloc _).blk (ho1.blk (Blk.new w _ _) (by simp)) (by simp)) (by simp)
        have hf := hk2.free
        have hc := hk2.cell
        have hk1 : Blk w2 w1.heap.size 82 #[.slice (some ⟨bp, offp, none⟩) x.places.length capp, .int .i64 x.mt.maxCount, .int .i64 x.mt.maxAge, .int .i64 x.mt.before, .int .i64 x.floor, .bool x.deleted] := ho2.blk (Blk.new w1 _ _) (by simp)
        have e1 := hk1.cell 0
        have hO2 : Only [] w w2 := (ho1'.alloc _).trans ho2
        have e0 := (hO2.cell (p := ⟨sb, 0, none⟩) hslt (by simp)).trans hs0
        have e2 := (hO2.cell (p := ⟨bp, offp + k, none⟩) hbp (by simp)).trans hcp
        have d0' : w2.cell? ⟨b2, q * 8, none⟩ = some (.int .i64 z.ev.id) := (hO2.cell hb2 (by simp)).trans (hc2 0 (by omega))
        have d1 : w2.cell? ⟨b2, q * 8 + 1, none⟩ = some (.string z.ev.type) := (hO2.cell hb2 (by simp)).trans (hc2 1 (by omega))
        have d2 : w2.cell? ⟨b2, q * 8 + 2, none⟩ = some (.string z.ev.data) := (hO2.cell hb2 (by simp)).trans (hc2 2 (by omega))
        have d3 : w2.cell? ⟨b2, q * 8 + 3, none⟩ = some (.float .f64 z.ev.value) := (hO2.cell hb2 (by simp)).trans (hc2 3 (by omega))
        have d4 : w2.cell? ⟨b2, q * 8 + 4, none⟩ = some (.string z.stream) := (hO2.cell hb2 (by simp)).trans (hc2 4 (by omega))
        have d5 : w2.cell? ⟨b2, q * 8 + 5, none⟩ = some (.int .i64 z.version) := (hO2.cell hb2 (by simp)).trans (hc2 5 (by omega))
        have d6 : w2.cell? ⟨b2, q * 8 + 6, none⟩ = some (.int .i64 z.position) := (hO2.cell hb2 (by simp)).trans (hc2 6 (by omega))
        have d7 : w2.cell? ⟨b2, q * 8 + 7, none⟩ = some (.int .i64 z.time) := (hO2.cell hb2 (by simp)).trans (hc2 7 (by omega))
        clear hc2 hcp d0 hk1
        refine wp_region_stail 11 (by kernel_rfl) (by kernel_rfl) ?_
        simp only [List.take_succ_cons, List.take_zero, List.drop_succ_cons, List.drop_zero]
        repeat still_step
        refine wpStill_nil ?_
        go_wp2
        have hS8 := ((((((((hk2.set 0 (.int .i64 z.ev.id)).set 1 (.string z.ev.type)).set 2 (.string z.ev.data)).set 3 (.float .f64 z.ev.value)).set 4 (.string z.stream)).set 5 (.int .i64 z.version)).set 6 (.int .i64 z.position)).set 7 (.int .i64 z.time))
        have hO8 : Only [] w (((((((((w2.setCell ⟨w.heap.size, 0, none⟩ (.int .i64 z.ev.id)).setCell ⟨w.heap.size, 1, none⟩ (.string z.ev.type)).setCell ⟨w.heap.size, 2, none⟩ (.string z.ev.data)).setCell ⟨w.heap.size, 3, none⟩ (.float .f64 z.ev.value)).setCell ⟨w.heap.size, 4, none⟩ (.string z.stream)).setCell ⟨w.heap.size, 5, none⟩ (.int .i64 z.version)).setCell ⟨w.heap.size, 6, none⟩ (.int .i64 z.position)).setCell ⟨w.heap.size, 7, none⟩ (.int .i64 z.time))) := by
          iterate 8 (refine Only.setCell ?_ (.inr (Nat.le_refl _)) _)
          exact hO2
        obtain ⟨W3, hW3⟩ : ∃ W3, (((((((((w2.setCell ⟨w.heap.size, 0, none⟩ (.int .i64 z.ev.id)).setCell ⟨w.heap.size, 1, none⟩ (.string z.ev.type)).setCell ⟨w.heap.size, 2, none⟩ (.string z.ev.data)).setCell ⟨w.heap.size, 3, none⟩ (.float .f64 z.ev.value)).setCell ⟨w.heap.size, 4, none⟩ (.string z.stream)).setCell ⟨w.heap.size, 5, none⟩ (.int .i64 z.version)).setCell ⟨w.heap.size, 6, none⟩ (.int .i64 z.position)).setCell ⟨w.heap.size, 7, none⟩ (.int .i64 z.time))) = W3 := ⟨_, rfl⟩
        rw [hW3] at hS8 hO8 ⊢
        have hc8 : ∀ i, W3.drew.cell? ⟨w.heap.size, i, none⟩ = _ := hS8.cell
        refine bodyPost_ret (v := .tuple #[.agg #[.int .i64 z.ev.id, .string z.ev.type, .string z.ev.data, .float .f64 z.ev.value, .string z.stream, .int .i64 z.version, .int .i64 z.position, .int .i64 z.time], .bool true]) (by simp [results, Tryz.results20, go_sem, hc8]) rfl ⟨by rw [hR.out]; rfl, hO8.drew⟩
end
end Go.Proofs.YtikboecmcbcghaaGreat
/- Lists of stored events in memory that are searched, set and cleared. No program is named. -/
set_option linter.unusedVariables false
set_option linter.unusedSimpArgs false
namespace Go.Proofs.YtikboecmcbcghaaGreat
open Go.RowKit
def idxP (p : StoredR → Bool) : List StoredR → Int → Int
  | [], _ => -1
  | x :: l, k => if p x then k else idxP p l (k + 1)
theorem idxP_drop (p : StoredR → Bool) (l : List StoredR) (k : Nat) (h : k < l.length) (i : Int) : idxP p (l.drop k) i = if p l[k] then i else idxP p (l.drop (k + 1)) (i + 1) := by
  rw [List.drop_eq_getElem_cons h]
  rfl
theorem idxP_spec (p : StoredR → Bool) : ∀ (l : List StoredR) (i : Int), (idxP p l i = -1 ∧ l.filter (fun x => !p x) = l) ∨
    ∃ k : Nat, ∃ hk : k < l.length, idxP p l i = i + k ∧ p l[k] = true ∧ (l.take (k + 1)).filter (fun x => !p x) = l.take k
  | [], i => .inl ⟨rfl, rfl⟩
  | x :: l, i => by
    cases h : p x with
    | true => exact .inr ⟨0, by simp, by simp [idxP, h], by simpa using h, by simp [h]⟩
    | false =>
      rcases idxP_spec p l (i + 1) with ⟨e, ha⟩ | ⟨k, hk, e, ht, ha⟩
      · exact .inl ⟨by simp [idxP, h, e], by rw [List.filter_cons, if_pos (by simp [h]), ha]⟩
      · refine .inr ⟨k + 1, by simpa using hk, ?_, by simpa using ht, ?_⟩
        · simp only [idxP, h, Bool.false_eq_true, if_false, e]
          omega
        · rw [List.take_succ_cons, List.filter_cons, if_pos (by simp [h]), ha, List.take_succ_cons]
theorem set_skip {α : Type} (A L : List α) (hA : A.length = 8) (i r : Nat) (v : α) : (A ++ L).set ((i + 1) * 8 + r) v = A ++ L.set (i * 8 + r) v := by
  rw [List.set_append_right _ _ (by omega)]
  congr 2
  omega
theorem flat_set (z : StoredR) (rest : List Value) : ∀ (ys : List StoredR) (i : Nat), i < ys.length →
    ((((((((ys.flatMap StoredR.cells ++ rest).set (i * 8 + 0) (.int .i64 z.ev.id)).set (i * 8 + 1) (.string z.ev.type)).set (i * 8 + 2) (.string z.ev.data)).set (i * 8 + 3) (.float .f64 z.ev.value)).set (i * 8 + 4) (.string z.stream)).set (i * 8 + 5) (.int .i64 z.version)).set (i * 8 + 6) (.int .i64 z.position)).set (i * 8 + 7) (.int .i64 z.time) =
      (ys.set i z).flatMap StoredR.cells ++ rest
  | [], _, h => absurd h (Nat.not_lt_zero _)
  | y :: ys, 0, _ => by simp [StoredR.cells, EventR.cells]
  | y :: ys, i + 1, h => by
    have hl : y.cells.length = 8 := rfl
    rw [List.flatMap_cons, List.append_assoc]
    rw [set_skip _ _ hl, set_skip _ _ hl, set_skip _ _ hl, set_skip _ _ hl, set_skip _ _ hl, set_skip _ _ hl, set_skip _ _ hl, set_skip _ _ hl]
    rw [flat_set z rest ys i (by simpa using h), List.set_cons_succ, List.flatMap_cons, List.append_assoc]
theorem flat_take : ∀ (ys : List StoredR) (i : Nat), (ys.flatMap StoredR.cells).take (i * 8) = (ys.take i).flatMap StoredR.cells
  | [], i => by simp
  | y :: ys, 0 => by simp
  | y :: ys, i + 1 => by
    have hl : y.cells.length = 8 := rfl
    rw [List.flatMap_cons, List.take_succ_cons, List.flatMap_cons, List.take_append, hl, List.take_of_length_le (by omega), show (i + 1) * 8 - 8 = i * 8 by omega, flat_take ys i]
section
variable {w : World} {g : Nat} {t : TypeId} {cs : Array Value}
theorem Blk.sets : ∀ (zs : List Value) (o : Nat) {w : World} {cs : Array Value} (h : Blk w g t cs), ∃ cs', Blk (w.setCells g o zs) g t cs' ∧ cs'.size = cs.size ∧ ∀ j, j < o → cs'[j]? = cs[j]?
  | [], _, _, cs, h => ⟨cs, h, rfl, fun _ _ => rfl⟩
  | z :: zs, o, _, cs, h => by
    obtain ⟨cs', h1, h2, h3⟩ := Blk.sets zs (o + 1) (h.set o z)
    refine ⟨cs', h1, by rw [h2]; simp, fun j hj => ?_⟩
    rw [h3 j (by omega), Array.getElem?_setIfInBounds, if_neg (by omega)]
theorem Only.setCells {S : List Nat} {a : World} {g : Nat} (hg : g ∈ S ∨ a.heap.size ≤ g) : ∀ (zs : List Value) (o : Nat) {w : World}, Only S a w → Only S a (w.setCells g o zs)
  | [], _, _, h => h
  | z :: zs, o, _, h => Only.setCells hg zs (o + 1) (h.setCell hg z)
/-- Eight cells set: an element. -/
theorem blk_set8 (h : Blk w g t cs) {ys : List StoredR} {rest : List Value} (hc : cs.toList = ys.flatMap StoredR.cells ++ rest) {i : Nat} (hi : i < ys.length) (z : StoredR) :
    ∃ cs', Blk ((((((((w.setCell ⟨g, i * 8, none⟩ (.int .i64 z.ev.id)).setCell ⟨g, i * 8 + 1, none⟩ (.string z.ev.type)).setCell ⟨g, i * 8 + 2, none⟩ (.string z.ev.data)).setCell ⟨g, i * 8 + 3, none⟩ (.float .f64 z.ev.value)).setCell ⟨g, i * 8 + 4, none⟩ (.string z.stream)).setCell ⟨g, i * 8 + 5, none⟩ (.int .i64 z.version)).setCell ⟨g, i * 8 + 6, none⟩ (.int .i64 z.position)).setCell ⟨g, i * 8 + 7, none⟩ (.int .i64 z.time)) g t cs' ∧
      cs'.toList = (ys.set i z).flatMap StoredR.cells ++ rest := by
  refine ⟨_, (((((((h.set _ _).set _ _).set _ _).set _ _).set _ _).set _ _).set _ _).set _ _, ?_⟩
  simp only [Array.toList_setIfInBounds, hc]
  exact flat_set z rest ys i hi
theorem blk_elem (h : Blk w g t cs) {ys : List StoredR} {rest : List Value} (hc : cs.toList = ys.flatMap StoredR.cells ++ rest) {i : Nat} (hi : i < ys.length) {r : Nat} (hr : r < 8) : w.cell? ⟨g, i * 8 + r, none⟩ = (ys[i].cells)[r]? := by
  have hl := flat_len StoredR.cells 8 ys (fun _ _ => rfl)
  have hlt : i * 8 + r < (ys.flatMap StoredR.cells).length := by omega
  rw [h.cell, ← Array.getElem?_toList, hc, List.getElem?_append_left hlt]
  exact flat_get StoredR.cells 8 ys (fun _ _ => rfl) i r hi hr
end
/-- 'clear' of a slice of n > 0 elements of whatever type. -/
theorem run_clearK {P : Program} (w : World) (t e ty : TypeId) (z : Value) (ht : P.underlying t = some (.slice e)) (hv : ∀ w, (zeroValue e).run P w = .ok z w) (h1 : ∀ v ∈ z.cells.toList, v.oneCell' = true) (k : Nat) (hk : z.cells.size = k) (b o n c : Nat) (hn : 0 < n)
    (hc : ∀ j, j < n * k → (w.cell? ⟨b, o + j, none⟩).isSome = true) (hf : ∀ j, j < n * k → w.frozen? ⟨b, o + j, none⟩ = false) :
    (Builtin.clear_ #[t] ty #[.slice (some ⟨b, o, none⟩) n c]).run P w = .ok (.tuple #[]) (w.setCells b o (Builtin.zeroCells z.cells n).toList) := by
  have hl : (Builtin.zeroCells z.cells n).toList.length = n * k := by simp [Builtin.zeroCells, hk]
  have hst := run_storeCells_cells (P := P) b o (Builtin.zeroCells z.cells n).toList 0 w (by rw [hl]; simpa using hc) (by rw [hl]; simpa using hf) (by
    intro v hv'
    simp only [Builtin.zeroCells, Array.toList_map, List.mem_map] at hv'
    obtain ⟨i, hi, rfl⟩ := hv'
    rcases Nat.eq_zero_or_pos z.cells.size with q | q
    · simp [q] at hi
    · have hm := Nat.mod_lt i q
      rw [getElem!_pos z.cells (i % z.cells.size) hm]
      exact h1 _ (by simp))
  simp only [Nat.add_zero] at hst
  obtain ⟨m, rfl⟩ : ∃ m, n = m + 1 := ⟨n - 1, by omega⟩
  simp [Builtin.clear_, run_underlying ht, hv, hst]
/-! ## an own row as a block -/
theorem own_blk {w : World} {base : Nat} {v : Value} {xs : List StoredR} {e : TypeId} (h : w.ownsRow base e 8 v xs.length (xs.flatMap StoredR.cells)) : (v = .slice none 0 0 ∧ xs = []) ∨
    ∃ g cap cs rest, v = .slice (some ⟨g, 0, none⟩) xs.length cap ∧ base ≤ g ∧ Blk w g e cs ∧ xs.length ≤ cap ∧ cap ≤ maxLen ∧ cs.size = cap * 8 ∧ cs.toList = xs.flatMap StoredR.cells ++ rest := by
  obtain ⟨h1, h2⟩ := h
  rcases h2 with ⟨rfl, q⟩ | ⟨g, cap, cur, rfl, hb, hg, hn, hc, hs, ht⟩
  · exact .inl ⟨rfl, List.length_eq_zero_iff.1 q⟩
  · refine .inr ⟨g, cap, cur, cur.toList.drop (xs.length * 8), rfl, hb, hg, hn, hc, hs, ?_⟩
    rw [← ht]
    exact (List.take_append_drop _ _).symm
theorem blk_own {w : World} {base : Nat} {xs : List StoredR} {e : TypeId} {g cap : Nat} {cs : Array Value} (hb : base ≤ g) (hg : Blk w g e cs) (hn : xs.length ≤ cap) (hm : cap ≤ maxLen) (hs : cs.size = cap * 8) (ht : cs.toList.take (xs.length * 8) = xs.flatMap StoredR.cells) :
    w.ownsRow base e 8 (.slice (some ⟨g, 0, none⟩) xs.length cap) xs.length (xs.flatMap StoredR.cells) :=
  ⟨flat_len StoredR.cells 8 xs (fun _ _ => rfl), .inr ⟨g, cap, cs, rfl, hb, hg, hn, hm, hs, ht⟩⟩
/-- What stands at the head of a round: of ys the first i are the kept ones of the first j of xs, from j on it is xs. -/
structure KeptAt (p : StoredR → Bool) (xs ys : List StoredR) (i j : Nat) : Prop where
  len : ys.length = xs.length
  lt : i < j
  le : j ≤ xs.length
  done : ys.take i = (xs.take j).filter (fun x => !p x)
  rest : ys.drop j = xs.drop j
theorem KeptAt.get {p : StoredR → Bool} {xs ys : List StoredR} {i j : Nat} (h : KeptAt p xs ys i j) (hj : j < xs.length) : ∃ h2 : j < ys.length, ys[j] = xs[j] := by
  have h2 : j < ys.length := by rw [h.len]; exact hj
  refine ⟨h2, ?_⟩
  have := h.rest
  rw [List.drop_eq_getElem_cons hj, List.drop_eq_getElem_cons h2] at this
  exact (List.cons.inj this).1
theorem KeptAt.skip {p : StoredR → Bool} {xs ys : List StoredR} {i j : Nat} (h : KeptAt p xs ys i j) (hj : j < xs.length) (hp : p xs[j] = true) : KeptAt p xs ys i (j + 1) := by
  refine ⟨h.len, by have := h.lt; omega, hj, ?_, ?_⟩
  · rw [h.done, List.take_succ_eq_append_getElem hj, List.filter_append]
    simp [hp]
  · rw [← List.drop_drop, ← List.drop_drop, h.rest]
theorem KeptAt.keep {p : StoredR → Bool} {xs ys : List StoredR} {i j : Nat} (h : KeptAt p xs ys i j) (hj : j < xs.length) (hp : p xs[j] = false) : KeptAt p xs (ys.set i xs[j]) (i + 1) (j + 1) := by
  have hlt := h.lt
  have hlen := h.len
  refine ⟨by simpa using h.len, by omega, hj, ?_, ?_⟩
  · rw [List.take_succ_eq_append_getElem hj, List.filter_append, ← h.done, List.take_succ_eq_append_getElem (by simp; omega)]
    rw [List.take_set_of_le (Nat.le_refl _)]
    simp [hp]
  · rw [List.drop_set_of_lt (by omega), ← List.drop_drop, ← List.drop_drop, h.rest]
theorem KeptAt.start {p : StoredR → Bool} {xs : List StoredR} {k : Nat} (hk : k < xs.length) (h : (xs.take (k + 1)).filter (fun x => !p x) = xs.take k) : KeptAt p xs xs k (k + 1) := ⟨rfl, by omega, hk, h.symm, rfl⟩
end Go.Proofs.YtikboecmcbcghaaGreat
/- Contracts: IndexFunc and DeleteFunc of stored events, by a closure that looks at a state. -/
set_option linter.unusedVariables false
set_option linter.unusedSimpArgs false
namespace Go.Proofs.YtikboecmcbcghaaGreat
open Go.RowKit
/-- What is asked of the predicate: in every world in which only these blocks turned. -/
def Judges (S : List Nat) (w : World) (cv : Value) (p : StoredR → Bool) : Prop := ∀ W, Only S w W → ∀ x : StoredR,
  Calls Tryz.prog 69 #[.agg #[.int .i64 x.ev.id, .string x.ev.type, .string x.ev.data, .float .f64 x.ev.value, .string x.stream, .int .i64 x.version, .int .i64 x.position, .int .i64 x.time], cv] W fun e W' => e = .returned (.bool (p x)) ∧ Only [] W W'
set_option maxRecDepth 100000 in
set_option maxHeartbeats 1000000 in
theorem indexSt_any {w : World} {v : Value} {l : List StoredR} {p : StoredR → Bool} {cv : Value} (hl : Slc w 8 v l.length (l.flatMap StoredR.cells)) (hb : l.length ≤ 1000000) (HP : Judges [] w cv p) :
    Calls Tryz.prog 130 #[v, .func (.func 69) #[] #[cv]] w fun e w' => e = .returned (.int .i64 (idxP p l 0)) ∧ Only [] w w' := by
  obtain ⟨A, cap, rfl, hnc, hcm, hel⟩ := hl.openE StoredR.cells (fun _ => rfl)
  unfold maxLen at hcm
  obtain ⟨R, hR⟩ : ∃ R, R = idxP p l 0 := ⟨_, rfl⟩
  rw [← hR]
  have HR := Lib.hid hR
  have HJ := Lib.hid HP
  clear hR HP
  go_enter Tryz.func130, Tryz.ntmps130
  go_wp2
  go_loopw [5, 8] (fun _ i wr => ∃ k : Nat, k ≤ l.length ∧ i = .int .i64 k ∧ Hid (R = idxP p (l.drop k) k) ∧ Only [] w wr) (fun _ i _ => l.length - (intOf i).toNat)
  case atStart => exact ⟨0, Nat.zero_le _, rfl, HR, Only.refl _ _⟩
  case round =>
    obtain ⟨k, hk, rfl, hT, hO⟩ := hrel
    by_cases hlt : k < l.length
    · obtain ⟨b, off, rfl, hbb, hcc⟩ := hel k hlt
      have hd := idxP_drop p l k hlt k
      obtain ⟨s, hs⟩ : ∃ s, s = l[k] := ⟨_, rfl⟩
      rw [← hs] at hcc hd
      have c0 : wr.cell? ⟨b, off + k * 8, none⟩ = some (.int .i64 s.ev.id) := (hO.cell hbb (by simp)).trans (hcc 0 (by omega))
      have c1 : wr.cell? ⟨b, off + k * 8 + 1, none⟩ = some (.string s.ev.type) := (hO.cell hbb (by simp)).trans (hcc 1 (by omega))
      have c2 : wr.cell? ⟨b, off + k * 8 + 2, none⟩ = some (.string s.ev.data) := (hO.cell hbb (by simp)).trans (hcc 2 (by omega))
      have c3 : wr.cell? ⟨b, off + k * 8 + 3, none⟩ = some (.float .f64 s.ev.value) := (hO.cell hbb (by simp)).trans (hcc 3 (by omega))
      have c4 : wr.cell? ⟨b, off + k * 8 + 4, none⟩ = some (.string s.stream) := (hO.cell hbb (by simp)).trans (hcc 4 (by omega))
      have c5 : wr.cell? ⟨b, off + k * 8 + 5, none⟩ = some (.int .i64 s.version) := (hO.cell hbb (by simp)).trans (hcc 5 (by omega))
      have c6 : wr.cell? ⟨b, off + k * 8 + 6, none⟩ = some (.int .i64 s.position) := (hO.cell hbb (by simp)).trans (hcc 6 (by omega))
      have c7 : wr.cell? ⟨b, off + k * 8 + 7, none⟩ = some (.int .i64 s.time) := (hO.cell hbb (by simp)).trans (hcc 7 (by omega))
      have hcall := HJ.out wr hO s
      have hsf := stF
      clear hcc hs hel
      cases hq : p s with
      | true =>
        rw [hq] at hcall hd
        have HN : Hid (R = k) := by unfold Hid; rw [hT.out, hd]; rfl
        have HC := Lib.hid hcall
        clear hcall hd hq hT
        go_wp2_with (go_at_call 69; refine HC.out.mono ?_; rintro e w1 ⟨rfl, ho1⟩)
        go_ret
        exact ⟨by rw [HN.out]; rfl, hO.trans ho1⟩
      | false =>
        rw [hq] at hcall hd
        have HN : Hid (R = idxP p (l.drop (k + 1)) ((k + 1 : Nat) : Int)) := by
          unfold Hid
          rw [hT.out, hd]
          simp
        have HC := Lib.hid hcall
        clear hcall hd hq hT
        go_wp2_with (go_at_call 69; refine HC.out.mono ?_; rintro e w1 ⟨rfl, ho1⟩)
        exact ⟨⟨k + 1, hlt, by simp, HN, hO.trans ho1⟩, by simp [intOf]; omega⟩
    · have HN : Hid (R = -1) := by unfold Hid; rw [hT.out, List.drop_of_length_le (by omega)]; rfl
      clear hel
      go_wp2
      go_ret
      exact ⟨by rw [HN.out]; rfl, hO⟩
theorem zeroStV (w : World) : (zeroValue 66).run Tryz.prog w = .ok (.agg #[.int .i64 0, .string ⟨#[]⟩, .string ⟨#[]⟩, .float .f64 0, .string ⟨#[]⟩, .int .i64 0, .int .i64 0, .int .i64 0]) w := by kernel_rfl
theorem zeroSt : (∀ v ∈ (Value.agg #[.int .i64 0, .string ⟨#[]⟩, .string ⟨#[]⟩, .float .f64 0, .string ⟨#[]⟩, .int .i64 0, .int .i64 0, .int .i64 0]).cells.toList, v.oneCell' = true) ∧ (Value.agg #[.int .i64 0, .string ⟨#[]⟩, .string ⟨#[]⟩, .float .f64 0, .string ⟨#[]⟩, .int .i64 0, .int .i64 0, .int .i64 0]).cells.size = 8 := by
  constructor
  · simp [Value.cells, Value.oneCell']
  · rfl
set_option maxRecDepth 100000 in
set_option maxHeartbeats 2000000 in
theorem deleteSt_any {w : World} {base : Nat} {v : Value} {l : List StoredR} {p : StoredR → Bool} {cv : Value} (hl : w.ownsRow base 66 8 v l.length (l.flatMap StoredR.cells)) (hb : l.length ≤ 1000000) (HP : Judges v.ownBlock.toList w cv p) :
    Calls Tryz.prog 68 #[v, .func (.func 69) #[] #[cv]] w fun e w' => ∃ v', e = .returned v' ∧ w'.ownsRow base 66 8 v' (l.filter (fun x => !p x)).length ((l.filter (fun x => !p x)).flatMap StoredR.cells) ∧ Only v.ownBlock.toList w w' := by
  have hix := indexSt_any (Slc.of_own hl).1 hb (p := p) (cv := cv) (fun W hW => HP W hW.of_nil)
  obtain ⟨j0, hj, hy0, hy1, hy2⟩ := info_parts infoSt
  have hsp := idxP_spec p l 0
  rcases hsp with ⟨e1, e2⟩ | ⟨k0, hk0, e1, ht, e2⟩
  · rw [e1] at hix
    rw [e2]
    obtain ⟨A, cap, rfl, _, _⟩ := own_form hl
    have HI := Lib.hid hix
    clear hix e1 e2
    go_enter Tryz.func68, Tryz.ntmps68
    go_wp2_with (go_at_call 130; refine HI.out.mono ?_; rintro e w1 ⟨rfl, ho1⟩)
    go_ret
    exact ⟨_, rfl, own_only hl ho1 (by simp), ho1.of_nil⟩
  · rw [e1, Int.zero_add] at hix
    rcases own_blk hl with ⟨rfl, rfl⟩ | ⟨g, cap, cs0, rest, rfl, hbg, hB0, hnc, hcm, hsz, hcs0⟩
    · exact absurd hk0 (Nat.not_lt_zero _)
    have hne : ((k0 : Int) == -1) = false := beq_eq_false_iff_ne.2 (by omega)
    have HI := Lib.hid hix
    have HJ := Lib.hid HP
    have hK0 := KeptAt.start (p := p) hk0 e2
    unfold maxLen at hcm
    obtain ⟨f, hf⟩ : ∃ f, f = l.filter (fun x => !p x) := ⟨_, rfl⟩
    rw [← hf]
    have HF := Lib.hid hf
    clear hix HP e1 e2 ht hf
    go_enter Tryz.func68, Tryz.ntmps68
    go_wp2_with (go_at_call 130; refine HI.out.mono ?_; rintro e w1 ⟨rfl, ho1⟩)
    go_loopw [5, 6, 7] (fun s5 s6 _ wr => ∃ (i j : Nat) (ys : List StoredR) (cs : Array Value), s5 = .int .i64 i ∧ s6 = .int .i64 j ∧ KeptAt p l ys i j ∧ Blk wr g 66 cs ∧ cs.toList = ys.flatMap StoredR.cells ++ rest ∧ Only [g] w wr) (fun _ j _ _ => l.length - (intOf j).toNat)
    case atStart => exact ⟨k0, k0 + 1, l, cs0, rfl, by simp, hK0, ho1.blk hB0 (by simp), hcs0, ho1.of_nil⟩
    case round =>
      obtain ⟨i, j, ys, cs, rfl, rfl, hK, hB, hcs, hO⟩ := hrel
      have hij := hK.lt
      have hjl := hK.le
      have hyl := hK.len
      have hcl : ∀ q, (cs.toList).length = q → q = cap * 8 := by
        intro q hq
        have h1 := flat_len StoredR.cells 8 ys (fun _ _ => rfl)
        have h2 := flat_len StoredR.cells 8 l (fun _ _ => rfl)
        have h3 : cs0.toList.length = cap * 8 := by simpa using hsz
        rw [hcs0] at h3
        rw [hcs] at hq
        simp only [List.length_append] at h3 hq
        omega
      have hcsz : cs.size = cap * 8 := hcl _ (by simp)
      by_cases hlt : j < l.length
      · obtain ⟨hjy, hyj⟩ := hK.get hlt
        have hskip := hK.skip hlt
        have hkeep := hK.keep hlt
        obtain ⟨s, hs⟩ : ∃ s, s = l[j] := ⟨_, rfl⟩
        rw [← hs] at hyj hskip hkeep
        have c0 : wr.cell? ⟨g, j * 8, none⟩ = some (.int .i64 s.ev.id) := (blk_elem hB hcs hjy (r := 0) (by omega)).trans (by rw [hyj]; rfl)
        have c1 : wr.cell? ⟨g, j * 8 + 1, none⟩ = some (.string s.ev.type) := (blk_elem hB hcs hjy (by omega)).trans (by rw [hyj]; rfl)
        have c2 : wr.cell? ⟨g, j * 8 + 2, none⟩ = some (.string s.ev.data) := (blk_elem hB hcs hjy (by omega)).trans (by rw [hyj]; rfl)
        have c3 : wr.cell? ⟨g, j * 8 + 3, none⟩ = some (.float .f64 s.ev.value) := (blk_elem hB hcs hjy (by omega)).trans (by rw [hyj]; rfl)
        have c4 : wr.cell? ⟨g, j * 8 + 4, none⟩ = some (.string s.stream) := (blk_elem hB hcs hjy (by omega)).trans (by rw [hyj]; rfl)
        have c5 : wr.cell? ⟨g, j * 8 + 5, none⟩ = some (.int .i64 s.version) := (blk_elem hB hcs hjy (by omega)).trans (by rw [hyj]; rfl)
        have c6 : wr.cell? ⟨g, j * 8 + 6, none⟩ = some (.int .i64 s.position) := (blk_elem hB hcs hjy (by omega)).trans (by rw [hyj]; rfl)
        have c7 : wr.cell? ⟨g, j * 8 + 7, none⟩ = some (.int .i64 s.time) := (blk_elem hB hcs hjy (by omega)).trans (by rw [hyj]; rfl)
        have hcall := fun (W : World) (hW : Only [g] w W) => HJ.out W (hW.mono (by simp [Value.ownBlock])) s
        have hsf := stF
        clear hs hyj
        cases hq : p s with
        | true =>
          rw [hq] at hcall
          have HC := Lib.hid hcall
          have HK := Lib.hid (hskip hq)
          clear hcall hskip hkeep hK hq
          go_wp2_with (go_at_call 69; refine (HC.out _ (hO.alloc _)).mono ?_; rintro e w2 ⟨rfl, ho2⟩)
          have hB2 := ho2.blk (((Only.refl [] _).alloc _).blk hB (by simp)) (by simp)
          exact ⟨⟨i, j + 1, ys, cs, rfl, by simp, HK.out, hB2, hcs, (hO.alloc _).trans ho2.of_nil⟩, by simp [intOf]; omega⟩
        | false =>
          rw [hq] at hcall
          have HC := Lib.hid hcall
          have HK := Lib.hid (hkeep hq)
          clear hcall hskip hkeep hK hq
          have hiy : i < ys.length := by omega
          have hset := fun (W : World) (hW : Blk W g 66 cs) => blk_set8 hW hcs hiy s
          have HSet := Lib.hid hset
          obtain ⟨o, ho⟩ : ∃ o, o = ys[i] := ⟨_, rfl⟩
          have HO := Lib.hid ho
          clear hset ho
          go_wp2_with (go_at_call 69; refine (HC.out _ (hO.alloc _)).mono ?_; rintro e w2 ⟨rfl, ho2⟩
                       have hB2 := ho2.blk (((Only.refl [] _).alloc _).blk hB (by simp)) (by simp)
                       have hX2 := ho2.blk (Blk.new wr 66 _) (by simp)
                       have e0 : w2.cell? ⟨g, i * 8, none⟩ = some (.int .i64 o.ev.id) := (blk_elem hB2 hcs hiy (r := 0) (by omega)).trans (by rw [← HO.out]; rfl)
                       have e1 : w2.cell? ⟨g, i * 8 + 1, none⟩ = some (.string o.ev.type) := (blk_elem hB2 hcs hiy (by omega)).trans (by rw [← HO.out]; rfl)
                       have e2 : w2.cell? ⟨g, i * 8 + 2, none⟩ = some (.string o.ev.data) := (blk_elem hB2 hcs hiy (by omega)).trans (by rw [← HO.out]; rfl)
                       have e3 : w2.cell? ⟨g, i * 8 + 3, none⟩ = some (.float .f64 o.ev.value) := (blk_elem hB2 hcs hiy (by omega)).trans (by rw [← HO.out]; rfl)
                       have e4 : w2.cell? ⟨g, i * 8 + 4, none⟩ = some (.string o.stream) := (blk_elem hB2 hcs hiy (by omega)).trans (by rw [← HO.out]; rfl)
                       have e5 : w2.cell? ⟨g, i * 8 + 5, none⟩ = some (.int .i64 o.version) := (blk_elem hB2 hcs hiy (by omega)).trans (by rw [← HO.out]; rfl)
                       have e6 : w2.cell? ⟨g, i * 8 + 6, none⟩ = some (.int .i64 o.position) := (blk_elem hB2 hcs hiy (by omega)).trans (by rw [← HO.out]; rfl)
                       have e7 : w2.cell? ⟨g, i * 8 + 7, none⟩ = some (.int .i64 o.time) := (blk_elem hB2 hcs hiy (by omega)).trans (by rw [← HO.out]; rfl)
                       have d2 := fun i => hB2.free i
                       have d3 := fun i => hX2.cell i)
          obtain ⟨cs2, hb2, hc2⟩ := HSet.out w2 hB2
          refine ⟨⟨i + 1, j + 1, ys.set i s, cs2, by simp, by simp, HK.out, hb2, hc2, ?hw⟩, by simp [intOf]; omega⟩
          case hw =>
            iterate 8 (refine Only.setCell ?_ (.inl (by simp)) _)
            exact (hO.alloc _).trans ho2.of_nil
      · have hje : j = l.length := by omega
        have hfin : (l.filter (fun x => !p x)) = ys.take i := by
          rw [hK.done, hje, List.take_length]
        have hfl : (ys.take i).length = i := by simp; omega
        have hclr : ∀ ty, (Builtin.clear_ #[28] ty #[.slice (some ⟨g, i * 8, none⟩) (l.length - i) (cap - i)]).run Tryz.prog wr = .ok (.tuple #[]) (wr.setCells g (i * 8) (Builtin.zeroCells (Value.agg #[.int .i64 0, .string ⟨#[]⟩, .string ⟨#[]⟩, .float .f64 0, .string ⟨#[]⟩, .int .i64 0, .int .i64 0, .int .i64 0]).cells (l.length - i)).toList) := fun ty =>
          run_clearK wr 28 66 ty _ Tryz.underlying28 zeroStV zeroSt.1 8 zeroSt.2 g (i * 8) _ _ (by omega) (fun q hq => by
            rw [hB.cell, Array.getElem?_eq_getElem (by omega)]
            rfl) (fun q hq => hB.free _)
        obtain ⟨cs2, hb2, hs2, hg2⟩ := hB.sets (Builtin.zeroCells (Value.agg #[.int .i64 0, .string ⟨#[]⟩, .string ⟨#[]⟩, .float .f64 0, .string ⟨#[]⟩, .int .i64 0, .int .i64 0, .int .i64 0]).cells (l.length - i)).toList (i * 8)
        have hfrm := HF.out
        rw [hfin] at hfrm
        have htk : cs2.toList.take ((ys.take i).length * 8) = (ys.take i).flatMap StoredR.cells := by
          rw [hfl, ← flat_take]
          apply List.ext_getElem?
          intro q
          by_cases hq : q < i * 8
          · have h1 := flat_len StoredR.cells 8 ys (fun _ _ => rfl)
            rw [List.getElem?_take_of_lt hq, List.getElem?_take_of_lt hq, Array.getElem?_toList, hg2 q hq, ← Array.getElem?_toList, hcs, List.getElem?_append_left (by omega)]
          · rw [List.getElem?_eq_none (by simp; omega), List.getElem?_eq_none (by simp; omega)]
        have hown : (wr.setCells g (i * 8) (Builtin.zeroCells (Value.agg #[.int .i64 0, .string ⟨#[]⟩, .string ⟨#[]⟩, .float .f64 0, .string ⟨#[]⟩, .int .i64 0, .int .i64 0, .int .i64 0]).cells (l.length - i)).toList).ownsRow base 66 8 (.slice (some ⟨g, 0, none⟩) i cap) f.length (f.flatMap StoredR.cells) := by
          have := blk_own (xs := ys.take i) (cap := cap) hbg hb2 (by omega) (by unfold maxLen; omega) (by omega) htk
          rw [hfl] at this
          rw [hfrm, hfl]
          exact this
        have hend : Only [g] w (wr.setCells g (i * 8) (Builtin.zeroCells (Value.agg #[.int .i64 0, .string ⟨#[]⟩, .string ⟨#[]⟩, .float .f64 0, .string ⟨#[]⟩, .int .i64 0, .int .i64 0, .int .i64 0]).cells (l.length - i)).toList) := hO.setCells (.inl (by simp)) _ _
        obtain ⟨WE, hWE⟩ : ∃ WE, WE = wr.setCells g (i * 8) (Builtin.zeroCells (Value.agg #[.int .i64 0, .string ⟨#[]⟩, .string ⟨#[]⟩, .float .f64 0, .string ⟨#[]⟩, .int .i64 0, .int .i64 0, .int .i64 0]).cells (l.length - i)).toList := ⟨_, rfl⟩
        rw [← hWE] at hclr hown hend
        clear hWE hfrm htk hg2 hs2 hb2 hfin hB hcs hK HF
        go_wp2
        go_ret
        exact ⟨_, rfl, hown, hend⟩
end Go.Proofs.YtikboecmcbcghaaGreat
/- Contracts: Forward, All forward. -/
set_option linter.unusedVariables false
set_option linter.unusedSimpArgs false
namespace Go.Proofs.YtikboecmcbcghaaGreat
open Go.RowKit
theorem fwdGo_few (key : StoredR → Int) (f n : Int) : ∀ (l acc : List StoredR) (nx : Int), (fwdGo key f n l acc nx).events.length ≤ acc.length + l.length
  | [], acc, nx => by simp [fwdGo]
  | s :: l, acc, nx => by
    unfold fwdGo
    split
    · have := fwdGo_few key f n l acc nx
      simp
      omega
    · split
      · simp
      · have := fwdGo_few key f n l (acc ++ [s]) (key s + 1)
        simp at this ⊢
        omega
theorem forwardBy_few (key : StoredR → Int) (l : List StoredR) (f n : Int) : (forwardBy key l f n).1.events.length ≤ l.length := by
  unfold forwardBy
  split
  · simp [PageR.zero]
  · have := fwdGo_few key f n l [] f
    simpa using this
set_option maxRecDepth 100000 in
set_option maxHeartbeats 1000000 in
theorem forward_any {w : World} {v : Value} {l : List StoredR} {f n : Int} (hl : Slc w 8 v l.length (l.flatMap StoredR.cells)) (hb : l.length ≤ 1000000) (hk : ∀ s ∈ l, 0 ≤ s.position ∧ s.position ≤ 1000000000) :
    Calls Tryz.prog 71 #[v, .int .i64 f, .int .i64 n] w (PageRet w (forwardBy StoredR.position l f n)) := by
  have HFw := Lib.hid (fun (W : World) (hW : Only [] w W) => forwardP_any (f := f) (n := n) (hl.only0 hW) hb hk)
  obtain ⟨r, hr⟩ : ∃ r, r = forwardBy StoredR.position l f n := ⟨_, rfl⟩
  rw [← hr] at HFw ⊢
  obtain ⟨⟨revs, rnx, rend⟩, rerr⟩ := r
  clear hr hl hk
  go_enter Tryz.func71, Tryz.ntmps71
  go_wp2_with (go_at_call 65; refine (HFw.out _ ((Only.refl _ _).alloc _)).mono ?_; rintro e w3 ⟨v3, rfl, hown3, ho3⟩; obtain ⟨A3, cap3, rfl, _, _⟩ := own_form hown3
               have hp := ho3.blk (Blk.new w 60 _) (by simp)
               have hpc := fun i => hp.cell i
               have hpf := fun i => hp.free i)
  have hsz : w.heap.size < w3.heap.size := by have q1 := ho3.size; simp at q1; omega
  refine bodyPost_ret (v := .tuple #[.agg #[.slice A3 revs.length cap3, .int .i64 rnx, .bool rend], .int .i64 rerr]) (by simp [results, Tryz.results71, go_sem, hpc]) rfl ⟨_, rfl, ?own, ?hw⟩
  case own =>
    refine own_only (own_base hown3 (by simp)) (S := [w.heap.size]) ?_ (fun g hg => by have := (hown3.lt g hg).1; simp at this ⊢; omega)
    iterate 3 (refine Only.setCell ?_ (.inl (by simp)) _)
    exact Only.refl _ _
  case hw =>
    iterate 3 (refine Only.setCell ?_ (.inr (Nat.le_refl _)) _)
    exact ((Only.refl [] w).alloc _).trans ho3
section
variable {a w : World} {R E : List Nat} {sb mb N : Nat} {s : MS}
set_option maxRecDepth 100000 in
theorem all1_any {hb : Nat} (h : HasS a w R E sb mb s N) (hN : N ≤ 100000) (hB : Blk w hb 25 #[.pointer (some ⟨sb, 0, none⟩)]) (x : StoredR) :
    Calls Tryz.prog 69 #[.agg #[.int .i64 x.ev.id, .string x.ev.type, .string x.ev.data, .float .f64 x.ev.value, .string x.stream, .int .i64 x.version, .int .i64 x.position, .int .i64 x.time], .pointer (some ⟨hb, 0, none⟩)] w
      fun e w' => e = .returned (.bool (!s.seenAt x.position)) ∧ Only [] w w' := by
  have HS := Lib.hid (fun (W : World) (hW : Only [] w W) => has_seen (h.keep hW) hN x.position)
  have k0 := fun o => (((Only.refl [] w).alloc o).blk hB (by simp)).cell 0
  clear h hB
  go_enter Tryz.func69, Tryz.ntmps69
  go_wp2_with (go_at_call 59; refine (HS.out _ ((Only.refl _ _).alloc _)).mono ?_; rintro e w1 ⟨rfl, ho1⟩)
  go_ret
  exact ⟨rfl, ((Only.refl [] w).alloc _).trans ho1⟩
set_option maxRecDepth 100000 in
set_option maxHeartbeats 2000000 in
theorem has_all (h : HasS a w R E sb mb s N) (hN : N ≤ 100000) (f n : Int) :
    Calls Tryz.prog 17 #[.pointer (some ⟨sb, 0, none⟩), .int .i64 f, .int .i64 n, .bool false] w (PageRet w (forwardBy StoredR.position s.seenAll f n)) := by
  have hlen : s.all.length ≤ 1000000 := by have := h.ok.all; omega
  have hsl : s.seenAll.length ≤ 1000000 := by
    have : s.seenAll.length ≤ s.all.length := List.length_filter_le _ _
    omega
  have hfil : s.all.filter (fun x => !(!s.seenAt x.position)) = s.seenAll := by
    unfold MS.seenAll
    congr 1
    funext x
    simp
  have hpos : ∀ e ∈ s.seenAll, 0 ≤ e.position ∧ e.position ≤ 1000000000 := fun e he => by
    obtain ⟨i, hi, rfl⟩ := List.mem_iff_getElem.1 (List.mem_filter.1 he).1
    rw [h.inv.pos i hi]
    omega
  obtain ⟨W0, hW0⟩ : ∃ W0, W0 = (w.alloc (.cells #[.pointer (some ⟨sb, 0, none⟩)] 25)).alloc (.cells #[.slice none 0 0, .int .i64 0, .bool false] 60) := ⟨_, rfl⟩
  have hO0 : Only [] w W0 := by rw [hW0]; exact ((Only.refl [] w).alloc _).alloc _
  have hb1 : Blk W0 w.heap.size 25 #[.pointer (some ⟨sb, 0, none⟩)] := by rw [hW0]; exact ((Only.refl [] _).alloc _).blk (Blk.new w _ _) (by simp)
  have hb2 : Blk W0 (w.heap.size + 1) 60 #[.slice none 0 0, .int .i64 0, .bool false] := by
    rw [hW0]
    have := Blk.new (w.alloc (.cells #[.pointer (some ⟨sb, 0, none⟩)] 25)) 60 #[.slice none 0 0, .int .i64 0, .bool false]
    simpa using this
  have hsz0 : W0.heap.size = w.heap.size + 2 := by rw [hW0]; simp
  have hc0 := hb1.cell 0
  have h0 := h.keep hO0
  have HE := Lib.hid (has_every h0 hN)
  have HFo := Lib.hid (fun (W : World) (v : Value) (hl : Slc W 8 v s.seenAll.length (s.seenAll.flatMap StoredR.cells)) => forward_any (f := f) (n := n) hl hsl hpos)
  obtain ⟨r, hr⟩ : ∃ r, r = forwardBy StoredR.position s.seenAll f n := ⟨_, rfl⟩
  rw [← hr] at HFo ⊢
  obtain ⟨⟨revs, rnx, rend⟩, rerr⟩ := r
  clear hr hpos
  have HW := Lib.hid hW0
  clear hW0
  go_enter Tryz.func17, Tryz.ntmps17
  go_wp2_with fail
  rw [← HW.out]
  refine HE.out.mono ?_
  rintro e w1 ⟨v1, rfl, hown1, ho1⟩
  have h1 := h0.ownR ho1 hown1
  have hlt1 := hown1.lt
  obtain ⟨V1, hV1⟩ : ∃ V1, V1 = v1.ownBlock.toList := ⟨_, rfl⟩
  have hge : ∀ g ∈ V1, W0.heap.size ≤ g := fun g hg => (hlt1 g (by rw [hV1] at hg; simpa using hg)).1
  have n1 : w.heap.size ∉ V1 := fun q => by have := hge _ q; omega
  have n2 : w.heap.size + 1 ∉ V1 := fun q => by have := hge _ q; omega
  have hJ : Judges V1 w1 (.pointer (some ⟨w.heap.size, 0, none⟩)) (fun x => !s.seenAt x.position) := fun W hW x =>
    all1_any (h1.turn hW (fun g hg => by rw [hV1] at hg; simp at hg ⊢; exact .inl hg)) hN (hW.blk (ho1.blk hb1 (by simp)) n1) x
  rw [hV1] at hJ
  have hD := deleteSt_any hown1 hlen hJ
  rw [hfil, ← hV1] at hD
  have HD := Lib.hid hD
  have hb3 := ho1.blk hb2 (by simp)
  clear hD hJ h1 HE h0 hc0 hb1 hlt1 hown1
  go_wp2_with fail
  refine HD.out.mono ?_
  rintro e w2 ⟨v2, rfl, hown2, ho2⟩
  have hb4 := ho2.blk hb3 n2
  have hs2 := (Slc.of_own hown2).1
  have HF2 := Lib.hid (HFo.out w2 v2 hs2)
  clear hs2
  go_wp2_with (go_at_call 71; refine HF2.out.mono ?_; rintro e w3 ⟨v3, rfl, hown3, ho3⟩; obtain ⟨A3, cap3, rfl, _, _⟩ := own_form hown3
               have hp := ho3.blk hb4 (by simp)
               have hpc := fun i => hp.cell i
               have hpf := fun i => hp.free i)
  have z1 := ho1.size
  have z2 := ho2.size
  refine bodyPost_ret (v := .tuple #[.agg #[.slice A3 revs.length cap3, .int .i64 rnx, .bool rend], .int .i64 rerr]) (by simp [results, Tryz.results17, go_sem, hpc]) rfl ⟨_, rfl, ?own, ?hw⟩
  case own =>
    refine own_only (own_base hown3 (by omega)) (S := [w.heap.size + 1]) ?_ (fun g hg => by have := (hown3.lt g hg).1; simp; omega)
    iterate 3 (refine Only.setCell ?_ (.inl (by simp)) _)
    exact Only.refl _ _
  case hw =>
    iterate 3 (refine Only.setCell ?_ (.inr (by simp)) _)
    exact ((hO0.trans ho1).step ho2 (fun g hg => .inr (by have := hge g hg; omega))).trans ho3
end
end Go.Proofs.YtikboecmcbcghaaGreat
/- Contract: the laws' walk over all pages. -/
set_option linter.unusedVariables false
set_option linter.unusedSimpArgs false
namespace Go.Proofs.YtikboecmcbcghaaGreat
open Go.RowKit
theorem run_append_nothing {P : Program} (w : World) (t e ty : TypeId) (A : Option Addr) (size n cap c : Nat) (ht : P.underlying t = some (.slice e)) (hs : (Go.sizeOf e).run P w = .ok size w) (hnc : n ≤ cap) :
    (Builtin.append_ #[t, t] ty #[.slice A n cap, .slice none 0 c]).run P w = .ok (.slice A n cap) w := by
  cases A <;> simp [Builtin.append_, run_underlying ht, hs, hnc, Builtin.lenOf, Builtin.firstCells, storeCells]
section
variable {a w : World} {R E : List Nat} {sb mb N : Nat} {s : MS}
end
end Go.Proofs.YtikboecmcbcghaaGreat
/- What is seen of the document's state, its streams, its pages, is what is seen of the program's. No program is named. -/
set_option linter.unusedVariables false
set_option linter.unusedSimpArgs false
namespace Go.Proofs.YtikboecmcbcghaaGreat
open Go.RowKit
/-! ## names, rising -/
def ltB (x y : ByteArray) : Bool := Go.Op.bytesLess x.toList y.toList
theorem ltB_iff {x y : ByteArray} : ltB x y = true ↔ x.data.toList < y.data.toList := by
  unfold ltB
  rw [ByteArray.toList_eq, ByteArray.toList_eq, Go.Proofs.bytesLess_eq]
  simp
def RisingB (l : List ByteArray) : Prop := l.Pairwise (fun a b => a.data.toList < b.data.toList)
theorem ba_inj {a b : ByteArray} (h : a.data.toList = b.data.toList) : a = b := by
  cases a; cases b
  simp only [ByteArray.mk.injEq]
  exact Array.toList_inj.1 h
theorem rising_ext : ∀ (l m : List ByteArray), RisingB l → RisingB m → (∀ x, x ∈ l ↔ x ∈ m) → l = m
  | [], [], _, _, _ => rfl
  | [], y :: m, _, _, h => by have := (h y).2 (by simp); cases this
  | x :: l, [], _, _, h => by have := (h x).1 (by simp); cases this
  | x :: l, y :: m, h1, h2, h => by
    obtain ⟨a1, b1⟩ := List.pairwise_cons.1 h1
    obtain ⟨a2, b2⟩ := List.pairwise_cons.1 h2
    have hxy : x = y := by
      apply Classical.byContradiction
      intro e
      have p1 := (h x).1 (by simp)
      have p2 := (h y).2 (by simp)
      rcases List.mem_cons.1 p1 with q | q
      · exact e q
      · rcases List.mem_cons.1 p2 with q2 | q2
        · exact e q2.symm
        · exact absurd (List.lt_trans (a1 y q2) (a2 x q)) (List.lt_irrefl _)
    subst hxy
    congr 1
    refine rising_ext l m b1 b2 (fun z => ?_)
    have hz := h z
    simp only [List.mem_cons] at hz
    constructor
    · intro q
      rcases hz.1 (.inr q) with e | e
      · subst e; exact absurd (a1 z q) (List.lt_irrefl _)
      · exact e
    · intro q
      rcases hz.2 (.inr q) with e | e
      · subst e; exact absurd (a2 z q) (List.lt_irrefl _)
      · exact e
def placeS (out : List ByteArray) (s : ByteArray) : Nat := out.findIdx (fun x => !ltB x s)
def insS (out : List ByteArray) (s : ByteArray) : List ByteArray := if out[placeS out s]? = some s then out else out.take (placeS out s) ++ s :: out.drop (placeS out s)
def streamsD (l : List StoredR) : List ByteArray := l.foldl (fun out e => insS out e.stream) []
theorem insS_spec {l : List ByteArray} (h : RisingB l) (s : ByteArray) : RisingB (insS l s) ∧ ∀ x, x ∈ insS l s ↔ x = s ∨ x ∈ l := by
  unfold insS
  obtain ⟨k, hk⟩ : ∃ k, k = placeS l s := ⟨_, rfl⟩
  rw [← hk]
  split
  · rename_i q
    have hs : s ∈ l := List.mem_of_getElem? q
    exact ⟨h, fun x => ⟨.inr, fun e => e.elim (fun e => by rw [e]; exact hs) id⟩⟩
  · rename_i q
    have h1 : ∀ x ∈ l.take k, x.data.toList < s.data.toList := fun x hx => by
      obtain ⟨j, hj, rfl⟩ := List.getElem_of_mem hx
      have hj2 : j < k := by simp at hj; omega
      rw [List.getElem_take]
      have := List.not_of_lt_findIdx (by unfold placeS at hk; rw [← hk]; exact hj2)
      simp at this
      exact ltB_iff.1 this
    have h2 : ∀ x ∈ l.drop k, s.data.toList < x.data.toList := fun x hx => by
      have hkl : k < l.length := by
        rcases Nat.lt_or_ge k l.length with q | q
        · exact q
        · rw [List.drop_of_length_le q] at hx; cases hx
      have hk0 := List.findIdx_getElem (p := fun x => !ltB x s) (xs := l) (w := by unfold placeS at hk; rw [← hk]; exact hkl)
      have hk' : List.findIdx (fun x => !ltB x s) l = k := hk.symm
      simp only [hk'] at hk0
      have hk1 : ¬ l[k].data.toList < s.data.toList := fun q => by
        have := ltB_iff.2 q
        rw [this] at hk0
        cases hk0
      have hk2 : s.data.toList < l[k].data.toList := by
        rcases List.le_iff_lt_or_eq.1 (List.not_lt.1 hk1) with q3 | q3
        · exact q3
        · exact absurd (by rw [List.getElem?_eq_getElem hkl, ba_inj q3]) q
      rw [List.drop_eq_getElem_cons hkl] at hx
      rcases List.mem_cons.1 hx with e | hx
      · rw [e]; exact hk2
      · obtain ⟨j, hj, rfl⟩ := List.getElem_of_mem hx
        have hj2 : k + 1 + j < l.length := by simp at hj; omega
        have h9 := List.pairwise_iff_getElem.1 h k (k + 1 + j) hkl hj2 (by omega)
        rw [List.getElem_drop]
        exact List.lt_trans hk2 h9
    refine ⟨?_, fun x => ?_⟩
    · refine List.pairwise_append.2 ⟨h.sublist (List.take_sublist _ _), List.pairwise_cons.2 ⟨h2, h.sublist (List.drop_sublist _ _)⟩, fun a ha b hb => ?_⟩
      rcases List.mem_cons.1 hb with e | hb
      · rw [e]; exact h1 a ha
      · exact List.lt_trans (h1 a ha) (h2 b hb)
    · rw [List.mem_append, List.mem_cons]
      have e : x ∈ l ↔ x ∈ l.take k ∨ x ∈ l.drop k := by rw [← List.mem_append, List.take_append_drop]
      rw [e]
      constructor
      · rintro (q | q | q)
        · exact .inr (.inl q)
        · exact .inl q
        · exact .inr (.inr q)
      · rintro (q | q | q)
        · exact .inr (.inl q)
        · exact .inl q
        · exact .inr (.inr q)
theorem streamsGo : ∀ (l : List StoredR) (out : List ByteArray), RisingB out → RisingB (l.foldl (fun out e => insS out e.stream) out) ∧ ∀ x, x ∈ l.foldl (fun out e => insS out e.stream) out ↔ (∃ e ∈ l, e.stream = x) ∨ x ∈ out
  | [], out, h => ⟨h, fun x => by simp⟩
  | e :: l, out, h => by
    obtain ⟨a, b⟩ := insS_spec h e.stream
    obtain ⟨c, d⟩ := streamsGo l (insS out e.stream) a
    refine ⟨c, fun x => ?_⟩
    rw [List.foldl_cons, d x, b x]
    constructor
    · rintro (⟨f, hf, q⟩ | q | q)
      · exact .inl ⟨f, by simp [hf], q⟩
      · exact .inl ⟨e, by simp, q.symm⟩
      · exact .inr q
    · rintro (⟨f, hf, q⟩ | q)
      · rcases List.mem_cons.1 hf with e2 | hf
        · subst e2; exact .inr (.inl q.symm)
        · exact .inl ⟨f, hf, q⟩
      · exact .inr (.inr q)
def sortB (l : List ByteArray) : List ByteArray := ((l.map fun s => s.data.toList).mergeSort (fun x y => decide (x ≤ y))).map fun l => ⟨l.toArray⟩
theorem sortB_mem (l : List ByteArray) (x : ByteArray) : x ∈ sortB l ↔ x ∈ l := by
  unfold sortB
  rw [List.mem_map]
  constructor
  · rintro ⟨z, hz, rfl⟩
    have hz := (List.mergeSort_perm _ _).mem_iff.1 hz
    obtain ⟨y, hy, rfl⟩ := List.mem_map.1 hz
    simpa using hy
  · intro h
    exact ⟨x.data.toList, (List.mergeSort_perm _ _).mem_iff.2 (List.mem_map.2 ⟨x, h, rfl⟩), by simp⟩
theorem sortB_rising {l : List ByteArray} (h : l.Nodup) : RisingB (sortB l) := by
  unfold sortB RisingB
  rw [List.pairwise_map]
  have hs : ((l.map fun s => s.data.toList).mergeSort (fun x y => decide (x ≤ y))).Pairwise (fun x y => decide (x ≤ y) = true) :=
    List.pairwise_mergeSort (fun a b c h1 h2 => by simp at *; exact List.le_trans h1 h2) (fun a b => by simp; exact List.le_total a b) _
  have hd : ((l.map fun s => s.data.toList).mergeSort (fun x y => decide (x ≤ y))).Nodup := by
    refine (List.mergeSort_perm _ _).nodup_iff.2 ?_
    exact List.Pairwise.map _ (fun a b hab q => hab (ba_inj q)) h
  refine (hs.and hd).imp ?_
  rintro a b ⟨h1, h2⟩
  simp only [List.toList_toArray]
  exact (List.le_iff_lt_or_eq.1 (by simpa using h1)).resolve_right h2
/-- The program's streams. -/
def MS.streamsP (s : MS) : List ByteArray := (sortB (s.m.map (·.1))).filter (fun n => !decide ((s.find n).places.length = 0))
section
variable {s : MS} {r : RS} {N : Nat} {n : ByteArray}
theorem Alike.streams (h : Alike s r) (h2 : s.Inv2) (hn : (s.m.map (·.1)).Nodup) : streamsD r.l = s.streamsP := by
  obtain ⟨a, b⟩ := streamsGo r.l [] List.Pairwise.nil
  refine rising_ext _ _ a ((sortB_rising hn).filter _) (fun x => ?_)
  rw [show streamsD r.l = r.l.foldl (fun out e => insS out e.stream) [] from rfl, b x]
  unfold MS.streamsP
  rw [List.mem_filter, sortB_mem]
  have hpl := h2.1 x
  constructor
  · rintro (⟨e, he, hx⟩ | q)
    · have hf : e ∈ s.all.filter (fun e => decide (e.stream = x)) := List.mem_filter.2 ⟨by rw [← h.l]; exact he, by simpa using hx⟩
      rw [← hpl] at hf
      have hl : (s.find x).places.length ≠ 0 := fun q => by
        rw [List.length_eq_zero_iff] at q
        rw [q] at hf
        cases hf
      refine ⟨?_, by simpa using hl⟩
      cases hq : aget s.m x with
      | none =>
        refine absurd ?_ hl
        unfold MS.find
        rw [hq]
        rfl
      | some v => exact List.mem_map.2 ⟨(x, v), aget_mem hq, rfl⟩
    · cases q
  · rintro ⟨_, hl⟩
    left
    have hl : (s.find x).places.length ≠ 0 := by simpa using hl
    have hne : (s.find x).places.map (evAt s.all) ≠ [] := fun q => hl (by rw [List.map_eq_nil_iff] at q; rw [q]; rfl)
    rw [hpl] at hne
    obtain ⟨e, he⟩ := List.exists_mem_of_ne_nil _ hne
    obtain ⟨h3, h4⟩ := List.mem_filter.1 he
    exact ⟨e, by rw [h.l]; exact h3, by simpa using h4⟩
/-! ## what is seen -/
def RS.seenP (r : RS) (n : ByteArray) (e : StoredR) : Bool := (decide (n.toList = []) || decide (e.stream = n)) && !(r.get e.stream).deleted && decide (r.floor e.stream ≤ e.version)
def RS.seenD (r : RS) (n : ByteArray) : List StoredR := r.l.filter (r.seenP n)
def RS.wantSeen (r : RS) (i : Int) : Bool := if i < 0 ∨ (r.l.length : Int) ≤ i then false else !(r.get (evAt r.l i).stream).deleted && decide (r.floor (evAt r.l i).stream ≤ (evAt r.l i).version)
theorem Alike.seen (h : Alike s r) (h2 : s.Inv2) (i : Int) : r.wantSeen i = s.seenAt i := by
  unfold RS.wantSeen MS.seenAt
  rw [h.l, h.del, h.floor h2]
theorem Alike.seenAll (h : Alike s r) (hi : s.Inv) (h2 : s.Inv2) (hn : n.toList = []) : r.seenD n = s.seenAll := by
  unfold RS.seenD MS.seenAll
  rw [h.l]
  refine List.filter_congr fun e he => ?_
  rw [seenAt_of hi he]
  unfold RS.seenP
  rw [h.del, h.floor h2, decide_eq_true hn]
  simp
theorem Alike.seenS (h : Alike s r) (hi : s.Inv) (h2 : s.Inv2) (hn : n.toList ≠ []) : r.seenD n = s.seenL n := by
  rw [seenL_filter hi h2]
  unfold RS.seenD MS.seenAll
  rw [List.filter_filter, h.l]
  refine List.filter_congr fun e he => ?_
  rw [seenAt_of hi he]
  unfold RS.seenP
  rw [h.del, h.floor h2, decide_eq_false hn]
  simp [Bool.and_assoc]
/-! ## pages -/
def bwdGo (key : StoredR → Int) (f n : Int) : List StoredR → List StoredR → Int → PageR
  | [], acc, nx => ⟨acc, nx, true⟩
  | s :: l, acc, nx => if f < key s then bwdGo key f n l acc nx else if (acc.length : Int) = n then ⟨acc, nx, false⟩ else bwdGo key f n l (acc ++ [s]) (max (key s) 0 - 1)
def pageBy (key : StoredR → Int) (l : List StoredR) (f n : Int) (back : Bool) : PageR × Int :=
  if wrongP f n then (PageR.zero, 1) else (if back then bwdGo key f n l.reverse [] f else fwdGo key f n l [] f, 0)
def MS.readP (s : MS) (n : ByteArray) (f k : Int) (back : Bool) : PageR × Int :=
  if (nameOk n && decide (0 ≤ f) && decide (1 ≤ k) && decide (k ≤ 100)) = false then (PageR.zero, 1) else if (s.find n).deleted then (PageR.zero, 23) else if (s.find n).places.length = 0 then (PageR.zero, 8) else pageBy StoredR.version (s.seenL n) f k back
def RS.readD (r : RS) (n : ByteArray) (f k : Int) (back : Bool) : PageR × Int :=
  if (nameOk n && decide (0 ≤ f) && decide (1 ≤ k) && decide (k ≤ 100)) = false then (PageR.zero, 1) else if (r.get n).deleted then (PageR.zero, 23) else if (r.of n).length = 0 then (PageR.zero, 8) else pageBy StoredR.version (r.seenD n) f k back
theorem name_some {n : ByteArray} (h : nameOk n = true) : n.toList ≠ [] := fun q => by
  unfold nameOk at h
  simp only [Bool.and_eq_true, decide_eq_true_eq] at h
  have h1 := h.1.1
  rw [ByteArray.toList_eq] at q
  have : n.size = n.data.toList.length := by simp
  rw [this, q] at h1
  simp at h1
theorem Alike.read (h : Alike s r) (hi : s.Inv) (h2 : s.Inv2) (f k : Int) (back : Bool) : r.readD n f k back = s.readP n f k back := by
  unfold RS.readD MS.readP
  rw [h.del, h.len h2]
  cases hq : (nameOk n && decide (0 ≤ f) && decide (1 ≤ k) && decide (k ≤ 100)) with
  | false => rfl
  | true =>
    have hn : nameOk n = true := by
      cases hb : nameOk n with
      | true => rfl
      | false => rw [hb] at hq; simp at hq
    rw [h.seenS hi h2 (name_some hn)]
theorem Alike.allP (h : Alike s r) (hi : s.Inv) (h2 : s.Inv2) (hn : n.toList = []) (f k : Int) (back : Bool) : pageBy StoredR.position (r.seenD n) f k back = pageBy StoredR.position s.seenAll f k back := by rw [h.seenAll hi h2 hn]
/-! ## one event -/
def MS.atP (s : MS) (n : ByteArray) (v : Int) : Option StoredR :=
  if v < 0 ∨ ((s.find n).places.length : Int) ≤ v ∨ s.seenAt (((s.find n).places[v.toNat]?).getD 0) = false then none else some (evAt s.all (((s.find n).places[v.toNat]?).getD 0))
def lastV (v : Int) : List StoredR → Option StoredR → Option StoredR
  | [], o => o
  | e :: l, o => lastV v l (if e.version = v then some e else o)
theorem lastV_none (v : Int) : ∀ (l : List StoredR) (o : Option StoredR), (∀ e ∈ l, e.version ≠ v) → lastV v l o = o
  | [], o, _ => rfl
  | e :: l, o, h => by
    unfold lastV
    rw [if_neg (h e (by simp))]
    exact lastV_none v l o (fun x hx => h x (by simp [hx]))
theorem lastV_some (v : Int) : ∀ (l : List StoredR) (o : Option StoredR) (k : Nat) (hk : k < l.length), l[k].version = v → (∀ j (hj : j < l.length), l[j].version = v → j = k) → lastV v l o = some l[k]
  | [], o, k, hk, _, _ => by simp at hk
  | e :: l, o, 0, _, h, hu => by
    have he : e.version = v := h
    unfold lastV
    rw [if_pos he, lastV_none v l]
    · rfl
    · intro x hx q
      obtain ⟨j, hj, rfl⟩ := List.getElem_of_mem hx
      have := hu (j + 1) (by simpa using hj) (by simpa using q)
      omega
  | e :: l, o, k + 1, hk, h, hu => by
    unfold lastV
    have := lastV_some v l (if e.version = v then some e else o) k (by simpa using hk) (by simpa using h) (fun j hj q => by
      have := hu (j + 1) (by simpa using hj) (by simpa using q)
      omega)
    rw [this]
    rfl
theorem at_last (hi : s.Inv) (h2 : s.Inv2) (v : Int) : lastV v (s.seenL n) none = s.atP n v := by
  have hvers : ∀ k (hk : k < (s.find n).places.length), ∃ p : Nat, ∃ hp : p < s.all.length, (s.find n).places[k] = p ∧ s.all[p].stream = n ∧ s.all[p].version = k := hi.plc n
  have hbd := floorS_bd s n
  unfold MS.seenL MS.atP
  by_cases hd : (s.find n).deleted = true
  · rw [if_pos hd]
    by_cases hv : v < 0 ∨ ((s.find n).places.length : Int) ≤ v
    · rw [if_pos (hv.imp id .inl)]
      rfl
    · obtain ⟨k, rfl⟩ : ∃ k : Nat, v = k := ⟨v.toNat, by omega⟩
      have hk : k < (s.find n).places.length := by omega
      obtain ⟨p, hp, q1, q2, q3⟩ := hvers k hk
      rw [if_pos]
      · rfl
      · refine .inr (.inr ?_)
        rw [Int.toNat_natCast, List.getElem?_eq_getElem hk, Option.getD_some, q1]
        unfold MS.seenAt
        rw [if_neg (by omega), evAt_nat hp, q2, hd]
        rfl
  · rw [if_neg hd]
    by_cases hv : v < 0 ∨ ((s.find n).places.length : Int) ≤ v
    · rw [if_pos (hv.imp id .inl)]
      refine lastV_none _ _ _ (fun e he q => ?_)
      obtain ⟨p, hp, rfl⟩ := List.mem_map.1 he
      obtain ⟨k, hk, rfl⟩ := List.getElem_of_mem (List.mem_of_mem_drop hp)
      obtain ⟨p, hp, q1, q2, q3⟩ := hvers k hk
      rw [q1, evAt_nat hp, q3] at q
      omega
    · obtain ⟨k, rfl⟩ : ∃ k : Nat, v = k := ⟨v.toNat, by omega⟩
      have hk : k < (s.find n).places.length := by omega
      obtain ⟨p, hp, q1, q2, q3⟩ := hvers k hk
      rw [Int.toNat_natCast, List.getElem?_eq_getElem hk, Option.getD_some, q1]
      have hsee : s.seenAt (p : Int) = decide (s.floorS n ≤ (k : Int)) := by
        unfold MS.seenAt
        rw [if_neg (by omega), evAt_nat hp, q2, q3]
        simp [hd]
      rw [hsee]
      obtain ⟨f, hf⟩ := Int.eq_ofNat_of_zero_le hbd.1
      rw [hf]
      simp only [Int.toNat_natCast]
      by_cases hfk : f ≤ k
      · rw [if_neg (by simp; omega)]
        have hlen : k - f < (((s.find n).places.drop f).map (evAt s.all)).length := by simp; omega
        have hget : ∀ j (hj : j < (((s.find n).places.drop f).map (evAt s.all)).length), (((s.find n).places.drop f).map (evAt s.all))[j].version = ((f + j : Nat) : Int) := fun j hj => by
          rw [List.getElem_map, List.getElem_drop]
          obtain ⟨p, hp, q1, q2, q3⟩ := hvers (f + j) (by simp at hj; omega)
          rw [q1, evAt_nat hp, q3]
        rw [lastV_some _ _ _ (k - f) hlen (by rw [hget]; congr 1; omega) (fun j hj q => by rw [hget] at q; omega)]
        rw [List.getElem_map, List.getElem_drop]
        congr 2
        rw [← q1]
        congr 1
        omega
      · rw [if_pos (by simp; omega)]
        refine lastV_none _ _ _ (fun e he q => ?_)
        obtain ⟨j, hj, rfl⟩ := List.getElem_of_mem he
        rw [List.getElem_map, List.getElem_drop] at q
        obtain ⟨p, hp, q1, q2, q3⟩ := hvers (f + j) (by simp at hj; omega)
        rw [q1, evAt_nat hp, q3] at q
        omega
end
end Go.Proofs.YtikboecmcbcghaaGreat
/- The document's state in memory; the base of its contracts: rows, appends, blocks that turn. -/
set_option linter.unusedVariables false
set_option linter.unusedSimpArgs false
namespace Go.Proofs.YtikboecmcbcghaaGreat
open Go Go.RowKit Go.Sort
theorem slc_new1 {w : World} {e : TypeId} {size : Nat} {cs : List Value} (hs : cs.length = 1 * size) : Slc (w.alloc (.cells cs.toArray e)) size (.slice (some ⟨w.heap.size, 0, none⟩) 1 1) 1 cs := by
  have hb := Blk.new w e cs.toArray
  refine ⟨_, 1, rfl, hs, Nat.le_refl _, by simp [maxLen], fun _ => ⟨w.heap.size, 0, rfl, hb.lt, fun j hj => ?_⟩⟩
  rw [Nat.zero_add, hb.cell j]
  simp
theorem slc_take {w : World} {size n cap k : Nat} {A : Option Addr} {cs : List Value} (h : Slc w size (.slice A n cap) n cs) (hk : k ≤ n) : Slc w size (.slice A k cap) k (cs.take (k * size)) := by
  obtain ⟨A', cap', e, h1, h2, h3, h4⟩ := h
  injection e with e1 e2 e3
  subst e1 e3
  have hm : k * size ≤ n * size := Nat.mul_le_mul_right _ hk
  refine ⟨A, cap, rfl, by rw [List.length_take, h1]; omega, by omega, h3, fun hn => ?_⟩
  obtain ⟨b, off, rfl, hb, hc⟩ := h4 (by omega)
  refine ⟨b, off, rfl, hb, fun j hj => ?_⟩
  rw [List.length_take] at hj
  rw [hc j (by omega), List.getElem?_take, if_pos (by omega)]
theorem run_append_zero {P : Program} (w : World) (t e ty : TypeId) (A B : Option Addr) (size n cap c : Nat) (ht : P.underlying t = some (.slice e)) (hs : (Go.sizeOf e).run P w = .ok size w) (hnc : n ≤ cap) :
    (Builtin.append_ #[t, t] ty #[.slice A n cap, .slice B 0 c]).run P w = .ok (.slice A n cap) w := by
  cases A <;> cases B <;> simp [Builtin.append_, run_underlying ht, hs, hnc, Builtin.lenOf, Builtin.firstCells, storeCells, loadCells, loadCellsFrom]
theorem run_app {P : Program} {w : World} (t ty : TypeId) (base : Nat) (e : TypeId) (z : Value) (size bytes : Nat) (ht : P.underlying t = some (.slice e)) (hi : (P.info? e).map (fun i => (i.zero, i.size, i.bytes)) = some (some z, size, bytes))
    (hzs : z.cells.size = size) (hsz : 0 < size) {v : Value} {n : Nat} {xs : List Value} (hown : w.ownsRow base e size v n xs) {u : Value} {m : Nat} {cells : List Value} (hsl : Slc w size u m cells)
    (h1 : ∀ u ∈ cells, u.oneCell' = true) (hb : (n + m) * bytes ≤ 140737488355328) (hm : n + m ≤ maxLen) (hbase : base ≤ w.heap.size) :
    ∃ A cap w', (Builtin.append_ #[t, t] ty #[v, u]).run P w = .ok (.slice A (n + m) cap) w' ∧ w'.ownsRow base e size (.slice A (n + m) cap) (n + m) (xs ++ cells) ∧ Only v.ownBlock.toList w w' ∧
      ∀ g, (Value.slice A (n + m) cap).ownBlock = some g → v.ownBlock = some g ∨ w.heap.size ≤ g := by
  obtain ⟨i, hi1, hi2, hi3, hi4⟩ := info_parts hi
  obtain ⟨B, c, rfl, hl, hc1, hc2, hc⟩ := hsl
  by_cases h0 : m = 0
  · subst h0
    have hcn : cells = [] := List.eq_nil_of_length_eq_zero (by rw [hl]; simp)
    subst hcn
    obtain ⟨A, cap, rfl, hnc, _⟩ := own_form hown
    have hs : (Go.sizeOf e).run P w = .ok size w := by simp [Go.sizeOf, typeInfo, hi1, hi3]
    exact ⟨A, cap, w, run_append_zero w t e ty A B size n cap c ht hs hnc, by simpa using hown, Only.refl _ _, fun g hg => .inl hg⟩
  · obtain ⟨b, off, rfl, hb1, hcc⟩ := hc (by omega)
    obtain ⟨g, cap, w', hr, h2, h3, h4, _⟩ := run_append_lies (P := P) w t ty base e i z size bytes ht hi1 hi2 hi3 hi4 hzs hsz v n xs hown ⟨b, off, none⟩ m c cells hl (fun j x hx => by
      have hj : j < cells.length := (List.getElem?_eq_some_iff.1 hx).1
      rw [show ((⟨b, off, none⟩ : Addr).add j) = ⟨b, off + j, none⟩ by simp [Addr.add], hcc j hj, hx]) h1 (by omega) hm hb hbase w.heap.size rfl
    refine ⟨_, cap, w', hr, h2, (Only.refl _ _).grown h3 (fun k hk => .inl (by simp [hk])), fun x hx => ?_⟩
    have hx' : g = x := by simpa [Value.ownBlock] using hx
    subst hx'
    rcases h4 with h4 | h4
    · exact .inl h4
    · exact .inr (by omega)
theorem toList_decJ (a b : ByteArray) : (a.toList == b.toList) = decide (a = b) := by
  rw [ByteArray.toList_eq, ByteArray.toList_eq]
  by_cases h : a = b
  · rw [h]; simp
  · rw [decide_eq_false h, beq_eq_false_iff_ne]
    exact fun e => h (ba_inj e)
/-- From w to w' only blocks of H turned; those of H' are of H or new. -/
structure Stepped (w w' : World) (H H' : List Nat) : Prop where
  only : ∃ S, Only S w w' ∧ ∀ b ∈ S, b ∈ H
  blk : ∀ b ∈ H', b ∈ H ∨ w.heap.size ≤ b
section
variable {a w w' w'' : World} {H H' H'' : List Nat}
theorem Stepped.refl (w : World) (H : List Nat) : Stepped w w H H := ⟨⟨[], Only.refl _ _, by simp⟩, fun b hb => .inl hb⟩
theorem Stepped.size (h : Stepped w w' H H') : w.heap.size ≤ w'.heap.size := by
  obtain ⟨⟨S, h1, _⟩, _⟩ := h
  exact h1.size
theorem Stepped.trans (h : Stepped w w' H H') (k : Stepped w' w'' H' H'') : Stepped w w'' H H'' := by
  have hz := h.size
  obtain ⟨⟨S, h1, h2⟩, h3⟩ := h
  obtain ⟨⟨T, k1, k2⟩, k3⟩ := k
  refine ⟨⟨S ++ T.filter (fun b => decide (b < w.heap.size)), ?_, fun b hb => ?_⟩, fun b hb => ?_⟩
  · refine (h1.mono (fun b hb => List.mem_append_left _ hb)).step k1 (fun b hb => ?_)
    by_cases q : b < w.heap.size
    · exact .inl (List.mem_append_right _ (List.mem_filter.2 ⟨hb, by simpa using q⟩))
    · exact .inr (by omega)
  · rcases List.mem_append.1 hb with q | q
    · exact h2 b q
    · obtain ⟨q1, q2⟩ := List.mem_filter.1 q
      rcases h3 b (k2 b q1) with q3 | q3
      · exact q3
      · have : b < w.heap.size := by simpa using q2
        omega
  · rcases k3 b hb with q | q
    · exact h3 b q
    · exact .inr (by omega)
theorem Stepped.then0 (h : Stepped w w' H H') (k : Only [] w' w'') : Stepped w w'' H H' := h.trans ⟨⟨[], k, by simp⟩, fun b hb => .inl hb⟩
theorem Stepped.first0 (k : Only [] w w') (h : Stepped w' w'' H H') : Stepped w w'' H H' := Stepped.trans ⟨⟨[], k, by simp⟩, fun b hb => .inl hb⟩ h
theorem Stepped.of {S : List Nat} (k : Only S w w') (hS : ∀ b ∈ S, b ∈ H) (hb : ∀ b ∈ H', b ∈ H ∨ w.heap.size ≤ b) : Stepped w w' H H' := ⟨⟨S, k, hS⟩, hb⟩
/-- Above the world a. -/
theorem Stepped.above (h : Stepped w w' H H') (ha : Only [] a w) (hH : ∀ b ∈ H, a.heap.size ≤ b) : Only [] a w' ∧ ∀ b ∈ H', a.heap.size ≤ b := by
  obtain ⟨⟨S, h1, h2⟩, h3⟩ := h
  refine ⟨ha.step h1 (fun b hb => .inr (hH b (h2 b hb))), fun b hb => ?_⟩
  rcases h3 b hb with q | q
  · exact hH b q
  · exact Nat.le_trans ha.size q
end
theorem infoDs : (Tryz.prog.info? 99).map (fun i => (i.zero, i.size, i.bytes)) = some (some (.agg #[.string ⟨#[]⟩, .int .i64 0, .int .i64 0, .int .i64 0, .int .i64 0, .bool false]), 6, 56) := by kernel_rfl
def DStr.cells (x : DStr) : List Value := [.string x.name, .int .i64 x.mt.maxCount, .int .i64 x.mt.maxAge, .int .i64 x.mt.before, .int .i64 x.kept, .bool x.deleted]
def dcells (l : List DStr) : List Value := l.flatMap DStr.cells
theorem dcells_one (l : List DStr) : ∀ u ∈ dcells l, u.oneCell' = true := by
  intro u hu
  obtain ⟨x, _, hx⟩ := List.mem_flatMap.1 hu
  simp [DStr.cells] at hx
  rcases hx with rfl | rfl | rfl | rfl | rfl | rfl <;> rfl
/-- The document's state r lies in block rb, its events in vl, its streams in vs. -/
structure DocAt (w : World) (rb : Nat) (vl vs : Value) (r : RS) : Prop where
  blk : Blk w rb 31 #[vl, vs, .int .i64 r.now, .int .i64 r.done]
  l : w.ownsRow 0 66 8 vl r.l.length (r.l.flatMap StoredR.cells)
  s : w.ownsRow 0 99 6 vs r.s.length (dcells r.s)
def hD (rb : Nat) (vl vs : Value) : List Nat := rb :: (vl.ownBlock.toList ++ vs.ownBlock.toList)
structure HasD (a w : World) (H : List Nat) (rb : Nat) (r : RS) : Prop where
  din : ∃ vl vs, DocAt w rb vl vs r ∧ H = hD rb vl vs
  only : Only [] a w
  above : ∀ b ∈ H, a.heap.size ≤ b
def DTo (a w : World) (H : List Nat) (rb : Nat) (r : RS) (w' : World) : Prop := ∃ H', HasD a w' H' rb r ∧ Stepped w w' H H'
section
variable {a w w' w'' : World} {H H' S : List Nat} {rb : Nat} {vl vs : Value} {r : RS}
theorem DocAt.lt (h : DocAt w rb vl vs r) : ∀ b ∈ hD rb vl vs, b < w.heap.size := by
  intro b hb
  simp only [hD, List.mem_cons, List.mem_append, Option.mem_toList] at hb
  rcases hb with rfl | q | q
  · exact h.blk.lt
  · exact (h.l.lt b q).2
  · exact (h.s.lt b q).2
theorem DocAt.only (h : DocAt w rb vl vs r) (k : Only S w w') (hd : ∀ b ∈ hD rb vl vs, b ∉ S) : DocAt w' rb vl vs r :=
  ⟨k.blk h.blk (hd rb (by simp [hD])), own_only h.l k (fun g hg => hd g (by simp [hD, hg])), own_only h.s k (fun g hg => hd g (by simp [hD, hg]))⟩
theorem DocAt.only0 (h : DocAt w rb vl vs r) (k : Only [] w w') : DocAt w' rb vl vs r := h.only k (by simp)
theorem DocAt.ne (h : DocAt w rb vl vs r) : (∀ g, vl.ownBlock = some g → g ≠ rb) ∧ (∀ g, vs.ownBlock = some g → g ≠ rb) ∧ ∀ g, vl.ownBlock = some g → vs.ownBlock ≠ some g := by
  refine ⟨fun g hg => ?_, fun g hg => ?_, fun g hg q => ?_⟩
  · obtain ⟨cur, hc⟩ := own_type h.l hg
    exact hc.other h.blk (by decide)
  · obtain ⟨cur, hc⟩ := own_type h.s hg
    exact hc.other h.blk (by decide)
  · obtain ⟨c1, hc1⟩ := own_type h.l hg
    obtain ⟨c2, hc2⟩ := own_type h.s q
    exact hc1.other hc2 (by decide) rfl
theorem HasD.lt (h : HasD a w H rb r) : ∀ b ∈ H, b < w.heap.size := by
  obtain ⟨⟨vl, vs, h1, rfl⟩, _⟩ := h
  exact h1.lt
theorem HasD.keep (h : HasD a w H rb r) (k : Only S w w') (ha : ∀ b ∈ S, a.heap.size ≤ b) (hS : ∀ b ∈ H, b ∉ S) : HasD a w' H rb r := by
  obtain ⟨⟨vl, vs, h1, rfl⟩, ho, hab⟩ := h
  exact ⟨⟨vl, vs, h1.only k hS, rfl⟩, ho.step k (fun i hi => .inr (ha i hi)), hab⟩
theorem HasD.keep0 (h : HasD a w H rb r) (k : Only [] w w') : HasD a w' H rb r := h.keep k (by simp) (by simp)
theorem DTo.refl (h : HasD a w H rb r) : DTo a w H rb r w := ⟨H, h, Stepped.refl _ _⟩
theorem DTo.trans (h : Stepped w w' H H') (k : DTo a w' H' rb r w'') : DTo a w H rb r w'' := by
  obtain ⟨H2, k1, k2⟩ := k
  exact ⟨H2, k1, h.trans k2⟩
theorem hasD_of {r' : RS} {vl' vs' : Value} (h : HasD a w H rb r) (h1 : DocAt w' rb vl' vs' r') (k : Stepped w w' H (hD rb vl' vs')) : DTo a w H rb r' w' := by
  obtain ⟨q1, q2⟩ := k.above h.only h.above
  exact ⟨_, ⟨⟨vl', vs', h1, rfl⟩, q1, q2⟩, k⟩
/-- What is read of a state: its fields, each event, each stream. -/
theorem DocAt.open (h : DocAt w rb vl vs r) : ∃ Al cl As cs, vl = .slice Al r.l.length cl ∧ vs = .slice As r.s.length cs ∧ r.l.length ≤ cl ∧ cl ≤ maxLen ∧ r.s.length ≤ cs ∧ cs ≤ maxLen ∧
    (∀ j (hj : j < r.l.length), ∃ b off, Al = some ⟨b, off, none⟩ ∧ b < w.heap.size ∧ ∀ i, i < 8 → w.cell? ⟨b, off + j * 8 + i, none⟩ = (r.l[j].cells)[i]?) ∧
    (∀ j (hj : j < r.s.length), ∃ b off, As = some ⟨b, off, none⟩ ∧ b < w.heap.size ∧ ∀ i, i < 6 → w.cell? ⟨b, off + j * 6 + i, none⟩ = (r.s[j].cells)[i]?) := by
  obtain ⟨Al, cl, e1, q1, q2, q3⟩ := (Slc.of_own h.l).1.openE StoredR.cells (fun _ => rfl)
  obtain ⟨As, cs, e2, q4, q5, q6⟩ := (Slc.of_own h.s).1.openE DStr.cells (fun _ => rfl)
  exact ⟨Al, cl, As, cs, e1, e2, q1, q2, q4, q5, q3, q6⟩
end
end Go.Proofs.YtikboecmcbcghaaGreat
/- Contracts of the document's state: fits, stream, Get, Of. -/
set_option linter.unusedVariables false
set_option linter.unusedSimpArgs false
namespace Go.Proofs.YtikboecmcbcghaaGreat
open Go Go.RowKit Go.Sort
theorem eqD_t {x s : ByteArray} (h : x = s) : (x.toList == s.toList) = true := by rw [h]; simp
theorem eqD_f {x s : ByteArray} (h : ¬ x = s) : (x.toList == s.toList) = false := by rw [toList_decJ, decide_eq_false h]
theorem dfits_any (want : Int) (count : Nat) (w : World) (hc : count ≤ 1000000) : Calls Tryz.prog 48 #[.int .i64 want, .int .i64 count] w fun e w' => e = .returned (.bool (fitsD want count)) ∧ w = w' := by
  by_cases h1 : want = -2
  · subst h1
    go_enter Tryz.func48, Tryz.ntmps48
    go_wp2
    go_ret
    exact ⟨ret_b (by simp [fitsD]), rfl⟩
  · have b1 : (want == -2) = false := by simpa using h1
    by_cases h2 : want = -1
    · subst h2
      obtain ⟨bb, hbb⟩ : ∃ bb, ((count : Int) == 0) = bb := ⟨_, rfl⟩
      have hr : fitsD (-1) count = bb := by rw [← hbb]; unfold fitsD; rw [if_neg (by decide), if_pos rfl]; rfl
      rw [hr]
      clear hr
      go_enter Tryz.func48, Tryz.ntmps48
      go_wp2
      go_ret
      exact ⟨rfl, rfl⟩
    · have b2 : (want == -1) = false := by simpa using h2
      by_cases h4 : want = -4
      · subst h4
        have hr : fitsD (-4) count = decide (0 < count) := by unfold fitsD; rw [if_neg (by decide), if_neg (by decide), if_pos rfl]; congr 1; apply propext; constructor <;> intro <;> omega
        rw [hr]
        clear hr
        go_enter Tryz.func48, Tryz.ntmps48
        go_wp2
        go_ret
        exact ⟨rfl, rfl⟩
      · have b4 : (want == -4) = false := by simpa using h4
        have hr : Hid (fitsD want count = (decide (want = (count : Int) - 1) && decide ((0 : Int) < count))) := by unfold Hid fitsD; rw [if_neg h1, if_neg h2, if_neg h4]
        have e1 := IntWalk.i64_in ((count : Int) - 1) ⟨by omega, by omega⟩
        clear h1 h2 h4
        by_cases h5 : want = (count : Int) - 1
        · have b5 : (want == (count : Int) - 1) = true := by simpa using h5
          have hr' : Hid (fitsD want count = decide (0 < count)) := by
            unfold Hid
            rw [hr.out, decide_eq_true h5, Bool.true_and]
            congr 1
            apply propext
            constructor <;> intro <;> omega
          clear h5
          rw [hr'.out]
          go_enter Tryz.func48, Tryz.ntmps48
          go_wp2
          go_ret
          exact ⟨rfl, rfl⟩
        · have b5 : (want == (count : Int) - 1) = false := by simpa using h5
          have hr' : Hid (fitsD want count = false) := by unfold Hid; rw [hr.out, decide_eq_false h5]; rfl
          clear h5
          rw [hr'.out]
          go_enter Tryz.func48, Tryz.ntmps48
          go_wp2
          go_ret
          exact ⟨rfl, rfl⟩
def dIx (l : List DStr) (n : ByteArray) : Int := if l.findIdx (fun x => decide (x.name = n)) < l.length then (l.findIdx (fun x => decide (x.name = n)) : Int) else -1
theorem dIx_hit {l : List DStr} {n : ByteArray} {j : Nat} (hj : j < l.length) (hb : ∀ k (hk : k < j) (hl : k < l.length), ¬ l[k].name = n) (h : l[j].name = n) : dIx l n = j ∧ l.find? (fun x => decide (x.name = n)) = some l[j] := by
  have hi : l.findIdx (fun x => decide (x.name = n)) = j := by
    refine (List.findIdx_eq hj).2 ⟨by simpa using h, fun k hk => by simpa using hb k hk (by omega)⟩
  refine ⟨by unfold dIx; rw [hi, if_pos hj], ?_⟩
  refine List.find?_eq_some_iff_getElem.2 ⟨by simpa using h, j, hj, rfl, fun k hk => by simpa using hb k hk (by omega)⟩
theorem dIx_end {l : List DStr} {n : ByteArray} (hb : ∀ k (hl : k < l.length), ¬ l[k].name = n) : dIx l n = -1 ∧ l.find? (fun x => decide (x.name = n)) = none := by
  have hf : l.find? (fun x => decide (x.name = n)) = none := List.find?_eq_none.2 (fun x hx => by
    obtain ⟨k, hk, rfl⟩ := List.getElem_of_mem hx
    simpa using hb k hk)
  refine ⟨?_, hf⟩
  unfold dIx
  rw [if_neg]
  intro q
  have h1 := List.findIdx_getElem (p := fun x : DStr => decide (x.name = n)) (xs := l) (w := q)
  exact hb _ q (by simpa using h1)
section
variable {a w : World} {H : List Nat} {rb : Nat} {r : RS}
set_option maxRecDepth 100000 in
set_option maxHeartbeats 1000000 in
theorem dstream_any (h : HasD a w H rb r) (n : ByteArray) :
    Calls Tryz.prog 118 #[.pointer (some ⟨rb, 0, none⟩), .string n] w fun e w' => e = .returned (.int .i64 (dIx r.s n)) ∧ Only [] w w' := by
  obtain ⟨⟨vl, vs, hA, rfl⟩, -, -⟩ := h
  obtain ⟨Al, cl, As, cs, rfl, rfl, -, -, hm1, hm2, -, hS⟩ := hA.open
  unfold maxLen at hm2
  have f1 : w.cell? ⟨rb, 1, none⟩ = some (.slice As r.s.length cs) := hA.blk.cell 1
  have hrb := hA.blk.lt
  have HS := Lib.hid hS
  clear hS hA
  go_enter Tryz.func118, Tryz.ntmps118
  go_wp2
  go_loopw [5] (fun iv wr => ∃ j : Nat, j ≤ r.s.length ∧ iv = .int .i64 j ∧ Only [] w wr ∧ Hid (∀ k (hk : k < j) (hl : k < r.s.length), ¬ r.s[k].name = n)) (fun iv _ => r.s.length - (intOf iv).toNat)
  case atStart => exact ⟨0, Nat.zero_le _, rfl, Only.refl _ _, fun k hk => absurd hk (Nat.not_lt_zero _)⟩
  case round =>
    obtain ⟨j, hj, rfl, hO, hs⟩ := hrel
    have g1 : wr.cell? ⟨rb, 1, none⟩ = some (.slice As r.s.length cs) := (hO.cell hrb (by simp)).trans f1
    by_cases hlt : j < r.s.length
    · obtain ⟨b, off, rfl, hb, hcell⟩ := HS.out j hlt
      obtain ⟨x, hx⟩ : ∃ x, x = r.s[j] := ⟨_, rfl⟩
      have c0 : wr.cell? ⟨b, off + j * 6, none⟩ = some (.string x.name) := (hO.cell (p := ⟨b, off + j * 6, none⟩) hb (by simp)).trans (by have := hcell 0 (by omega); rw [← hx] at this; exact this)
      by_cases he : x.name = n
      · have hf := (dIx_hit hlt hs.out (by rw [← hx]; exact he)).1
        have he2 := eqD_t he
        clear hcell hx he
        go_wp2
        go_ret
        rw [hf]
        exact ⟨rfl, hO⟩
      · have hs2 : Hid (∀ k (hk : k < j + 1) (hl : k < r.s.length), ¬ r.s[k].name = n) := fun k hk hl => by
          by_cases e : k = j
          · subst e
            rw [← hx]
            exact he
          · exact hs.out k (by omega) hl
        have he2 := eqD_f he
        clear hcell hx hs he
        go_wp2
        go_round
        case rel => exact ⟨j + 1, hlt, by simp, hO, hs2⟩
        case measure => simp [intOf]; omega
    · have hf := (dIx_end (fun k hl => hs.out k (by omega) hl)).1
      clear hs
      go_wp2
      go_ret
      rw [hf]
      exact ⟨rfl, hO⟩
theorem stored_one (l : List StoredR) : ∀ u ∈ l.flatMap StoredR.cells, u.oneCell' = true := by
  intro u hu
  obtain ⟨x, _, hx⟩ := List.mem_flatMap.1 hu
  simp [StoredR.cells, EventR.cells] at hx
  rcases hx with rfl | rfl | rfl | rfl | rfl | rfl | rfl | rfl <;> rfl
theorem app8 {W : World} {base : Nat} {v : Value} {l : List StoredR} (hown : W.ownsRow base 66 8 v l.length (l.flatMap StoredR.cells)) (hb : base ≤ W.heap.size) (hl : l.length ≤ 1000000) (x : StoredR) :
    ∃ A cap w', (Builtin.append_ #[28, 28] 28 #[v, .slice (some ⟨W.heap.size, 0, none⟩) 1 1]).run Tryz.prog (W.alloc (.cells #[.int .i64 x.ev.id, .string x.ev.type, .string x.ev.data, .float .f64 x.ev.value, .string x.stream, .int .i64 x.version, .int .i64 x.position, .int .i64 x.time] 66)) = .ok (.slice A (l.length + 1) cap) w' ∧ w'.ownsRow base 66 8 (.slice A (l.length + 1) cap) (l ++ [x]).length ((l ++ [x]).flatMap StoredR.cells) ∧ Only v.ownBlock.toList (W.alloc (.cells #[.int .i64 x.ev.id, .string x.ev.type, .string x.ev.data, .float .f64 x.ev.value, .string x.stream, .int .i64 x.version, .int .i64 x.position, .int .i64 x.time] 66)) w' := by
  obtain ⟨A, cap, w', h1, h2, h3, _⟩ := run_app (P := Tryz.prog) (w := W.alloc (.cells #[.int .i64 x.ev.id, .string x.ev.type, .string x.ev.data, .float .f64 x.ev.value, .string x.stream, .int .i64 x.version, .int .i64 x.position, .int .i64 x.time] 66)) 28 28 base 66 (.agg #[.int .i64 0, .string ⟨#[]⟩, .string ⟨#[]⟩, .float .f64 0, .string ⟨#[]⟩, .int .i64 0, .int .i64 0, .int .i64 0]) 8 88 Tryz.underlying28 infoSt rfl (by decide) (hown.alloc _) (slc_new1 (w := W) (e := 66) (size := 8) (cs := x.cells) rfl) (by simpa using stored_one [x]) (by omega) (by unfold maxLen; omega) (Nat.le_trans hb (by simp))
  refine ⟨A, cap, w', h1, ?_, h3⟩
  rw [List.length_append]
  simpa using h2
theorem of_succ (l : List StoredR) (n : ByteArray) {k : Nat} (h : k < l.length) : (l.take (k + 1)).filter (fun e => decide (e.stream = n)) = (l.take k).filter (fun e => decide (e.stream = n)) ++ if l[k].stream = n then [l[k]] else [] := by
  rw [List.take_succ_eq_append_getElem h, List.filter_append]
  congr 1
  by_cases q : l[k].stream = n
  · simp [q]
  · simp [q]
set_option maxRecDepth 100000 in
set_option maxHeartbeats 2000000 in
theorem dof_any (h : HasD a w H rb r) (hl : r.l.length ≤ 1000000) (n : ByteArray) :
    Calls Tryz.prog 46 #[.pointer (some ⟨rb, 0, none⟩), .string n] w fun e w' => ∃ v', e = .returned v' ∧ w'.ownsRow w.heap.size 66 8 v' (r.of n).length ((r.of n).flatMap StoredR.cells) ∧ Only [] w w' := by
  obtain ⟨⟨vl, vs, hA, rfl⟩, -, -⟩ := h
  obtain ⟨Al, cl, As, cs, rfl, rfl, -, hcm1, -, -, hel1, -⟩ := hA.open
  unfold maxLen at hcm1
  have f0 : w.cell? ⟨rb, 0, none⟩ = some (.slice Al r.l.length cl) := hA.blk.cell 0
  have hrb := hA.blk.lt
  have hsf := stF
  obtain ⟨l, hle⟩ : ∃ l, r.l = l := ⟨_, rfl⟩
  have hof : r.of n = l.filter (fun e => decide (e.stream = n)) := by rw [← hle]; rfl
  rw [hof]
  rw [hle] at hel1 f0 hl
  clear hA hof hle
  go_enter Tryz.func46, Tryz.ntmps46
  go_wp2
  go_loopw [5, 6] (fun o i wr => ∃ (k : Nat) (A : Option Addr) (cap : Nat), k ≤ l.length ∧ i = .int .i64 k ∧ o = .slice A ((l.take k).filter (fun e => decide (e.stream = n))).length cap ∧ wr.ownsRow w.heap.size 66 8 (.slice A ((l.take k).filter (fun e => decide (e.stream = n))).length cap) ((l.take k).filter (fun e => decide (e.stream = n))).length (((l.take k).filter (fun e => decide (e.stream = n))).flatMap StoredR.cells) ∧ Only [] w wr) (fun _ i _ => l.length - (intOf i).toNat)
  case atStart => exact ⟨0, none, 0, Nat.zero_le _, rfl, rfl, World.ownsRow_nil _ _ _ _, Only.refl _ _⟩
  case round =>
    obtain ⟨k, A, cap, hk, rfl, rfl, hown, hO⟩ := hrel
    have g0 : wr.cell? ⟨rb, 0, none⟩ = some (.slice Al l.length cl) := (hO.cell hrb (by simp)).trans f0
    have hfew : ((l.take k).filter (fun e => decide (e.stream = n))).length ≤ k := Nat.le_trans (List.length_filter_le _ _) (by rw [List.length_take]; omega)
    by_cases hlt : k < l.length
    · obtain ⟨b, off, rfl, hbb, hcc⟩ := hel1 k hlt
      have hnx := of_succ l n hlt
      obtain ⟨x, hx⟩ : ∃ x, x = l[k] := ⟨_, rfl⟩
      rw [← hx] at hcc hnx
      have c0 : wr.cell? ⟨b, off + k * 8, none⟩ = some (.int .i64 x.ev.id) := (hO.cell hbb (by simp)).trans (hcc 0 (by omega))
      have c1 : wr.cell? ⟨b, off + k * 8 + 1, none⟩ = some (.string x.ev.type) := (hO.cell hbb (by simp)).trans (hcc 1 (by omega))
      have c2 : wr.cell? ⟨b, off + k * 8 + 2, none⟩ = some (.string x.ev.data) := (hO.cell hbb (by simp)).trans (hcc 2 (by omega))
      have c3 : wr.cell? ⟨b, off + k * 8 + 3, none⟩ = some (.float .f64 x.ev.value) := (hO.cell hbb (by simp)).trans (hcc 3 (by omega))
      have c4 : wr.cell? ⟨b, off + k * 8 + 4, none⟩ = some (.string x.stream) := (hO.cell hbb (by simp)).trans (hcc 4 (by omega))
      have c5 : wr.cell? ⟨b, off + k * 8 + 5, none⟩ = some (.int .i64 x.version) := (hO.cell hbb (by simp)).trans (hcc 5 (by omega))
      have c6 : wr.cell? ⟨b, off + k * 8 + 6, none⟩ = some (.int .i64 x.position) := (hO.cell hbb (by simp)).trans (hcc 6 (by omega))
      have c7 : wr.cell? ⟨b, off + k * 8 + 7, none⟩ = some (.int .i64 x.time) := (hO.cell hbb (by simp)).trans (hcc 7 (by omega))
      obtain ⟨L, hL⟩ : ∃ L, L = (l.take k).filter (fun e => decide (e.stream = n)) := ⟨_, rfl⟩
      rw [← hL] at hown hfew hnx ⊢
      clear hcc hx hel1 hL
      by_cases he : x.stream = n
      · rw [if_pos he] at hnx
        have HNX := Lib.hid hnx
        have he2 := eqD_t he
        obtain ⟨A4, c4', w4, hr4, hown4, hO4⟩ := app8 (W := wr) (base := w.heap.size) hown hO.size (by omega) x
        have HR4 := Lib.hid hr4
        clear hr4 hnx he
        go_wp2_with (at_builtin; refine Lib.wpList_append_run _ rfl (.tmp 26) (.tmp 34) 28 28 rfl _ _ rfl rfl _ _ HR4.out ?_)
        have hb3 := fun g hg => (World.ownsRow.lt hown g hg).1
        have hO5 : Only [] w w4 := (hO.alloc _).step hO4 (fun g hg => .inr (by have := hb3 g (by simpa using hg); omega))
        go_round
        case rel =>
          refine ⟨k + 1, A4, c4', hlt, by simp, ?_, ?_, hO5⟩
          · rw [HNX.out, List.length_append]
            rfl
          · rw [HNX.out]
            simpa using hown4
        case measure => simp [intOf]; omega
      · rw [if_neg he, List.append_nil] at hnx
        have HNX := Lib.hid hnx
        have he2 := eqD_f he
        clear hnx he
        go_wp2
        go_round
        case rel =>
          refine ⟨k + 1, A, cap, hlt, by simp, ?_, ?_, hO⟩
          · rw [HNX.out]
          · rw [HNX.out]
            exact hown
        case measure => simp [intOf]; omega
    · have hkl : k = l.length := by omega
      subst hkl
      rw [List.take_length] at hown ⊢
      obtain ⟨L, hL⟩ : ∃ L, L = l.filter (fun e => decide (e.stream = n)) := ⟨_, rfl⟩
      rw [← hL] at hown ⊢
      have HL := Lib.hid hL
      clear hel1 hL
      go_wp2
      go_ret
      refine ⟨_, rfl, ?_, hO⟩
      rw [← HL.out]
      exact hown
def DStr.val (x : DStr) : Value := .agg #[.string x.name, .int .i64 x.mt.maxCount, .int .i64 x.mt.maxAge, .int .i64 x.mt.before, .int .i64 x.kept, .bool x.deleted]
set_option maxRecDepth 100000 in
set_option maxHeartbeats 2000000 in
theorem dget_any (h : HasD a w H rb r) (n : ByteArray) :
    Calls Tryz.prog 44 #[.pointer (some ⟨rb, 0, none⟩), .string n] w fun e w' => e = .returned (r.get n).val ∧ Only [] w w' := by
  have HIx := Lib.hid fun (W : World) (k : Only [] w W) => dstream_any (h.keep0 k) n
  obtain ⟨⟨vl, vs, hA, rfl⟩, -, -⟩ := h
  obtain ⟨Al, cl, As, cs, rfl, rfl, -, -, hm1, hm2, -, hS⟩ := hA.open
  unfold maxLen at hm2
  have f1 : w.cell? ⟨rb, 1, none⟩ = some (.slice As r.s.length cs) := hA.blk.cell 1
  have hrb := hA.blk.lt
  by_cases hin : ∃ j, ∃ hj : j < r.s.length, (∀ k (hk : k < j) (hl : k < r.s.length), ¬ r.s[k].name = n) ∧ r.s[j].name = n
  · obtain ⟨j, hj, hb, he⟩ := hin
    obtain ⟨h1, h2⟩ := dIx_hit hj hb he
    have hget : r.get n = r.s[j] := by unfold RS.get; rw [h2]; rfl
    rw [hget]
    rw [h1] at HIx
    obtain ⟨b, off, rfl, hbb, hcc⟩ := hS j hj
    obtain ⟨x, hx⟩ : ∃ x, r.s[j] = x := ⟨_, rfl⟩
    rw [hx] at hcc ⊢
    clear h1 h2 hget hb he hx hS hA
    go_enter Tryz.func44, Tryz.ntmps44
    go_wp2_with fail
    refine (HIx.out _ ((Only.refl _ _).alloc _)).mono ?_
    rintro e1 w1 ⟨rfl, k1⟩
    have hk := k1.blk (Blk.new w 99 #[.string ⟨#[]⟩, .int .i64 0, .int .i64 0, .int .i64 0, .int .i64 0, .bool false]) (by simp)
    have hO1 : Only [] w w1 := ((Only.refl _ _).alloc _).trans k1
    have hf := hk.free
    have hc := hk.cell
    have g1 : w1.cell? ⟨rb, 1, none⟩ = some (.slice (some ⟨b, off, none⟩) r.s.length cs) := (hO1.cell (p := ⟨rb, 1, none⟩) hrb (by simp)).trans f1
    have d0 : w1.cell? ⟨b, off + j * 6, none⟩ = some (.string x.name) := (hO1.cell (p := ⟨b, off + j * 6, none⟩) hbb (by simp)).trans (hcc 0 (by omega))
    have d1 : w1.cell? ⟨b, off + j * 6 + 1, none⟩ = some (.int .i64 x.mt.maxCount) := (hO1.cell (p := ⟨b, off + j * 6 + 1, none⟩) hbb (by simp)).trans (hcc 1 (by omega))
    have d2 : w1.cell? ⟨b, off + j * 6 + 2, none⟩ = some (.int .i64 x.mt.maxAge) := (hO1.cell (p := ⟨b, off + j * 6 + 2, none⟩) hbb (by simp)).trans (hcc 2 (by omega))
    have d3 : w1.cell? ⟨b, off + j * 6 + 3, none⟩ = some (.int .i64 x.mt.before) := (hO1.cell (p := ⟨b, off + j * 6 + 3, none⟩) hbb (by simp)).trans (hcc 3 (by omega))
    have d4 : w1.cell? ⟨b, off + j * 6 + 4, none⟩ = some (.int .i64 x.kept) := (hO1.cell (p := ⟨b, off + j * 6 + 4, none⟩) hbb (by simp)).trans (hcc 4 (by omega))
    have d5 : w1.cell? ⟨b, off + j * 6 + 5, none⟩ = some (.bool x.deleted) := (hO1.cell (p := ⟨b, off + j * 6 + 5, none⟩) hbb (by simp)).trans (hcc 5 (by omega))
    clear hcc
    go_wp2
    have hS6 := (((((hk.set 0 (.string x.name)).set 1 (.int .i64 x.mt.maxCount)).set 2 (.int .i64 x.mt.maxAge)).set 3 (.int .i64 x.mt.before)).set 4 (.int .i64 x.kept)).set 5 (.bool x.deleted)
    have hO6 : Only [] w ((((((w1.setCell ⟨w.heap.size, 0, none⟩ (.string x.name)).setCell ⟨w.heap.size, 1, none⟩ (.int .i64 x.mt.maxCount)).setCell ⟨w.heap.size, 2, none⟩ (.int .i64 x.mt.maxAge)).setCell ⟨w.heap.size, 3, none⟩ (.int .i64 x.mt.before)).setCell ⟨w.heap.size, 4, none⟩ (.int .i64 x.kept)).setCell ⟨w.heap.size, 5, none⟩ (.bool x.deleted)) := by
      iterate 6 (refine Only.setCell ?_ (.inr (Nat.le_refl _)) _)
      exact hO1
    obtain ⟨W3, hW3⟩ : ∃ W3, ((((((w1.setCell ⟨w.heap.size, 0, none⟩ (.string x.name)).setCell ⟨w.heap.size, 1, none⟩ (.int .i64 x.mt.maxCount)).setCell ⟨w.heap.size, 2, none⟩ (.int .i64 x.mt.maxAge)).setCell ⟨w.heap.size, 3, none⟩ (.int .i64 x.mt.before)).setCell ⟨w.heap.size, 4, none⟩ (.int .i64 x.kept)).setCell ⟨w.heap.size, 5, none⟩ (.bool x.deleted)) = W3 := ⟨_, rfl⟩
    rw [hW3] at hS6 hO6 ⊢
    have hc6 := hS6.cell
    refine bodyPost_ret (v := .agg #[.string x.name, .int .i64 x.mt.maxCount, .int .i64 x.mt.maxAge, .int .i64 x.mt.before, .int .i64 x.kept, .bool x.deleted]) (by simp [results, Tryz.results44, go_sem, hc6]) rfl ⟨rfl, hO6⟩
  · have hall : ∀ k (hl : k < r.s.length), ¬ r.s[k].name = n := by
      intro k
      induction k using Nat.strongRecOn with
      | _ k ih => exact fun hl q => hin ⟨k, hl, fun i hi hil => ih i hi hil, q⟩
    obtain ⟨h1, h2⟩ := dIx_end hall
    have hget : r.get n = ⟨n, MetaR.zero, 0, false⟩ := by unfold RS.get; rw [h2]; rfl
    rw [hget]
    rw [h1] at HIx
    clear h1 h2 hget hall hin hS hA
    go_enter Tryz.func44, Tryz.ntmps44
    go_wp2_with fail
    refine (HIx.out _ ((Only.refl _ _).alloc _)).mono ?_
    rintro e1 w1 ⟨rfl, k1⟩
    have hk := k1.blk (Blk.new w 99 #[.string ⟨#[]⟩, .int .i64 0, .int .i64 0, .int .i64 0, .int .i64 0, .bool false]) (by simp)
    have hO1 : Only [] w w1 := ((Only.refl _ _).alloc _).trans k1
    have hf := hk.free
    have hc := hk.cell
    go_wp2
    have hS6 := (((((hk.set 0 (.string n)).set 1 (.int .i64 0)).set 2 (.int .i64 0)).set 3 (.int .i64 0)).set 4 (.int .i64 0)).set 5 (.bool false)
    have hO6 : Only [] w ((((((w1.setCell ⟨w.heap.size, 0, none⟩ (.string n)).setCell ⟨w.heap.size, 1, none⟩ (.int .i64 0)).setCell ⟨w.heap.size, 2, none⟩ (.int .i64 0)).setCell ⟨w.heap.size, 3, none⟩ (.int .i64 0)).setCell ⟨w.heap.size, 4, none⟩ (.int .i64 0)).setCell ⟨w.heap.size, 5, none⟩ (.bool false)) := by
      iterate 6 (refine Only.setCell ?_ (.inr (Nat.le_refl _)) _)
      exact hO1
    obtain ⟨W3, hW3⟩ : ∃ W3, ((((((w1.setCell ⟨w.heap.size, 0, none⟩ (.string n)).setCell ⟨w.heap.size, 1, none⟩ (.int .i64 0)).setCell ⟨w.heap.size, 2, none⟩ (.int .i64 0)).setCell ⟨w.heap.size, 3, none⟩ (.int .i64 0)).setCell ⟨w.heap.size, 4, none⟩ (.int .i64 0)).setCell ⟨w.heap.size, 5, none⟩ (.bool false)) = W3 := ⟨_, rfl⟩
    rw [hW3] at hS6 hO6 ⊢
    have hc6 := hS6.cell
    refine bodyPost_ret (v := .agg #[.string n, .int .i64 0, .int .i64 0, .int .i64 0, .int .i64 0, .bool false]) (by simp [results, Tryz.results44, go_sem, hc6]) rfl ⟨rfl, hO6⟩
end
end Go.Proofs.YtikboecmcbcghaaGreat
/- Contracts of the document's state: a floor. -/
set_option linter.unusedVariables false
set_option linter.unusedSimpArgs false
namespace Go.Proofs.YtikboecmcbcghaaGreat
open Go Go.RowKit Go.Sort
theorem stagesFirst3 {P : Program} {C : World → Prop} {Q : Exit → Act → World → Prop} {l : List Oper} {H A : List Nat} {r : List (List Nat × List Nat)} {K : Act → World → Prop} {a : Act} {w : World} (h : wpQuiet P l.toArray C (fun a' => wpT1 P l.toArray C Q (opsAt l A) (wpStages P l C Q K r) a' w) (opsAt l H) a) : wpStages P l C Q K ((H, A) :: r) a w := h
theorem stagesDoneD {P : Program} {C : World → Prop} {Q : Exit → Act → World → Prop} {l : List Oper} {a : Act} {w : World} (h : Q .normal a w) : wpT1 P l.toArray C Q (opsAt l []) (wpStages P l C Q (fun a w => wpList P l.toArray Q (opsAt l []) a w) []) a w := h
set_option maxRecDepth 100000 in
set_option maxHeartbeats 2000000 in
theorem dfloorP_any {w : World} {v : Value} {ts : List Int} (m : MetaR) (f now : Int) (hm : m.ok = true) (hf : -1000000000000 ≤ f ∧ f ≤ 1000000000000) (hn : 0 ≤ now ∧ now ≤ 1099511627776) (hv : Slc w 1 v ts.length (ints ts)) (hl : ts.length ≤ 1000000) :
    Calls Tryz.prog 126 #[.agg #[.int .i64 m.maxCount, .int .i64 m.maxAge, .int .i64 m.before], .int .i64 f, .int .i64 now, v] w fun e w' => e = .returned (.int .i64 (floorE m f now ts)) ∧ Only [] w w' := by
  obtain ⟨A, cap, rfl, -, hcm, hel⟩ := hv.openI
  unfold maxLen at hcm
  clear hv
  obtain ⟨mc, age, bf⟩ := m
  have hmb : (0 ≤ mc ∧ mc ≤ 1099511627776) ∧ (0 ≤ age ∧ age ≤ 1099511627776) ∧ (0 ≤ bf ∧ bf ≤ 1099511627776) := by
    unfold MetaR.ok within at hm
    simp only [Bool.and_eq_true, decide_eq_true_eq] at hm
    omega
  clear hm
  dsimp only
  obtain ⟨W0, hW⟩ : ∃ W0, w.alloc (.cells #[.int .i64 mc, .int .i64 age, .int .i64 bf] 45) = W0 := ⟨_, rfl⟩
  have hB : Blk W0 w.heap.size 45 #[.int .i64 mc, .int .i64 age, .int .i64 bf] := by rw [← hW]; exact Blk.new _ _ _
  have hOw : Only [] w W0 := by rw [← hW]; exact (Only.refl _ _).alloc _
  have hc1 : W0.cell? ⟨w.heap.size, 1, none⟩ = some (.int .i64 age) := hB.cell 1
  have hbl := hB.lt
  have hW0 := hOw.size
  have e9 := IntWalk.i64_in ((ts.length : Int) - mc) ⟨by omega, by omega⟩
  have HW := Lib.hid hW
  have HO := Lib.hid hOw
  clear hW hB
  by_cases q5 : 0 < mc
  · have q6 : decide (0 < mc) = true := decide_eq_true q5
    by_cases q7 : 0 < age
    · have q8 : decide (0 < age) = true := decide_eq_true q7
      have HFl : Hid (floorE ⟨mc, age, bf⟩ f now ts = min (max (max (max (max f 0) bf) ((ts.length : Int) - mc)) (young age now ts)) ts.length) := by unfold Hid floorE; dsimp only; rw [if_pos q5, if_pos q7]
      go_enter Tryz.func126, Tryz.ntmps126
      go_wp2_with fail
      rw [HW.out]
      go_loopw [10] (fun i wr => ∃ j : Nat, j ≤ ts.length ∧ i = .int .i64 j ∧ Only [] W0 wr ∧ Hid (young age now ts = j + young age now (ts.drop j))) (fun i _ => ts.length - (intOf i).toNat)
      case atStart => exact ⟨0, Nat.zero_le _, rfl, Only.refl _ _, Lib.hid (by simp)⟩
      case round =>
        obtain ⟨j, hj, rfl, hO, hy⟩ := hrel
        have g1 := Within.cell (S := []) ((hO.cell (p := ⟨w.heap.size, 1, none⟩) hbl (by simp)).trans hc1) (by simp)
        have e1 := IntWalk.i64_in (-9223372036854775808 + age) ⟨by omega, by omega⟩
        have e2 := IntWalk.i64_in (now - age) ⟨by omega, by omega⟩
        have q1 : decide (now < -9223372036854775808 + age) = false := decide_eq_false (by omega)
        by_cases hlt : j < ts.length
        · obtain ⟨b, off, rfl, hb, hcell⟩ := hel j hlt
          have hyd := young_drop age now ts j hlt
          obtain ⟨t, ht⟩ : ∃ t, ts[j] = t := ⟨_, rfl⟩
          rw [ht] at hcell hyd
          have g2 := Within.cell (S := []) ((hO.cell (p := ⟨b, off + j, none⟩) (Nat.lt_of_lt_of_le hb hW0) (by simp)).trans ((HO.out.cell (p := ⟨b, off + j, none⟩) hb (by simp)).trans hcell)) (by simp)
          have q2 : decide ((j : Int) < (ts.length : Int)) = true := decide_eq_true (by omega)
          by_cases hg : t > now - age
          · have q3 : decide (t > now - age) = true := decide_eq_true hg
            rw [if_pos (by omega)] at hyd
            have HY : Hid (young age now ts = j) := by unfold Hid; rw [hy.out, hyd]; omega
            clear hyd ht hcell hy
            go_wp2_with fail
            refine wp_region_stages (C := fun W => ∃ p : Within [] wr, W = p.W) [([0, 1, 2, 3, 4, 5, 6, 7, 8, 9, 10, 11, 12, 13, 14, 15, 16, 17, 18, 19, 20, 21, 22], [])] [] (by kernel_rfl) (by kernel_rfl) (by intro c d u a w h; cases d <;> exact h) ⟨⟨_, (Only.refl _ _).drew⟩, rfl⟩ ?_
            refine stagesFirst3 ?_
            show wpQuiet _ _ _ _ [_, _, _, _, _, _, _, _, _, _, _, _, _, _, _, _, _, _, _, _, _, _, _] _
            repeat (go_big_quiet_step (fail))
            refine wpQuiet_nil ?_
            refine stagesDoneD ?_
            go_wp2
            go_ret
            exact ⟨by rw [HFl.out, HY.out]; exact ret_i (by omega), (HO.out.trans hO).drew⟩
          · have q3 : decide (t > now - age) = false := decide_eq_false hg
            rw [if_neg (by omega)] at hyd
            have HY : Hid (young age now ts = ((j + 1 : Nat) : Int) + young age now (ts.drop (j + 1))) := by unfold Hid; rw [hy.out, hyd]; omega
            clear hyd ht hcell hy
            go_wp2_with fail
            refine wp_region_stages (C := fun W => ∃ p : Within [] wr, W = p.W) [([0, 1, 2, 3, 4, 5, 6, 7, 8, 9, 10, 11, 12, 13, 14, 15, 16, 17, 18, 19, 20, 21, 22], [])] [] (by kernel_rfl) (by kernel_rfl) (by intro c d u a w h; cases d <;> exact h) ⟨⟨_, (Only.refl _ _).drew⟩, rfl⟩ ?_
            refine stagesFirst3 ?_
            show wpQuiet _ _ _ _ [_, _, _, _, _, _, _, _, _, _, _, _, _, _, _, _, _, _, _, _, _, _, _] _
            repeat (go_big_quiet_step (fail))
            refine wpQuiet_nil ?_
            refine stagesDoneD ?_
            go_wp2
            go_round
            case rel => exact ⟨j + 1, hlt, by simp, hO.drew, HY⟩
            case measure => simp [intOf]; omega
        · have hje : j = ts.length := by omega
          have q2 : decide ((j : Int) < (ts.length : Int)) = false := decide_eq_false (by omega)
          have HY : Hid (young age now ts = j) := by unfold Hid; rw [hy.out, hje, List.drop_length]; simp [young]
          clear hy hje
          go_wp2_with fail
          refine wp_region_stages (C := fun W => ∃ p : Within [] wr, W = p.W) [([0, 1, 2, 3, 4, 5, 6, 7, 8, 9, 10, 11, 12, 13, 14, 15, 16, 17, 18, 19, 20, 21, 22], [])] [] (by kernel_rfl) (by kernel_rfl) (by intro c d u a w h; cases d <;> exact h) ⟨⟨_, (Only.refl _ _).drew⟩, rfl⟩ ?_
          refine stagesFirst3 ?_
          show wpQuiet _ _ _ _ [_, _, _, _, _, _, _, _, _, _, _, _, _, _, _, _, _, _, _, _, _, _, _] _
          repeat (go_big_quiet_step (fail))
          refine wpQuiet_nil ?_
          refine stagesDoneD ?_
          go_wp2
          go_ret
          exact ⟨by rw [HFl.out, HY.out]; exact ret_i (by omega), (HO.out.trans hO).drew⟩
    · have q8 : decide (0 < age) = false := decide_eq_false q7
      have HFl : Hid (floorE ⟨mc, age, bf⟩ f now ts = min (max (max (max f 0) bf) ((ts.length : Int) - mc)) ts.length) := by unfold Hid floorE; dsimp only; rw [if_pos q5, if_neg q7]
      clear hel
      go_enter Tryz.func126, Tryz.ntmps126
      go_wp2
      go_ret
      exact ⟨by rw [HFl.out]; exact ret_i (by omega), (Only.refl _ _).alloc _⟩
  · have q6 : decide (0 < mc) = false := decide_eq_false q5
    by_cases q7 : 0 < age
    · have q8 : decide (0 < age) = true := decide_eq_true q7
      have HFl : Hid (floorE ⟨mc, age, bf⟩ f now ts = min (max (max (max f 0) bf) (young age now ts)) ts.length) := by unfold Hid floorE; dsimp only; rw [if_neg q5, if_pos q7]
      go_enter Tryz.func126, Tryz.ntmps126
      go_wp2_with fail
      rw [HW.out]
      go_loopw [10] (fun i wr => ∃ j : Nat, j ≤ ts.length ∧ i = .int .i64 j ∧ Only [] W0 wr ∧ Hid (young age now ts = j + young age now (ts.drop j))) (fun i _ => ts.length - (intOf i).toNat)
      case atStart => exact ⟨0, Nat.zero_le _, rfl, Only.refl _ _, Lib.hid (by simp)⟩
      case round =>
        obtain ⟨j, hj, rfl, hO, hy⟩ := hrel
        have g1 := Within.cell (S := []) ((hO.cell (p := ⟨w.heap.size, 1, none⟩) hbl (by simp)).trans hc1) (by simp)
        have e1 := IntWalk.i64_in (-9223372036854775808 + age) ⟨by omega, by omega⟩
        have e2 := IntWalk.i64_in (now - age) ⟨by omega, by omega⟩
        have q1 : decide (now < -9223372036854775808 + age) = false := decide_eq_false (by omega)
        by_cases hlt : j < ts.length
        · obtain ⟨b, off, rfl, hb, hcell⟩ := hel j hlt
          have hyd := young_drop age now ts j hlt
          obtain ⟨t, ht⟩ : ∃ t, ts[j] = t := ⟨_, rfl⟩
          rw [ht] at hcell hyd
          have g2 := Within.cell (S := []) ((hO.cell (p := ⟨b, off + j, none⟩) (Nat.lt_of_lt_of_le hb hW0) (by simp)).trans ((HO.out.cell (p := ⟨b, off + j, none⟩) hb (by simp)).trans hcell)) (by simp)
          have q2 : decide ((j : Int) < (ts.length : Int)) = true := decide_eq_true (by omega)
          by_cases hg : t > now - age
          · have q3 : decide (t > now - age) = true := decide_eq_true hg
            rw [if_pos (by omega)] at hyd
            have HY : Hid (young age now ts = j) := by unfold Hid; rw [hy.out, hyd]; omega
            clear hyd ht hcell hy
            go_wp2_with fail
            refine wp_region_stages (C := fun W => ∃ p : Within [] wr, W = p.W) [([0, 1, 2, 3, 4, 5, 6, 7, 8, 9, 10, 11, 12, 13, 14, 15, 16, 17, 18, 19, 20, 21, 22], [])] [] (by kernel_rfl) (by kernel_rfl) (by intro c d u a w h; cases d <;> exact h) ⟨⟨_, (Only.refl _ _).drew⟩, rfl⟩ ?_
            refine stagesFirst3 ?_
            show wpQuiet _ _ _ _ [_, _, _, _, _, _, _, _, _, _, _, _, _, _, _, _, _, _, _, _, _, _, _] _
            repeat (go_big_quiet_step (fail))
            refine wpQuiet_nil ?_
            refine stagesDoneD ?_
            go_wp2
            go_ret
            exact ⟨by rw [HFl.out, HY.out]; exact ret_i (by omega), (HO.out.trans hO).drew⟩
          · have q3 : decide (t > now - age) = false := decide_eq_false hg
            rw [if_neg (by omega)] at hyd
            have HY : Hid (young age now ts = ((j + 1 : Nat) : Int) + young age now (ts.drop (j + 1))) := by unfold Hid; rw [hy.out, hyd]; omega
            clear hyd ht hcell hy
            go_wp2_with fail
            refine wp_region_stages (C := fun W => ∃ p : Within [] wr, W = p.W) [([0, 1, 2, 3, 4, 5, 6, 7, 8, 9, 10, 11, 12, 13, 14, 15, 16, 17, 18, 19, 20, 21, 22], [])] [] (by kernel_rfl) (by kernel_rfl) (by intro c d u a w h; cases d <;> exact h) ⟨⟨_, (Only.refl _ _).drew⟩, rfl⟩ ?_
            refine stagesFirst3 ?_
            show wpQuiet _ _ _ _ [_, _, _, _, _, _, _, _, _, _, _, _, _, _, _, _, _, _, _, _, _, _, _] _
            repeat (go_big_quiet_step (fail))
            refine wpQuiet_nil ?_
            refine stagesDoneD ?_
            go_wp2
            go_round
            case rel => exact ⟨j + 1, hlt, by simp, hO.drew, HY⟩
            case measure => simp [intOf]; omega
        · have hje : j = ts.length := by omega
          have q2 : decide ((j : Int) < (ts.length : Int)) = false := decide_eq_false (by omega)
          have HY : Hid (young age now ts = j) := by unfold Hid; rw [hy.out, hje, List.drop_length]; simp [young]
          clear hy hje
          go_wp2_with fail
          refine wp_region_stages (C := fun W => ∃ p : Within [] wr, W = p.W) [([0, 1, 2, 3, 4, 5, 6, 7, 8, 9, 10, 11, 12, 13, 14, 15, 16, 17, 18, 19, 20, 21, 22], [])] [] (by kernel_rfl) (by kernel_rfl) (by intro c d u a w h; cases d <;> exact h) ⟨⟨_, (Only.refl _ _).drew⟩, rfl⟩ ?_
          refine stagesFirst3 ?_
          show wpQuiet _ _ _ _ [_, _, _, _, _, _, _, _, _, _, _, _, _, _, _, _, _, _, _, _, _, _, _] _
          repeat (go_big_quiet_step (fail))
          refine wpQuiet_nil ?_
          refine stagesDoneD ?_
          go_wp2
          go_ret
          exact ⟨by rw [HFl.out, HY.out]; exact ret_i (by omega), (HO.out.trans hO).drew⟩
    · have q8 : decide (0 < age) = false := decide_eq_false q7
      have HFl : Hid (floorE ⟨mc, age, bf⟩ f now ts = min (max (max f 0) bf) ts.length) := by unfold Hid floorE; dsimp only; rw [if_neg q5, if_neg q7]
      clear hel
      go_enter Tryz.func126, Tryz.ntmps126
      go_wp2
      go_ret
      exact ⟨by rw [HFl.out]; exact ret_i (by omega), (Only.refl _ _).alloc _⟩
end Go.Proofs.YtikboecmcbcghaaGreat
/- Contracts of the document's state: Floor, put, keep. -/
set_option linter.unusedVariables false
set_option linter.unusedSimpArgs false
namespace Go.Proofs.YtikboecmcbcghaaGreat
open Go Go.RowKit Go.Sort
theorem appI {W : World} {base : Nat} {v : Value} {l : List Int} (hown : W.ownsRow base 3 1 v l.length (ints l)) (hb : base ≤ W.heap.size) (hl : l.length ≤ 1000000) (x : Int) :
    ∃ A cap w', (Builtin.append_ #[80, 80] 80 #[v, .slice (some ⟨W.heap.size, 0, none⟩) 1 1]).run Tryz.prog (W.alloc (.cells #[.int .i64 x] 3)) = .ok (.slice A (l.length + 1) cap) w' ∧ w'.ownsRow base 3 1 (.slice A (l.length + 1) cap) (l ++ [x]).length (ints (l ++ [x])) ∧ Only v.ownBlock.toList (W.alloc (.cells #[.int .i64 x] 3)) w' := by
  obtain ⟨A, cap, w', h1, h2, h3, _⟩ := run_app (P := Tryz.prog) (w := W.alloc (.cells #[.int .i64 x] 3)) 80 80 base 3 (.int .i64 0) 1 8 Tryz.underlying80 infoI rfl (by decide) (hown.alloc _) (slc_new1 (w := W) (e := 3) (size := 1) (cs := ints [x]) rfl) (by intro u hu; simp [ints] at hu; subst hu; rfl) (by omega) (by unfold maxLen; omega) (Nat.le_trans hb (by simp))
  refine ⟨A, cap, w', h1, ?_, h3⟩
  rw [List.length_append]
  simpa [ints] using h2
section
variable {a w : World} {H : List Nat} {rb : Nat} {r : RS}
set_option maxRecDepth 100000 in
set_option maxHeartbeats 2000000 in
theorem dfloor_any (h : HasD a w H rb r) (n : ByteArray) (hl : r.l.length ≤ 1000000) (hm : (r.get n).mt.ok = true) (hk : 0 ≤ (r.get n).kept ∧ (r.get n).kept ≤ 1000000000) (hn : 0 ≤ r.now ∧ r.now ≤ 1099511627776) :
    Calls Tryz.prog 58 #[.pointer (some ⟨rb, 0, none⟩), .string n] w fun e w' => e = .returned (.int .i64 (r.floor n)) ∧ Only [] w w' := by
  have HOf := Lib.hid (dof_any h hl n)
  have HGt := Lib.hid fun (W : World) (k : Only [] w W) => dget_any (h.keep0 k) n
  have hofl : (r.of n).length ≤ 1000000 := Nat.le_trans (List.length_filter_le _ _) hl
  obtain ⟨⟨vl, vs, hA, rfl⟩, -, -⟩ := h
  have f2 : w.cell? ⟨rb, 2, none⟩ = some (.int .i64 r.now) := hA.blk.cell 2
  have hrb := hA.blk.lt
  obtain ⟨L, hL⟩ : ∃ L, r.of n = L := ⟨_, rfl⟩
  obtain ⟨x, hx⟩ : ∃ x, r.get n = x := ⟨_, rfl⟩
  have hfl : r.floor n = floorE x.mt x.kept r.now (L.map (·.time)) := by unfold RS.floor; rw [hL, hx]
  rw [hfl]
  rw [hL] at HOf hofl
  rw [hx] at HGt hm hk
  unfold DStr.val at HGt
  have HFp := Lib.hid fun (W : World) (v : Value) (hv : Slc W 1 v (L.map (·.time)).length (ints (L.map (·.time)))) => dfloorP_any (w := W) x.mt x.kept r.now hm (by omega) hn hv (by rw [List.length_map]; exact hofl)
  obtain ⟨nw, hnw⟩ : ∃ nw, r.now = nw := ⟨_, rfl⟩
  rw [hnw] at HFp f2 ⊢
  have htl : (L.map (·.time)).length = L.length := List.length_map ..
  clear hA hL hx hfl hm hk hn hl hnw
  go_enter Tryz.func58, Tryz.ntmps58
  go_wp2_with fail
  refine HOf.out.mono ?_
  rintro e1 w1 ⟨v1, rfl, hown1, k1⟩
  obtain ⟨A1, c1, rfl, -, -, hel⟩ := (Slc.of_own hown1).1.openE StoredR.cells (fun _ => rfl)
  clear hown1
  go_wp2_with fail
  go_loopw [6, 7] (fun o i wr => ∃ (k : Nat) (A : Option Addr) (cap : Nat), k ≤ L.length ∧ i = .int .i64 k ∧ o = .slice A k cap ∧ wr.ownsRow w1.heap.size 3 1 (.slice A k cap) k (ints ((L.map (·.time)).take k)) ∧ Only [] w1 wr) (fun _ i _ => L.length - (intOf i).toNat)
  case atStart => exact ⟨0, none, 0, Nat.zero_le _, rfl, rfl, by rw [List.take_zero]; exact World.ownsRow_nil _ _ _ _, Only.refl _ _⟩
  case round =>
    obtain ⟨k, A, cap, hk, rfl, rfl, hown, hO⟩ := hrel
    by_cases hlt : k < L.length
    · obtain ⟨b, off, rfl, hbb, hcc⟩ := hel k hlt
      have htk : (L.map (·.time)).take (k + 1) = (L.map (·.time)).take k ++ [L[k].time] := by rw [List.take_succ_eq_append_getElem (by simpa using hlt), List.getElem_map]
      obtain ⟨t, ht⟩ : ∃ t, L[k].time = t := ⟨_, rfl⟩
      have hc7 : w1.cell? ⟨b, off + k * 8 + 7, none⟩ = some (.int .i64 t) := by rw [← ht]; exact hcc 7 (by omega)
      have c7 : wr.cell? ⟨b, off + k * 8 + 7, none⟩ = some (.int .i64 t) := (hO.cell (p := ⟨b, off + k * 8 + 7, none⟩) hbb (by simp)).trans hc7
      rw [ht] at htk
      have hkl : ((L.map (·.time)).take k).length = k := by rw [List.length_take, List.length_map]; omega
      obtain ⟨A4, c4', w4, hr4, hown4, hO4⟩ := appI (W := wr) (base := w1.heap.size) (v := .slice A k cap) (l := (L.map (·.time)).take k) (by rw [hkl]; exact hown) hO.size (by rw [hkl]; omega) t
      have hkl2 : ((L.map (·.time)).take k ++ [t]).length = k + 1 := by rw [List.length_append, hkl]; rfl
      rw [hkl] at hr4
      rw [hkl, hkl2, ← htk] at hown4
      have HR4 := Lib.hid hr4
      have HW4 := Lib.hid hown4
      have hb3 := fun g hg => (World.ownsRow.lt hown g hg).1
      have hO5 : Only [] w1 w4 := (hO.alloc _).step hO4 (fun g hg => .inr (by have := hb3 g (by simpa using hg); omega))
      have HO5 := Lib.hid hO5
      clear hcc hr4 hown4 htk ht hc7 hkl hkl2 hO4 hO5 hb3
      go_wp2_with (at_builtin; refine Lib.wpList_append_run _ rfl (.tmp 18) (.tmp 24) 80 80 rfl _ _ rfl rfl _ _ HR4.out ?_)
      go_round
      case rel => exact ⟨k + 1, A4, c4', hlt, by simp, rfl, HW4.out, HO5.out⟩
      case measure => simp [intOf]; omega
    · have hkl : k = L.length := by omega
      subst hkl
      rw [← htl, List.take_length] at hown
      have hts := (Slc.of_own hown).1
      rw [htl] at hts
      have HTs := Lib.hid hts
      have hwr : Only [] w wr := k1.trans hO
      clear hown hel hts
      go_wp2_with fail
      refine (HGt.out _ hwr).mono ?_
      rintro e2 w2 ⟨rfl, k2⟩
      have hw2 : Only [] w w2 := hwr.trans k2
      obtain ⟨W3, hW3⟩ : ∃ W3, w2.alloc (.cells #[.string x.name, .int .i64 x.mt.maxCount, .int .i64 x.mt.maxAge, .int .i64 x.mt.before, .int .i64 x.kept, .bool x.deleted] 99) = W3 := ⟨_, rfl⟩
      have hB3 : Blk W3 w2.heap.size 99 #[.string x.name, .int .i64 x.mt.maxCount, .int .i64 x.mt.maxAge, .int .i64 x.mt.before, .int .i64 x.kept, .bool x.deleted] := by rw [← hW3]; exact Blk.new _ _ _
      have hw3 : Only [] w W3 := by rw [← hW3]; exact hw2.alloc _
      have hwr3 : Only [] wr W3 := by rw [← hW3]; exact k2.alloc _
      have d1 := Within.cell (S := []) (show W3.cell? ⟨w2.heap.size, 1, none⟩ = some (.int .i64 x.mt.maxCount) from hB3.cell 1) (by simp)
      have d2 := Within.cell (S := []) (show W3.cell? ⟨w2.heap.size, 2, none⟩ = some (.int .i64 x.mt.maxAge) from hB3.cell 2) (by simp)
      have d3 := Within.cell (S := []) (show W3.cell? ⟨w2.heap.size, 3, none⟩ = some (.int .i64 x.mt.before) from hB3.cell 3) (by simp)
      have d4 := Within.cell (S := []) (show W3.cell? ⟨w2.heap.size, 4, none⟩ = some (.int .i64 x.kept) from hB3.cell 4) (by simp)
      have d6 := Within.cell (S := []) ((hw3.cell (p := ⟨rb, 2, none⟩) hrb (by simp)).trans f2) (by simp)
      go_wp2_with fail
      refine wp_region_in [] [0, 1, 2, 3, 4, 5, 6, 7, 8] [9] [10] (by kernel_rfl) (by kernel_rfl) (by intro c d u a w h; cases d <;> exact h) ?_
      show wpQuiet _ _ _ _ [_, _, _, _, _, _, _, _, _] _
      repeat (go_big_quiet_step (fail))
      refine wpQuiet_nil ?_
      show wpList _ _ _ [_] _ _
      have kd : Only [] W3 W3.drew := (Only.refl _ _).drew
      go_wp2_with (go_at_call 126; refine (HFp.out _ _ (by rw [htl]; exact HTs.out.only0 (hwr3.trans kd))).mono ?_; rintro e3 w4 ⟨rfl, k4⟩)
      refine check_of (S := []) (kd.trans k4) ?_
      show wpList _ _ _ [_] _ _
      go_wp2
      go_ret
      exact ⟨rfl, hw3.trans (kd.trans k4)⟩
end
end Go.Proofs.YtikboecmcbcghaaGreat
/- Contract of the document's Seen. -/
set_option linter.unusedVariables false
set_option linter.unusedSimpArgs false
namespace Go.Proofs.YtikboecmcbcghaaGreat
open Go Go.RowKit Go.Sort
/-- What the contracts ask of the document's state. -/
structure RS.Fine (r : RS) : Prop where
  few : r.l.length ≤ 1000000
  mt : ∀ n, (r.get n).mt.ok = true
  kept : ∀ n, 0 ≤ (r.get n).kept ∧ (r.get n).kept ≤ 1000000000
  now : 0 ≤ r.now ∧ r.now ≤ 1099511627776
theorem filt_succ (p : StoredR → Bool) (l : List StoredR) {k : Nat} (h : k < l.length) : (l.take (k + 1)).filter p = (l.take k).filter p ++ if p l[k] = true then [l[k]] else [] := by
  rw [List.take_succ_eq_append_getElem h, List.filter_append]
  congr 1
  by_cases q : p l[k] = true
  · simp [q]
  · simp [q]
theorem fldD3 (W : World) (a b c d e f : Value) : Sem.run Tryz.prog (Instr.field 99 (.agg #[a, b, c, d, e, f]) 3) W = .ok f W := by kernel_rfl
section
variable {a w : World} {H : List Nat} {rb : Nat} {r : RS}
set_option maxRecDepth 100000 in
set_option maxHeartbeats 2000000 in
theorem dseen_any (h : HasD a w H rb r) (hf : r.Fine) (n : ByteArray) :
    Calls Tryz.prog 21 #[.pointer (some ⟨rb, 0, none⟩), .string n] w fun e w' => ∃ v', e = .returned v' ∧ w'.ownsRow w.heap.size 66 8 v' (r.seenD n).length ((r.seenD n).flatMap StoredR.cells) ∧ Only [] w w' := by
  have HGt := Lib.hid fun (m : ByteArray) (W : World) (k : Only [] w W) => dget_any (h.keep0 k) m
  have HFl := Lib.hid fun (m : ByteArray) (W : World) (k : Only [] w W) => dfloor_any (h.keep0 k) m hf.few (hf.mt m) (hf.kept m) hf.now
  have hl := hf.few
  obtain ⟨⟨vl, vs, hA, rfl⟩, -, -⟩ := h
  obtain ⟨Al, cl, As, cs, rfl, rfl, -, hcm1, -, -, hel1, -⟩ := hA.open
  unfold maxLen at hcm1
  have f0 : w.cell? ⟨rb, 0, none⟩ = some (.slice Al r.l.length cl) := hA.blk.cell 0
  have hrb := hA.blk.lt
  have hsf := stF
  have hfd3 := fldD3
  obtain ⟨p, hp⟩ : ∃ p, r.seenP n = p := ⟨_, rfl⟩
  have HP := Lib.hid hp
  obtain ⟨l, hle⟩ : ∃ l, r.l = l := ⟨_, rfl⟩
  have hof : r.seenD n = l.filter p := by rw [← hle, ← hp]; rfl
  rw [hof]
  rw [hle] at hel1 f0 hl
  clear hA hof hle hp hf
  go_enter Tryz.func21, Tryz.ntmps21
  go_wp2
  go_loopw [5, 6] (fun o i wr => ∃ (k : Nat) (A : Option Addr) (cap : Nat), k ≤ l.length ∧ i = .int .i64 k ∧ o = .slice A ((l.take k).filter p).length cap ∧ wr.ownsRow w.heap.size 66 8 (.slice A ((l.take k).filter p).length cap) ((l.take k).filter p).length (((l.take k).filter p).flatMap StoredR.cells) ∧ Only [] w wr) (fun _ i _ => l.length - (intOf i).toNat)
  case atStart => exact ⟨0, none, 0, Nat.zero_le _, rfl, rfl, World.ownsRow_nil _ _ _ _, Only.refl _ _⟩
  case round =>
    obtain ⟨k, A, cap, hk, rfl, rfl, hown, hO⟩ := hrel
    have g0 : wr.cell? ⟨rb, 0, none⟩ = some (.slice Al l.length cl) := (hO.cell hrb (by simp)).trans f0
    have hfew : ((l.take k).filter p).length ≤ k := Nat.le_trans (List.length_filter_le _ _) (by rw [List.length_take]; omega)
    by_cases hlt : k < l.length
    · obtain ⟨b, off, rfl, hbb, hcc⟩ := hel1 k hlt
      have hnx := filt_succ p l hlt
      obtain ⟨x, hx⟩ : ∃ x, x = l[k] := ⟨_, rfl⟩
      rw [← hx] at hcc hnx
      have c0 : wr.cell? ⟨b, off + k * 8, none⟩ = some (.int .i64 x.ev.id) := (hO.cell hbb (by simp)).trans (hcc 0 (by omega))
      have c1 : wr.cell? ⟨b, off + k * 8 + 1, none⟩ = some (.string x.ev.type) := (hO.cell hbb (by simp)).trans (hcc 1 (by omega))
      have c2 : wr.cell? ⟨b, off + k * 8 + 2, none⟩ = some (.string x.ev.data) := (hO.cell hbb (by simp)).trans (hcc 2 (by omega))
      have c3 : wr.cell? ⟨b, off + k * 8 + 3, none⟩ = some (.float .f64 x.ev.value) := (hO.cell hbb (by simp)).trans (hcc 3 (by omega))
      have c4 : wr.cell? ⟨b, off + k * 8 + 4, none⟩ = some (.string x.stream) := (hO.cell hbb (by simp)).trans (hcc 4 (by omega))
      have c5 : wr.cell? ⟨b, off + k * 8 + 5, none⟩ = some (.int .i64 x.version) := (hO.cell hbb (by simp)).trans (hcc 5 (by omega))
      have c6 : wr.cell? ⟨b, off + k * 8 + 6, none⟩ = some (.int .i64 x.position) := (hO.cell hbb (by simp)).trans (hcc 6 (by omega))
      have c7 : wr.cell? ⟨b, off + k * 8 + 7, none⟩ = some (.int .i64 x.time) := (hO.cell hbb (by simp)).trans (hcc 7 (by omega))
      obtain ⟨L, hL⟩ : ∃ L, L = (l.take k).filter p := ⟨_, rfl⟩
      rw [← hL] at hown hfew hnx ⊢
      clear hcc hx hel1 hL
      obtain ⟨wb, hwb⟩ : ∃ W, W = wr.alloc (.cells #[.int .i64 x.ev.id, .string x.ev.type, .string x.ev.data, .float .f64 x.ev.value, .string x.stream, .int .i64 x.version, .int .i64 x.position, .int .i64 x.time] 66) := ⟨_, rfl⟩
      have hBb : Blk wb wr.heap.size 66 #[.int .i64 x.ev.id, .string x.ev.type, .string x.ev.data, .float .f64 x.ev.value, .string x.stream, .int .i64 x.version, .int .i64 x.position, .int .i64 x.time] := by rw [hwb]; exact Blk.new _ _ _
      have krb : Only [] wr wb := by rw [hwb]; exact (Only.refl _ _).alloc _
      have HWb := Lib.hid hwb
      have hOb : Only [] w wb := hO.trans krb
      have hownb := own_only hown krb (by simp)
      have S4 := Within.cell (S := []) (show wb.cell? ⟨wr.heap.size, 4, none⟩ = some (.string x.stream) from hBb.cell 4) (by simp)
      have S5 := Within.cell (S := []) (show wb.cell? ⟨wr.heap.size, 5, none⟩ = some (.int .i64 x.version) from hBb.cell 5) (by simp)
      have kd : Only [] wb wb.drew := (Only.refl _ _).drew
      have HG := Lib.hid (HGt.out x.stream)
      have HF := Lib.hid (HFl.out x.stream)
      unfold DStr.val at HG
      have hpx : p x = ((decide (n.toList = []) || decide (x.stream = n)) && !(r.get x.stream).deleted && decide (r.floor x.stream ≤ x.version)) := by rw [← HP.out]; rfl
      obtain ⟨de, hde⟩ : ∃ d, (r.get x.stream).deleted = d := ⟨_, rfl⟩
      obtain ⟨fl, hfl⟩ : ∃ f, r.floor x.stream = f := ⟨_, rfl⟩
      rw [hde] at hpx HG
      rw [hfl] at hpx HF
      clear hwb hde hfl
      by_cases hn : n.toList = []
      · have hcond : (decide (n.toList = []) || decide (x.stream = n)) = true := by simp [hn]
        have e1 : (n.toList == ([] : List UInt8)) = true := by simp [hn]
        have hpq : p x = (!de && decide (fl ≤ x.version)) := by rw [hpx]; simp [hcond]
        clear hpx
        cases de with
        | true =>
          rw [hpq, if_neg (by simp), List.append_nil] at hnx
          have HNX := Lib.hid hnx
          clear hnx hpq
          go_wp2_with fail
          rw [← HWb.out]
          refine wp_region_stages (C := fun W => ∃ p : Within [] wb, W = p.W) [([0, 1, 2, 3, 4, 5, 6, 7, 8, 9, 10, 11], [12, 13]), ([14, 15, 16, 17, 18, 19, 20, 21], [22]), ([23, 24], [])] [] (by kernel_rfl) (by kernel_rfl) (by intro c d u a w h; cases d <;> exact h) ⟨⟨_, (Only.refl _ _).drew⟩, rfl⟩ ?_
          refine stagesFirst ?_
          show wpQuiet _ _ _ _ [_, _, _, _, _, _, _, _, _, _, _, _] _
          repeat (go_big_quiet_step (fail))
          refine wpQuiet_nil ?_
          show wpList _ _ _ [_] _ _
          go_wp2_with (go_at_call 44; refine (HG.out _ (hOb.trans kd)).mono ?_; rintro e w9 ⟨rfl, ho9⟩)
          refine check_of (S := []) (kd.trans ho9) ?_
          show wpList _ _ _ [_] _ _
          go_wp2
          refine check_of (S := []) (kd.trans ho9) ?_
          refine stagesNext ?_
          show wpQuiet _ _ _ _ [_, _, _, _, _, _, _, _] _
          try go_frame
          repeat (go_big_quiet_step (fail))
          refine wpQuiet_nil ?_
          show wpList _ _ _ [_] _ _
          go_wp2
          refine check_of (S := []) (kd.trans ho9) ?_
          refine stagesNext ?_
          show wpQuiet _ _ _ _ [_, _] _
          try go_frame
          repeat (go_big_quiet_step (fail))
          refine wpQuiet_nil ?_
          refine stagesDoneD ?_
          go_wp2
          go_round
          case rel =>
            refine ⟨k + 1, A, cap, hlt, by simp, ?_, ?_, hOb.trans (kd.trans ho9)⟩
            · rw [HNX.out]
            · rw [HNX.out]
              exact own_only hownb (kd.trans ho9) (by simp)
          case measure => simp [intOf]; omega
        | false =>
          by_cases hv : fl ≤ x.version
          · rw [hpq, if_pos (by simp [hv])] at hnx
            have HNX := Lib.hid hnx
            clear hnx hpq
            go_wp2_with fail
            rw [← HWb.out]
            refine wp_region_stages (C := fun W => ∃ p : Within [] wb, W = p.W) [([0, 1, 2, 3, 4, 5, 6, 7, 8, 9, 10, 11], [12, 13]), ([14, 15, 16, 17, 18, 19, 20, 21], [22]), ([23, 24], [])] [] (by kernel_rfl) (by kernel_rfl) (by intro c d u a w h; cases d <;> exact h) ⟨⟨_, (Only.refl _ _).drew⟩, rfl⟩ ?_
            refine stagesFirst ?_
            show wpQuiet _ _ _ _ [_, _, _, _, _, _, _, _, _, _, _, _] _
            repeat (go_big_quiet_step (fail))
            refine wpQuiet_nil ?_
            show wpList _ _ _ [_] _ _
            go_wp2_with (go_at_call 44; refine (HG.out _ (hOb.trans kd)).mono ?_; rintro e w9 ⟨rfl, ho9⟩)
            refine check_of (S := []) (kd.trans ho9) ?_
            show wpList _ _ _ [_] _ _
            go_wp2
            refine check_of (S := []) (kd.trans ho9) ?_
            refine stagesNext ?_
            show wpQuiet _ _ _ _ [_, _, _, _, _, _, _, _] _
            try go_frame
            repeat (go_big_quiet_step (fail))
            refine wpQuiet_nil ?_
            show wpList _ _ _ [_] _ _
            go_wp2_with (go_at_call 58; refine (HF.out _ (hOb.trans (kd.trans ho9))).mono ?_; rintro e w10 ⟨rfl, ho10⟩)
            refine check_of (S := []) (kd.trans (ho9.trans ho10)) ?_
            refine stagesNext ?_
            show wpQuiet _ _ _ _ [_, _] _
            try go_frame
            repeat (go_big_quiet_step (fail))
            refine wpQuiet_nil ?_
            refine stagesDoneD ?_
            obtain ⟨A4, c4', w4, hr4, hown4, hO4⟩ := app8 (W := w10) (base := w.heap.size) (own_only hownb (kd.trans (ho9.trans ho10)) (by simp)) (hOb.trans (kd.trans (ho9.trans ho10))).size (by omega) x
            have HR4 := Lib.hid hr4
            have hBx := (kd.trans (ho9.trans ho10)).blk hBb (by simp)
            have b0 : w10.cell? ⟨wr.heap.size, 0, none⟩ = some (.int .i64 x.ev.id) := hBx.cell 0
            have b1 : w10.cell? ⟨wr.heap.size, 1, none⟩ = some (.string x.ev.type) := hBx.cell 1
            have b2 : w10.cell? ⟨wr.heap.size, 2, none⟩ = some (.string x.ev.data) := hBx.cell 2
            have b3 : w10.cell? ⟨wr.heap.size, 3, none⟩ = some (.float .f64 x.ev.value) := hBx.cell 3
            have b4 : w10.cell? ⟨wr.heap.size, 4, none⟩ = some (.string x.stream) := hBx.cell 4
            have b5 : w10.cell? ⟨wr.heap.size, 5, none⟩ = some (.int .i64 x.version) := hBx.cell 5
            have b6 : w10.cell? ⟨wr.heap.size, 6, none⟩ = some (.int .i64 x.position) := hBx.cell 6
            have b7 : w10.cell? ⟨wr.heap.size, 7, none⟩ = some (.int .i64 x.time) := hBx.cell 7
            clear hr4
            go_wp2_with (at_builtin; refine Lib.wpList_append_run _ rfl (.tmp 49) (.tmp 51) 28 28 rfl _ _ rfl rfl _ _ HR4.out ?_)
            have hb3 := fun g hg => (World.ownsRow.lt hown g hg).1
            have hO5 : Only [] w w4 := ((hOb.trans (kd.trans (ho9.trans ho10))).alloc _).step hO4 (fun g hg => .inr (by have := hb3 g (by simpa using hg); omega))
            go_round
            case rel =>
              refine ⟨k + 1, A4, c4', hlt, by simp, ?_, ?_, hO5⟩
              · rw [HNX.out, List.length_append]
                rfl
              · rw [HNX.out]
                simpa using hown4
            case measure => simp [intOf]; omega
          · rw [hpq, if_neg (by simp [hv]), List.append_nil] at hnx
            have HNX := Lib.hid hnx
            clear hnx hpq
            go_wp2_with fail
            rw [← HWb.out]
            refine wp_region_stages (C := fun W => ∃ p : Within [] wb, W = p.W) [([0, 1, 2, 3, 4, 5, 6, 7, 8, 9, 10, 11], [12, 13]), ([14, 15, 16, 17, 18, 19, 20, 21], [22]), ([23, 24], [])] [] (by kernel_rfl) (by kernel_rfl) (by intro c d u a w h; cases d <;> exact h) ⟨⟨_, (Only.refl _ _).drew⟩, rfl⟩ ?_
            refine stagesFirst ?_
            show wpQuiet _ _ _ _ [_, _, _, _, _, _, _, _, _, _, _, _] _
            repeat (go_big_quiet_step (fail))
            refine wpQuiet_nil ?_
            show wpList _ _ _ [_] _ _
            go_wp2_with (go_at_call 44; refine (HG.out _ (hOb.trans kd)).mono ?_; rintro e w9 ⟨rfl, ho9⟩)
            refine check_of (S := []) (kd.trans ho9) ?_
            show wpList _ _ _ [_] _ _
            go_wp2
            refine check_of (S := []) (kd.trans ho9) ?_
            refine stagesNext ?_
            show wpQuiet _ _ _ _ [_, _, _, _, _, _, _, _] _
            try go_frame
            repeat (go_big_quiet_step (fail))
            refine wpQuiet_nil ?_
            show wpList _ _ _ [_] _ _
            go_wp2_with (go_at_call 58; refine (HF.out _ (hOb.trans (kd.trans ho9))).mono ?_; rintro e w10 ⟨rfl, ho10⟩)
            refine check_of (S := []) (kd.trans (ho9.trans ho10)) ?_
            refine stagesNext ?_
            show wpQuiet _ _ _ _ [_, _] _
            try go_frame
            repeat (go_big_quiet_step (fail))
            refine wpQuiet_nil ?_
            refine stagesDoneD ?_
            go_wp2
            go_round
            case rel =>
              refine ⟨k + 1, A, cap, hlt, by simp, ?_, ?_, hOb.trans (kd.trans (ho9.trans ho10))⟩
              · rw [HNX.out]
              · rw [HNX.out]
                exact own_only hownb (kd.trans (ho9.trans ho10)) (by simp)
            case measure => simp [intOf]; omega
      · by_cases he : x.stream = n
        · have hcond : (decide (n.toList = []) || decide (x.stream = n)) = true := by simp [he]
          have e1 : (n.toList == ([] : List UInt8)) = false := by simpa using hn
          have he2 := eqD_t he
          clear he
          have hpq : p x = (!de && decide (fl ≤ x.version)) := by rw [hpx]; simp [hcond]
          clear hpx
          cases de with
          | true =>
            rw [hpq, if_neg (by simp), List.append_nil] at hnx
            have HNX := Lib.hid hnx
            clear hnx hpq
            go_wp2_with fail
            rw [← HWb.out]
            refine wp_region_stages (C := fun W => ∃ p : Within [] wb, W = p.W) [([0, 1, 2, 3, 4, 5, 6, 7, 8, 9, 10, 11], [12, 13]), ([14, 15, 16, 17, 18, 19, 20, 21], [22]), ([23, 24], [])] [] (by kernel_rfl) (by kernel_rfl) (by intro c d u a w h; cases d <;> exact h) ⟨⟨_, (Only.refl _ _).drew⟩, rfl⟩ ?_
            refine stagesFirst ?_
            show wpQuiet _ _ _ _ [_, _, _, _, _, _, _, _, _, _, _, _] _
            repeat (go_big_quiet_step (fail))
            refine wpQuiet_nil ?_
            show wpList _ _ _ [_] _ _
            go_wp2_with (go_at_call 44; refine (HG.out _ (hOb.trans kd)).mono ?_; rintro e w9 ⟨rfl, ho9⟩)
            refine check_of (S := []) (kd.trans ho9) ?_
            show wpList _ _ _ [_] _ _
            go_wp2
            refine check_of (S := []) (kd.trans ho9) ?_
            refine stagesNext ?_
            show wpQuiet _ _ _ _ [_, _, _, _, _, _, _, _] _
            try go_frame
            repeat (go_big_quiet_step (fail))
            refine wpQuiet_nil ?_
            show wpList _ _ _ [_] _ _
            go_wp2
            refine check_of (S := []) (kd.trans ho9) ?_
            refine stagesNext ?_
            show wpQuiet _ _ _ _ [_, _] _
            try go_frame
            repeat (go_big_quiet_step (fail))
            refine wpQuiet_nil ?_
            refine stagesDoneD ?_
            go_wp2
            go_round
            case rel =>
              refine ⟨k + 1, A, cap, hlt, by simp, ?_, ?_, hOb.trans (kd.trans ho9)⟩
              · rw [HNX.out]
              · rw [HNX.out]
                exact own_only hownb (kd.trans ho9) (by simp)
            case measure => simp [intOf]; omega
          | false =>
            by_cases hv : fl ≤ x.version
            · rw [hpq, if_pos (by simp [hv])] at hnx
              have HNX := Lib.hid hnx
              clear hnx hpq
              go_wp2_with fail
              rw [← HWb.out]
              refine wp_region_stages (C := fun W => ∃ p : Within [] wb, W = p.W) [([0, 1, 2, 3, 4, 5, 6, 7, 8, 9, 10, 11], [12, 13]), ([14, 15, 16, 17, 18, 19, 20, 21], [22]), ([23, 24], [])] [] (by kernel_rfl) (by kernel_rfl) (by intro c d u a w h; cases d <;> exact h) ⟨⟨_, (Only.refl _ _).drew⟩, rfl⟩ ?_
              refine stagesFirst ?_
              show wpQuiet _ _ _ _ [_, _, _, _, _, _, _, _, _, _, _, _] _
              repeat (go_big_quiet_step (fail))
              refine wpQuiet_nil ?_
              show wpList _ _ _ [_] _ _
              go_wp2_with (go_at_call 44; refine (HG.out _ (hOb.trans kd)).mono ?_; rintro e w9 ⟨rfl, ho9⟩)
              refine check_of (S := []) (kd.trans ho9) ?_
              show wpList _ _ _ [_] _ _
              go_wp2
              refine check_of (S := []) (kd.trans ho9) ?_
              refine stagesNext ?_
              show wpQuiet _ _ _ _ [_, _, _, _, _, _, _, _] _
              try go_frame
              repeat (go_big_quiet_step (fail))
              refine wpQuiet_nil ?_
              show wpList _ _ _ [_] _ _
              go_wp2_with (go_at_call 58; refine (HF.out _ (hOb.trans (kd.trans ho9))).mono ?_; rintro e w10 ⟨rfl, ho10⟩)
              refine check_of (S := []) (kd.trans (ho9.trans ho10)) ?_
              refine stagesNext ?_
              show wpQuiet _ _ _ _ [_, _] _
              try go_frame
              repeat (go_big_quiet_step (fail))
              refine wpQuiet_nil ?_
              refine stagesDoneD ?_
              obtain ⟨A4, c4', w4, hr4, hown4, hO4⟩ := app8 (W := w10) (base := w.heap.size) (own_only hownb (kd.trans (ho9.trans ho10)) (by simp)) (hOb.trans (kd.trans (ho9.trans ho10))).size (by omega) x
              have HR4 := Lib.hid hr4
              have hBx := (kd.trans (ho9.trans ho10)).blk hBb (by simp)
              have b0 : w10.cell? ⟨wr.heap.size, 0, none⟩ = some (.int .i64 x.ev.id) := hBx.cell 0
              have b1 : w10.cell? ⟨wr.heap.size, 1, none⟩ = some (.string x.ev.type) := hBx.cell 1
              have b2 : w10.cell? ⟨wr.heap.size, 2, none⟩ = some (.string x.ev.data) := hBx.cell 2
              have b3 : w10.cell? ⟨wr.heap.size, 3, none⟩ = some (.float .f64 x.ev.value) := hBx.cell 3
              have b4 : w10.cell? ⟨wr.heap.size, 4, none⟩ = some (.string x.stream) := hBx.cell 4
              have b5 : w10.cell? ⟨wr.heap.size, 5, none⟩ = some (.int .i64 x.version) := hBx.cell 5
              have b6 : w10.cell? ⟨wr.heap.size, 6, none⟩ = some (.int .i64 x.position) := hBx.cell 6
              have b7 : w10.cell? ⟨wr.heap.size, 7, none⟩ = some (.int .i64 x.time) := hBx.cell 7
              clear hr4
              go_wp2_with (at_builtin; refine Lib.wpList_append_run _ rfl (.tmp 49) (.tmp 51) 28 28 rfl _ _ rfl rfl _ _ HR4.out ?_)
              have hb3 := fun g hg => (World.ownsRow.lt hown g hg).1
              have hO5 : Only [] w w4 := ((hOb.trans (kd.trans (ho9.trans ho10))).alloc _).step hO4 (fun g hg => .inr (by have := hb3 g (by simpa using hg); omega))
              go_round
              case rel =>
                refine ⟨k + 1, A4, c4', hlt, by simp, ?_, ?_, hO5⟩
                · rw [HNX.out, List.length_append]
                  rfl
                · rw [HNX.out]
                  simpa using hown4
              case measure => simp [intOf]; omega
            · rw [hpq, if_neg (by simp [hv]), List.append_nil] at hnx
              have HNX := Lib.hid hnx
              clear hnx hpq
              go_wp2_with fail
              rw [← HWb.out]
              refine wp_region_stages (C := fun W => ∃ p : Within [] wb, W = p.W) [([0, 1, 2, 3, 4, 5, 6, 7, 8, 9, 10, 11], [12, 13]), ([14, 15, 16, 17, 18, 19, 20, 21], [22]), ([23, 24], [])] [] (by kernel_rfl) (by kernel_rfl) (by intro c d u a w h; cases d <;> exact h) ⟨⟨_, (Only.refl _ _).drew⟩, rfl⟩ ?_
              refine stagesFirst ?_
              show wpQuiet _ _ _ _ [_, _, _, _, _, _, _, _, _, _, _, _] _
              repeat (go_big_quiet_step (fail))
              refine wpQuiet_nil ?_
              show wpList _ _ _ [_] _ _
              go_wp2_with (go_at_call 44; refine (HG.out _ (hOb.trans kd)).mono ?_; rintro e w9 ⟨rfl, ho9⟩)
              refine check_of (S := []) (kd.trans ho9) ?_
              show wpList _ _ _ [_] _ _
              go_wp2
              refine check_of (S := []) (kd.trans ho9) ?_
              refine stagesNext ?_
              show wpQuiet _ _ _ _ [_, _, _, _, _, _, _, _] _
              try go_frame
              repeat (go_big_quiet_step (fail))
              refine wpQuiet_nil ?_
              show wpList _ _ _ [_] _ _
              go_wp2_with (go_at_call 58; refine (HF.out _ (hOb.trans (kd.trans ho9))).mono ?_; rintro e w10 ⟨rfl, ho10⟩)
              refine check_of (S := []) (kd.trans (ho9.trans ho10)) ?_
              refine stagesNext ?_
              show wpQuiet _ _ _ _ [_, _] _
              try go_frame
              repeat (go_big_quiet_step (fail))
              refine wpQuiet_nil ?_
              refine stagesDoneD ?_
              go_wp2
              go_round
              case rel =>
                refine ⟨k + 1, A, cap, hlt, by simp, ?_, ?_, hOb.trans (kd.trans (ho9.trans ho10))⟩
                · rw [HNX.out]
                · rw [HNX.out]
                  exact own_only hownb (kd.trans (ho9.trans ho10)) (by simp)
              case measure => simp [intOf]; omega
        · have hcond : p x = false := by rw [hpx]; simp [hn, he]
          have e1 : (n.toList == ([] : List UInt8)) = false := by simpa using hn
          have he2 := eqD_f he
          rw [hcond, if_neg (by simp), List.append_nil] at hnx
          have HNX := Lib.hid hnx
          clear hnx hcond hpx he
          go_wp2_with fail
          rw [← HWb.out]
          refine wp_region_stages (C := fun W => ∃ p : Within [] wb, W = p.W) [([0, 1, 2, 3, 4, 5, 6, 7, 8, 9, 10, 11], [12, 13]), ([14, 15, 16, 17, 18, 19, 20, 21], [22]), ([23, 24], [])] [] (by kernel_rfl) (by kernel_rfl) (by intro c d u a w h; cases d <;> exact h) ⟨⟨_, (Only.refl _ _).drew⟩, rfl⟩ ?_
          refine stagesFirst ?_
          show wpQuiet _ _ _ _ [_, _, _, _, _, _, _, _, _, _, _, _] _
          repeat (go_big_quiet_step (fail))
          refine wpQuiet_nil ?_
          show wpList _ _ _ [_] _ _
          go_wp2
          refine check_of (S := []) kd ?_
          show wpList _ _ _ [_] _ _
          go_wp2
          refine check_of (S := []) kd ?_
          refine stagesNext ?_
          show wpQuiet _ _ _ _ [_, _, _, _, _, _, _, _] _
          try go_frame
          repeat (go_big_quiet_step (fail))
          refine wpQuiet_nil ?_
          show wpList _ _ _ [_] _ _
          go_wp2
          refine check_of (S := []) kd ?_
          refine stagesNext ?_
          show wpQuiet _ _ _ _ [_, _] _
          try go_frame
          repeat (go_big_quiet_step (fail))
          refine wpQuiet_nil ?_
          refine stagesDoneD ?_
          go_wp2
          go_round
          case rel =>
            refine ⟨k + 1, A, cap, hlt, by simp, ?_, ?_, hOb.trans (kd)⟩
            · rw [HNX.out]
            · rw [HNX.out]
              exact own_only hownb (kd) (by simp)
          case measure => simp [intOf]; omega
    · have hkl : k = l.length := by omega
      subst hkl
      rw [List.take_length] at hown ⊢
      obtain ⟨L, hL⟩ : ∃ L, L = l.filter p := ⟨_, rfl⟩
      rw [← hL] at hown ⊢
      have HL := Lib.hid hL
      clear hel1 hL
      go_wp2
      go_ret
      refine ⟨_, rfl, ?_, hO⟩
      rw [← HL.out]
      exact hown
end
end Go.Proofs.YtikboecmcbcghaaGreat
/- Contract of the document's page, forward. -/
set_option linter.unusedVariables false
set_option linter.unusedSimpArgs false
namespace Go.Proofs.YtikboecmcbcghaaGreat
open Go Go.RowKit Go.Sort
theorem openK {w : World} {v : Value} {ks : List Int} (h : Slc w 1 v ks.length (ints ks)) : ∃ A cap, v = .slice A ks.length cap ∧ ks.length ≤ cap ∧ cap ≤ maxLen ∧ ∀ k (hk : k < ks.length), ∃ b off, A = some ⟨b, off, none⟩ ∧ b < w.heap.size ∧ w.cell? ⟨b, off + k, none⟩ = some (.int .i64 ks[k]) := by
  obtain ⟨A, cap, e, h1, h2, h3, h4⟩ := h
  refine ⟨A, cap, e, h2, h3, fun k hk => ?_⟩
  obtain ⟨b, off, rfl, hb, hc⟩ := h4 (by omega)
  refine ⟨b, off, rfl, hb, ?_⟩
  rw [hc k (by simpa [ints] using hk)]
  simp [ints, hk]
set_option maxRecDepth 100000 in
set_option maxHeartbeats 4000000 in
theorem dpage_err {w : World} {v kv : Value} {l : List StoredR} {key : StoredR → Int} {f n : Int} {back : Bool} (hw : wrongP f n = true) :
    Calls Tryz.prog 67 #[v, kv, .int .i64 f, .int .i64 n, .bool back] w (PageOut w key l f n (pageBy key l f n back)) := by
  have hR : pageBy key l f n back = (PageR.zero, 1) := by unfold pageBy; rw [hw]; rfl
  rw [hR]
  clear hR
  by_cases h1 : f < 0
  · clear hw
    go_enter Tryz.func67, Tryz.ntmps67
    go_wp2
    exact bodyPost_ret (v := .tuple #[.agg #[.slice none 0 0, .int .i64 0, .bool false], .int .i64 1]) (by simp [results, Tryz.results67, go_sem]) rfl ⟨_, rfl, World.ownsRow_nil _ _ _ _, (Only.refl [] w).alloc _⟩
  · by_cases h2 : n < 1
    · clear hw
      go_enter Tryz.func67, Tryz.ntmps67
      go_wp2
      exact bodyPost_ret (v := .tuple #[.agg #[.slice none 0 0, .int .i64 0, .bool false], .int .i64 1]) (by simp [results, Tryz.results67, go_sem]) rfl ⟨_, rfl, World.ownsRow_nil _ _ _ _, (Only.refl [] w).alloc _⟩
    · have h3 : n > 100 := by simp [wrongP] at hw; omega
      clear hw
      go_enter Tryz.func67, Tryz.ntmps67
      go_wp2
      exact bodyPost_ret (v := .tuple #[.agg #[.slice none 0 0, .int .i64 0, .bool false], .int .i64 1]) (by simp [results, Tryz.results67, go_sem]) rfl ⟨_, rfl, World.ownsRow_nil _ _ _ _, (Only.refl [] w).alloc _⟩
set_option maxRecDepth 100000 in
set_option maxHeartbeats 4000000 in
theorem dpage_fwd {w : World} {v kv : Value} {l : List StoredR} {key : StoredR → Int} {f n : Int} (hl : Slc w 8 v l.length (l.flatMap StoredR.cells)) (hkv : Slc w 1 kv (l.map key).length (ints (l.map key))) (hb : l.length ≤ 1000000) (hk : ∀ s ∈ l, 0 ≤ key s ∧ key s ≤ 1000000000) :
    Calls Tryz.prog 67 #[v, kv, .int .i64 f, .int .i64 n, .bool false] w (PageOut w key l f n (pageBy key l f n false)) := by
  cases hw : wrongP f n with
  | true => exact dpage_err hw
  | false =>
    obtain ⟨A, cap, rfl, hnc, hcm, hel⟩ := hl.openE StoredR.cells (fun _ => rfl)
    obtain ⟨B, kc, rfl, hkc1, hkc2, hke⟩ := openK hkv
    rw [List.length_map] at hkc1
    have hlm : (l.map key).length = l.length := List.length_map ..
    rw [hlm]
    unfold maxLen at hcm
    have hn : (1 ≤ n ∧ n ≤ 100) ∧ 0 ≤ f := by simp [wrongP] at hw; omega
    have hR : pageBy key l f n false = (fwdGo key f n l [] f, 0) := by unfold pageBy; rw [hw]; rfl
    rw [hR]
    clear hR hw hl hkv
    obtain ⟨R, hR⟩ : ∃ R, R = fwdGo key f n l [] f := ⟨_, rfl⟩
    rw [← hR]
    have HR := Lib.hid hR
    clear hR
    go_enter Tryz.func67, Tryz.ntmps67
    go_wp2
    go_loopw [13] (fun i wr => ∃ (k : Nat) (pv : Value) (acc : List StoredR) (nx : Int), k ≤ l.length ∧ acc.length ≤ k ∧ (acc.length : Int) ≤ n ∧ i = .int .i64 k ∧ Hid (R = fwdGo key f n (l.drop k) acc nx) ∧ PgAt w wr (w.heap.size + 1) pv acc nx) (fun i _ => l.length - (intOf i).toNat)
    case atStart =>
      refine ⟨0, .slice none 0 0, [], f, Nat.zero_le _, Nat.le_refl _, by simp; omega, rfl, HR, ((Only.refl [] w).alloc _).alloc _, ((Only.refl [] _).alloc _).blk (Blk.new w _ _) (by simp), ?_, World.ownsRow_nil _ _ _ _⟩
      have := Blk.new (w.alloc (.cells #[.slice none 0 0, .int .i64 0, .bool false] 60)) 60 #[.slice none 0 0, .int .i64 f, .bool true]
      simpa using this
    case round =>
      obtain ⟨k, pv, acc, nx, hkl, hak, han, rfl, HR, hP⟩ := hrel
      obtain ⟨Ap, capp, rfl, hap1, hap2⟩ := own_form hP.own
      have hbR := fun i => hP.blkR.cell i
      have hbRf := fun i => hP.blkR.free i
      have hbP := fun i => hP.blkP.cell i
      have hbPf := fun i => hP.blkP.free i
      by_cases hlt : k < l.length
      · obtain ⟨b, off, rfl, hbb, hcc⟩ := hel k hlt
        obtain ⟨b2, off2, rfl, hbb2, hkk⟩ := hke k (by rw [hlm]; exact hlt)
        rw [List.getElem_map] at hkk
        have hd := fwdGo_drop key f n l k hlt acc nx
        have hks := hk _ (List.getElem_mem hlt)
        obtain ⟨x, hs⟩ : ∃ x, x = l[k] := ⟨_, rfl⟩
        rw [← hs] at hd hcc hks hkk
        have q0 : wr.cell? ⟨b2, off2 + k, none⟩ = some (.int .i64 (key x)) := (hP.only.cell hbb2 (by simp)).trans hkk
        have hO := hP.only
        have c0 : wr.cell? ⟨b, off + k * 8, none⟩ = some (.int .i64 x.ev.id) := (hO.cell hbb (by simp)).trans (hcc 0 (by omega))
        have c1 : wr.cell? ⟨b, off + k * 8 + 1, none⟩ = some (.string x.ev.type) := (hO.cell hbb (by simp)).trans (hcc 1 (by omega))
        have c2 : wr.cell? ⟨b, off + k * 8 + 2, none⟩ = some (.string x.ev.data) := (hO.cell hbb (by simp)).trans (hcc 2 (by omega))
        have c3 : wr.cell? ⟨b, off + k * 8 + 3, none⟩ = some (.float .f64 x.ev.value) := (hO.cell hbb (by simp)).trans (hcc 3 (by omega))
        have c4 : wr.cell? ⟨b, off + k * 8 + 4, none⟩ = some (.string x.stream) := (hO.cell hbb (by simp)).trans (hcc 4 (by omega))
        have c5 : wr.cell? ⟨b, off + k * 8 + 5, none⟩ = some (.int .i64 x.version) := (hO.cell hbb (by simp)).trans (hcc 5 (by omega))
        have c6 : wr.cell? ⟨b, off + k * 8 + 6, none⟩ = some (.int .i64 x.position) := (hO.cell hbb (by simp)).trans (hcc 6 (by omega))
        have c7 : wr.cell? ⟨b, off + k * 8 + 7, none⟩ = some (.int .i64 x.time) := (hO.cell hbb (by simp)).trans (hcc 7 (by omega))
        obtain ⟨ky, hky⟩ : ∃ ky, ky = key x := ⟨_, rfl⟩
        have HKY := Lib.hid hky
        rw [← hky] at q0 hd hks
        have hsf := stF
        clear hcc hkk hky
        by_cases h1 : ky < f
        · have HN : Hid (R = fwdGo key f n (l.drop (k + 1)) acc nx) := by
            unfold Hid
            rw [HR.out, hd, if_pos h1]
          have HP := Lib.hid hP
          clear hd hP HR hs hel hke
          go_wp2
          go_round
          case rel => exact ⟨k + 1, _, acc, nx, hlt, by omega, han, by simp, HN, HP.out⟩
          case measure => simp [intOf]; omega
        · by_cases h2 : (acc.length : Int) = n
          · have HN : R = ⟨acc, nx, false⟩ := by
              rw [HR.out, hd, if_neg h1, if_pos h2]
            have h2b : n ≤ (acc.length : Int) := by omega
            subst HN
            have HP := Lib.hid hP
            have d3 := fun u v i => (((Only.refl [w.heap.size + 1] wr).setCell (p := ⟨w.heap.size + 1, u, none⟩) (.inl (by simp)) v).blk hP.blkR (by simp)).cell i
            have d4 := fun u v i => (((Only.refl [w.heap.size + 1] wr).setCell (p := ⟨w.heap.size + 1, u, none⟩) (.inl (by simp)) v).blk hP.blkR (by simp)).free i
            clear hd hP HR hs hel hke
            go_wp2
            refine bodyPost_ret (v := .tuple #[.agg #[.slice Ap acc.length capp, .int .i64 nx, .bool false], .int .i64 0]) (by simp [results, Tryz.results67, go_sem, d3]) rfl ⟨_, rfl, ?own, ?only⟩
            case own =>
              refine own_only HP.out.own (S := [w.heap.size, w.heap.size + 1]) ?_ (fun g hg => by have := HP.out.nown g hg; simp; omega)
              iterate 4 (refine Only.setCell ?_ (.inl (by simp)) _)
              exact Only.refl _ _
            case only =>
              iterate 4 (refine Only.setCell ?_ (.inr (by simp)) _)
              exact HP.out.only
          · have h2b : ¬ n ≤ (acc.length : Int) := by omega
            have HN : Hid (R = fwdGo key f n (l.drop (k + 1)) (acc ++ [x]) (ky + 1)) := by
              unfold Hid
              rw [HR.out, hd, if_neg h1, if_neg h2]
            have HP := Lib.hid hP
            have hkb : (ky < 9223372036854775807) := by omega
            have hakb : acc.length + 1 ≤ 1000001 := by omega
            have hrw := HP.out.only.size
            clear hd hP HR hs hel hke
            obtain ⟨So, hSo⟩ : ∃ So, So = (Value.slice Ap acc.length capp).ownBlock.toList := ⟨_, rfl⟩
            have hSn : ∀ g ∈ So, w.heap.size ≤ g ∧ g ≠ w.heap.size ∧ g ≠ w.heap.size + 1 ∧ g < wr.heap.size := by
              intro g hg
              rw [hSo] at hg
              have hg' : (Value.slice Ap acc.length capp).ownBlock = some g := by simpa using hg
              have h3 := HP.out.nown g hg'
              have h4 := HP.out.own.lt g hg'
              exact ⟨h4.1, h3.1, h3.2, h4.2⟩
            have nP : w.heap.size + 1 ∉ So := fun q => (hSn _ q).2.2.1 rfl
            have nR : w.heap.size ∉ So := fun q => (hSn _ q).2.1 rfl
            have nB : b ∉ So := fun q => by have := (hSn _ q).1; omega
            have nB2 : b2 ∉ So := fun q => by have := (hSn _ q).1; omega
            have F0 := Within.cell (S := So) (HP.out.blkP.cell 0) nP
            have G0 := Within.cell (S := So) c0 nB
            have G1 := Within.cell (S := So) c1 nB
            have G2 := Within.cell (S := So) c2 nB
            have G3 := Within.cell (S := So) c3 nB
            have G4 := Within.cell (S := So) c4 nB
            have G5 := Within.cell (S := So) c5 nB
            have G6 := Within.cell (S := So) c6 nB
            have G7 := Within.cell (S := So) c7 nB
            have hki : (k : Int) < l.length := by omega
            go_wp2_with fail
            refine wp_region_in So [0, 1, 2, 3, 4, 5] [6, 7] [8, 9] (by kernel_rfl) (by kernel_rfl) (by intro c d u a w h; cases d <;> exact h) ?_
            show wpQuiet _ _ _ _ [_, _, _, _, _, _] _
            repeat (go_big_quiet_step (fail))
            refine wpQuiet_nil ?_
            show wpList _ _ _ [_] _ _
            go_wp2_with fail
            refine check_of (S := So) (((Only.refl So wr).alloc _).drew) ?_
            show wpList _ _ _ [_] _ _
            obtain ⟨A4, c4', w4, hr4, hown4, hO4⟩ := app8 (W := wr.drew) (base := w.heap.size) (own_only HP.out.own (Only.refl [] wr).drew (by simp)) hrw (by omega) x
            have ho24 : Only So wr w4 := ((Only.refl So wr).drew.alloc _).trans (by rw [hSo]; exact hO4)
            have hP4 := ho24.blk HP.out.blkP nP
            have hR4 := ho24.blk HP.out.blkR nR
            have e1 := fun i => hP4.cell i
            have e2 := fun i => hP4.free i
            have q4 : w4.cell? ⟨b2, off2 + k, none⟩ = some (.int .i64 ky) := (ho24.cell (Nat.lt_of_lt_of_le hbb2 hrw) nB2).trans q0
            have HR4 := Lib.hid hr4
            clear hr4 F0 G0 G1 G2 G3 G4 G5 G6 G7
            refine Lib.wpList_append_run _ rfl (.tmp 69) (.tmp 74) 28 28 rfl _ _ rfl rfl _ _ HR4.out ?_
            refine wpList_nil ?_
            refine check_of ho24 ?_
            show wpList _ _ _ [_, _] _ _
            have hOs : ∀ u v, Only [w.heap.size + 1] w4 ((w4.setCell ⟨w.heap.size + 1, 0, none⟩ u).setCell ⟨w.heap.size + 1, 1, none⟩ v) := fun u v => ((Only.refl _ w4).setCell (.inl (by simp)) u).setCell (.inl (by simp)) v
            have q5 : ∀ u, (w4.setCell ⟨w.heap.size + 1, 0, none⟩ u).cell? ⟨b2, off2 + k, none⟩ = some (.int .i64 ky) := fun u => (((Only.refl [w.heap.size + 1] w4).setCell (p := ⟨w.heap.size + 1, 0, none⟩) (.inl (by simp)) u).cell (Nat.lt_of_lt_of_le (Nat.lt_of_lt_of_le hbb2 hrw) ho24.size) (by simp; omega)).trans q4
            have hNext : ∀ v, PgAt w ((w4.setCell ⟨w.heap.size + 1, 0, none⟩ (.slice A4 (acc.length + 1) c4')).setCell ⟨w.heap.size + 1, 1, none⟩ (.int .i64 v)) (w.heap.size + 1) (.slice A4 (acc.length + 1) c4') (acc ++ [x]) v := fun v => by
              refine ⟨(HP.out.only.step ho24 (fun g hg => .inr (hSn g hg).1)).step (hOs _ _) (fun g hg => by simp at hg; right; omega), (hOs _ _).blk hR4 (by simp), (hP4.set 0 _).set 1 _, ?_⟩
              exact own_only hown4 (hOs _ _) (fun g hg => by
                obtain ⟨cur, hcur⟩ := own_type hown4 hg
                simp
                exact hcur.other hP4 (by decide))
            have HNext := Lib.hid hNext
            clear hNext
            go_wp2
            go_round
            case rel => exact ⟨k + 1, _, acc ++ [x], _, hlt, by simp; omega, by simp; omega, by simp, HN, HNext.out _⟩
            case measure => simp [intOf]; omega
      · have hkn : R = ⟨acc, nx, true⟩ := by
          rw [HR.out, List.drop_of_length_le (by omega)]
          rfl
        subst hkn
        have HP := Lib.hid hP
        clear hP HR hel hke
        go_wp2
        refine bodyPost_ret (v := .tuple #[.agg #[.slice Ap acc.length capp, .int .i64 nx, .bool true], .int .i64 0]) (by simp [results, Tryz.results67, go_sem, hbR]) rfl ⟨_, rfl, ?own, ?only⟩
        case own =>
          refine own_only HP.out.own (S := [w.heap.size]) ?_ (fun g hg => by simpa using (HP.out.nown g hg).1)
          iterate 3 (refine Only.setCell ?_ (.inl (by simp)) _)
          exact Only.refl _ _
        case only =>
          iterate 3 (refine Only.setCell ?_ (.inr (Nat.le_refl _)) _)
          exact HP.out.only
end Go.Proofs.YtikboecmcbcghaaGreat
/- Contract of the document's page, backward. -/
set_option linter.unusedVariables false
set_option linter.unusedSimpArgs false
namespace Go.Proofs.YtikboecmcbcghaaGreat
open Go Go.RowKit Go.Sort
theorem bwdGo_drop (key : StoredR → Int) (f n : Int) (l : List StoredR) (k : Nat) (h : k < l.length) (acc : List StoredR) (nx : Int) :
    bwdGo key f n (l.reverse.drop k) acc nx = if f < key (l[l.length - 1 - k]'(by omega)) then bwdGo key f n (l.reverse.drop (k + 1)) acc nx else if (acc.length : Int) = n then ⟨acc, nx, false⟩ else bwdGo key f n (l.reverse.drop (k + 1)) (acc ++ [l[l.length - 1 - k]'(by omega)]) (max (key (l[l.length - 1 - k]'(by omega))) 0 - 1) := by
  rw [List.drop_eq_getElem_cons (by simpa using h)]
  rw [List.getElem_reverse]
  rfl
set_option maxRecDepth 100000 in
set_option maxHeartbeats 4000000 in
theorem dpage_bwd {w : World} {v kv : Value} {l : List StoredR} {key : StoredR → Int} {f n : Int} (hl : Slc w 8 v l.length (l.flatMap StoredR.cells)) (hkv : Slc w 1 kv (l.map key).length (ints (l.map key))) (hb : l.length ≤ 1000000) (hk : ∀ s ∈ l, 0 ≤ key s ∧ key s ≤ 1000000000) :
    Calls Tryz.prog 67 #[v, kv, .int .i64 f, .int .i64 n, .bool true] w (PageOut w key l f n (pageBy key l f n true)) := by
  cases hw : wrongP f n with
  | true => exact dpage_err hw
  | false =>
    obtain ⟨A, cap, rfl, hnc, hcm, hel⟩ := hl.openE StoredR.cells (fun _ => rfl)
    obtain ⟨B, kc, rfl, hkc1, hkc2, hke⟩ := openK hkv
    rw [List.length_map] at hkc1
    have hlm : (l.map key).length = l.length := List.length_map ..
    rw [hlm]
    unfold maxLen at hcm
    have hn : (1 ≤ n ∧ n ≤ 100) ∧ 0 ≤ f := by simp [wrongP] at hw; omega
    have hR : pageBy key l f n true = (bwdGo key f n l.reverse [] f, 0) := by unfold pageBy; rw [hw]; rfl
    rw [hR]
    clear hR hw hl hkv
    obtain ⟨R, hR⟩ : ∃ R, R = bwdGo key f n l.reverse [] f := ⟨_, rfl⟩
    rw [← hR]
    have HR := Lib.hid hR
    clear hR
    go_enter Tryz.func67, Tryz.ntmps67
    go_wp2
    go_loopw [13] (fun i wr => ∃ (k : Nat) (pv : Value) (acc : List StoredR) (nx : Int), k ≤ l.length ∧ acc.length ≤ k ∧ (acc.length : Int) ≤ n ∧ i = .int .i64 k ∧ Hid (R = bwdGo key f n (l.reverse.drop k) acc nx) ∧ PgAt w wr (w.heap.size + 1) pv acc nx) (fun i _ => l.length - (intOf i).toNat)
    case atStart =>
      refine ⟨0, .slice none 0 0, [], f, Nat.zero_le _, Nat.le_refl _, by simp; omega, rfl, HR, ((Only.refl [] w).alloc _).alloc _, ((Only.refl [] _).alloc _).blk (Blk.new w _ _) (by simp), ?_, World.ownsRow_nil _ _ _ _⟩
      have := Blk.new (w.alloc (.cells #[.slice none 0 0, .int .i64 0, .bool false] 60)) 60 #[.slice none 0 0, .int .i64 f, .bool true]
      simpa using this
    case round =>
      obtain ⟨k, pv, acc, nx, hkl, hak, han, rfl, HR, hP⟩ := hrel
      obtain ⟨Ap, capp, rfl, hap1, hap2⟩ := own_form hP.own
      have hbR := fun i => hP.blkR.cell i
      have hbRf := fun i => hP.blkR.free i
      have hbP := fun i => hP.blkP.cell i
      have hbPf := fun i => hP.blkP.free i
      by_cases hlt : k < l.length
      · obtain ⟨m, hm⟩ : ∃ m, m = l.length - 1 - k := ⟨_, rfl⟩
        have hml : m < l.length := by omega
        have hmi : (l.length : Int) - 1 - k = m := by omega
        obtain ⟨b, off, rfl, hbb, hcc⟩ := hel m hml
        obtain ⟨b2, off2, rfl, hbb2, hkk⟩ := hke m (by rw [hlm]; exact hml)
        have e10 := IntWalk.i64_in ((l.length : Int) - 1) ⟨by omega, by omega⟩
        have e11 := IntWalk.i64_in ((l.length : Int) - 1 - k) ⟨by omega, by omega⟩
        rw [hmi] at e11
        rw [List.getElem_map] at hkk
        have hd := bwdGo_drop key f n l k hlt acc nx
        have hks := hk _ (List.getElem_mem hml)
        obtain ⟨x, hs⟩ : ∃ x, x = l[m] := ⟨_, rfl⟩
        rw [show l[l.length - 1 - k] = l[m] from by simp [hm]] at hd
        rw [← hs] at hd hcc hks hkk
        clear hm
        have q0 : wr.cell? ⟨b2, off2 + m, none⟩ = some (.int .i64 (key x)) := (hP.only.cell hbb2 (by simp)).trans hkk
        have hO := hP.only
        have c0 : wr.cell? ⟨b, off + m * 8, none⟩ = some (.int .i64 x.ev.id) := (hO.cell hbb (by simp)).trans (hcc 0 (by omega))
        have c1 : wr.cell? ⟨b, off + m * 8 + 1, none⟩ = some (.string x.ev.type) := (hO.cell hbb (by simp)).trans (hcc 1 (by omega))
        have c2 : wr.cell? ⟨b, off + m * 8 + 2, none⟩ = some (.string x.ev.data) := (hO.cell hbb (by simp)).trans (hcc 2 (by omega))
        have c3 : wr.cell? ⟨b, off + m * 8 + 3, none⟩ = some (.float .f64 x.ev.value) := (hO.cell hbb (by simp)).trans (hcc 3 (by omega))
        have c4 : wr.cell? ⟨b, off + m * 8 + 4, none⟩ = some (.string x.stream) := (hO.cell hbb (by simp)).trans (hcc 4 (by omega))
        have c5 : wr.cell? ⟨b, off + m * 8 + 5, none⟩ = some (.int .i64 x.version) := (hO.cell hbb (by simp)).trans (hcc 5 (by omega))
        have c6 : wr.cell? ⟨b, off + m * 8 + 6, none⟩ = some (.int .i64 x.position) := (hO.cell hbb (by simp)).trans (hcc 6 (by omega))
        have c7 : wr.cell? ⟨b, off + m * 8 + 7, none⟩ = some (.int .i64 x.time) := (hO.cell hbb (by simp)).trans (hcc 7 (by omega))
        obtain ⟨ky, hky⟩ : ∃ ky, ky = key x := ⟨_, rfl⟩
        have HKY := Lib.hid hky
        rw [← hky] at q0 hd hks
        have hsf := stF
        clear hcc hkk hky
        by_cases h1 : f < ky
        · have HN : Hid (R = bwdGo key f n (l.reverse.drop (k + 1)) acc nx) := by
            unfold Hid
            rw [HR.out, hd, if_pos h1]
          have HP := Lib.hid hP
          clear hd hP HR hs hel hke
          go_wp2
          go_round
          case rel => exact ⟨k + 1, _, acc, nx, hlt, by omega, han, by simp, HN, HP.out⟩
          case measure => simp [intOf]; omega
        · by_cases h2 : (acc.length : Int) = n
          · have HN : R = ⟨acc, nx, false⟩ := by
              rw [HR.out, hd, if_neg h1, if_pos h2]
            have h2b : n ≤ (acc.length : Int) := by omega
            subst HN
            have HP := Lib.hid hP
            have d3 := fun u v i => (((Only.refl [w.heap.size + 1] wr).setCell (p := ⟨w.heap.size + 1, u, none⟩) (.inl (by simp)) v).blk hP.blkR (by simp)).cell i
            have d4 := fun u v i => (((Only.refl [w.heap.size + 1] wr).setCell (p := ⟨w.heap.size + 1, u, none⟩) (.inl (by simp)) v).blk hP.blkR (by simp)).free i
            clear hd hP HR hs hel hke
            go_wp2
            refine bodyPost_ret (v := .tuple #[.agg #[.slice Ap acc.length capp, .int .i64 nx, .bool false], .int .i64 0]) (by simp [results, Tryz.results67, go_sem, d3]) rfl ⟨_, rfl, ?own, ?only⟩
            case own =>
              refine own_only HP.out.own (S := [w.heap.size, w.heap.size + 1]) ?_ (fun g hg => by have := HP.out.nown g hg; simp; omega)
              iterate 4 (refine Only.setCell ?_ (.inl (by simp)) _)
              exact Only.refl _ _
            case only =>
              iterate 4 (refine Only.setCell ?_ (.inr (by simp)) _)
              exact HP.out.only
          · have h2b : ¬ n ≤ (acc.length : Int) := by omega
            have HN : Hid (R = bwdGo key f n (l.reverse.drop (k + 1)) (acc ++ [x]) (max ky 0 - 1)) := by
              unfold Hid
              rw [HR.out, hd, if_neg h1, if_neg h2]
            have HP := Lib.hid hP
            have hkb : (ky < 9223372036854775807) := by omega
            have hakb : acc.length + 1 ≤ 1000001 := by omega
            have hrw := HP.out.only.size
            clear hd hP HR hs hel hke
            obtain ⟨So, hSo⟩ : ∃ So, So = (Value.slice Ap acc.length capp).ownBlock.toList := ⟨_, rfl⟩
            have hSn : ∀ g ∈ So, w.heap.size ≤ g ∧ g ≠ w.heap.size ∧ g ≠ w.heap.size + 1 ∧ g < wr.heap.size := by
              intro g hg
              rw [hSo] at hg
              have hg' : (Value.slice Ap acc.length capp).ownBlock = some g := by simpa using hg
              have h3 := HP.out.nown g hg'
              have h4 := HP.out.own.lt g hg'
              exact ⟨h4.1, h3.1, h3.2, h4.2⟩
            have nP : w.heap.size + 1 ∉ So := fun q => (hSn _ q).2.2.1 rfl
            have nR : w.heap.size ∉ So := fun q => (hSn _ q).2.1 rfl
            have nB : b ∉ So := fun q => by have := (hSn _ q).1; omega
            have nB2 : b2 ∉ So := fun q => by have := (hSn _ q).1; omega
            have F0 := Within.cell (S := So) (HP.out.blkP.cell 0) nP
            have G0 := Within.cell (S := So) c0 nB
            have G1 := Within.cell (S := So) c1 nB
            have G2 := Within.cell (S := So) c2 nB
            have G3 := Within.cell (S := So) c3 nB
            have G4 := Within.cell (S := So) c4 nB
            have G5 := Within.cell (S := So) c5 nB
            have G6 := Within.cell (S := So) c6 nB
            have G7 := Within.cell (S := So) c7 nB
            have hki : (m : Int) < l.length := by omega
            go_wp2_with fail
            refine wp_region_in So [0, 1, 2, 3, 4, 5] [6, 7] [8, 9] (by kernel_rfl) (by kernel_rfl) (by intro c d u a w h; cases d <;> exact h) ?_
            show wpQuiet _ _ _ _ [_, _, _, _, _, _] _
            repeat (go_big_quiet_step (fail))
            refine wpQuiet_nil ?_
            show wpList _ _ _ [_] _ _
            go_wp2_with fail
            refine check_of (S := So) (((Only.refl So wr).alloc _).drew) ?_
            show wpList _ _ _ [_] _ _
            obtain ⟨A4, c4', w4, hr4, hown4, hO4⟩ := app8 (W := wr.drew) (base := w.heap.size) (own_only HP.out.own (Only.refl [] wr).drew (by simp)) hrw (by omega) x
            have ho24 : Only So wr w4 := ((Only.refl So wr).drew.alloc _).trans (by rw [hSo]; exact hO4)
            have hP4 := ho24.blk HP.out.blkP nP
            have hR4 := ho24.blk HP.out.blkR nR
            have e1 := fun i => hP4.cell i
            have e2 := fun i => hP4.free i
            have q4 : w4.cell? ⟨b2, off2 + m, none⟩ = some (.int .i64 ky) := (ho24.cell (Nat.lt_of_lt_of_le hbb2 hrw) nB2).trans q0
            have HR4 := Lib.hid hr4
            clear hr4 F0 G0 G1 G2 G3 G4 G5 G6 G7
            refine Lib.wpList_append_run _ rfl (.tmp 69) (.tmp 74) 28 28 rfl _ _ rfl rfl _ _ HR4.out ?_
            refine wpList_nil ?_
            refine check_of ho24 ?_
            show wpList _ _ _ [_, _] _ _
            have hOs : ∀ u v, Only [w.heap.size + 1] w4 ((w4.setCell ⟨w.heap.size + 1, 0, none⟩ u).setCell ⟨w.heap.size + 1, 1, none⟩ v) := fun u v => ((Only.refl _ w4).setCell (.inl (by simp)) u).setCell (.inl (by simp)) v
            have q5 : ∀ u, (w4.setCell ⟨w.heap.size + 1, 0, none⟩ u).cell? ⟨b2, off2 + m, none⟩ = some (.int .i64 ky) := fun u => (((Only.refl [w.heap.size + 1] w4).setCell (p := ⟨w.heap.size + 1, 0, none⟩) (.inl (by simp)) u).cell (Nat.lt_of_lt_of_le (Nat.lt_of_lt_of_le hbb2 hrw) ho24.size) (by simp; omega)).trans q4
            have hNext : ∀ v, PgAt w ((w4.setCell ⟨w.heap.size + 1, 0, none⟩ (.slice A4 (acc.length + 1) c4')).setCell ⟨w.heap.size + 1, 1, none⟩ (.int .i64 v)) (w.heap.size + 1) (.slice A4 (acc.length + 1) c4') (acc ++ [x]) v := fun v => by
              refine ⟨(HP.out.only.step ho24 (fun g hg => .inr (hSn g hg).1)).step (hOs _ _) (fun g hg => by simp at hg; right; omega), (hOs _ _).blk hR4 (by simp), (hP4.set 0 _).set 1 _, ?_⟩
              exact own_only hown4 (hOs _ _) (fun g hg => by
                obtain ⟨cur, hcur⟩ := own_type hown4 hg
                simp
                exact hcur.other hP4 (by decide))
            have HNext := Lib.hid hNext
            clear hNext
            go_wp2
            go_round
            case rel => exact ⟨k + 1, _, acc ++ [x], _, hlt, by simp; omega, by simp; omega, by simp, HN, HNext.out _⟩
            case measure => simp [intOf]; omega
      · have hkn : R = ⟨acc, nx, true⟩ := by
          rw [HR.out, List.drop_of_length_le (by simp; omega)]
          rfl
        subst hkn
        have HP := Lib.hid hP
        clear hP HR hel hke
        go_wp2
        refine bodyPost_ret (v := .tuple #[.agg #[.slice Ap acc.length capp, .int .i64 nx, .bool true], .int .i64 0]) (by simp [results, Tryz.results67, go_sem, hbR]) rfl ⟨_, rfl, ?own, ?only⟩
        case own =>
          refine own_only HP.out.own (S := [w.heap.size]) ?_ (fun g hg => by simpa using (HP.out.nown g hg).1)
          iterate 3 (refine Only.setCell ?_ (.inl (by simp)) _)
          exact Only.refl _ _
        case only =>
          iterate 3 (refine Only.setCell ?_ (.inr (Nat.le_refl _)) _)
          exact HP.out.only
end Go.Proofs.YtikboecmcbcghaaGreat
/- Contracts of the document's Page and All. -/
set_option linter.unusedVariables false
set_option linter.unusedSimpArgs false
namespace Go.Proofs.YtikboecmcbcghaaGreat
open Go Go.RowKit Go.Sort
theorem dpage_any {w : World} {v kv : Value} {l : List StoredR} {key : StoredR → Int} {f n : Int} (back : Bool) (hl : Slc w 8 v l.length (l.flatMap StoredR.cells)) (hkv : Slc w 1 kv (l.map key).length (ints (l.map key))) (hb : l.length ≤ 1000000) (hk : ∀ s ∈ l, 0 ≤ key s ∧ key s ≤ 1000000000) :
    Calls Tryz.prog 67 #[v, kv, .int .i64 f, .int .i64 n, .bool back] w (PageOut w key l f n (pageBy key l f n back)) := by
  cases back
  · exact dpage_fwd hl hkv hb hk
  · exact dpage_bwd hl hkv hb hk
set_option maxRecDepth 100000 in
set_option maxHeartbeats 4000000 in
theorem dpageP_any {w : World} {v : Value} {l : List StoredR} {f n : Int} {back : Bool} (hl : Slc w 8 v l.length (l.flatMap StoredR.cells)) (hb : l.length ≤ 1000000) (hk : ∀ s ∈ l, 0 ≤ s.position ∧ s.position ≤ 1000000000) :
    Calls Tryz.prog 72 #[v, .int .i64 f, .int .i64 n, .bool back] w (PageOut w StoredR.position l f n (pageBy StoredR.position l f n back)) := by
  have HPg := Lib.hid fun (W : World) (kv : Value) (k : Only [] w W) (hkv : Slc W 1 kv (l.map StoredR.position).length (ints (l.map StoredR.position))) => dpage_any (f := f) (n := n) back (hl.only0 k) hkv hb hk
  obtain ⟨A, cap, rfl, hnc, hcm, hel⟩ := hl.openE StoredR.cells (fun _ => rfl)
  unfold maxLen at hcm
  obtain ⟨R, hR⟩ : ∃ R, pageBy StoredR.position l f n back = R := ⟨_, rfl⟩
  rw [hR] at HPg ⊢
  clear hR hl hk
  go_enter Tryz.func72, Tryz.ntmps72
  go_wp2
  go_loopw [10, 11] (fun o i wr => ∃ (k : Nat) (B : Option Addr) (kc : Nat), k ≤ l.length ∧ i = .int .i64 k ∧ o = .slice B k kc ∧ wr.ownsRow w.heap.size 3 1 (.slice B k kc) ((l.take k).map StoredR.position).length (ints ((l.take k).map StoredR.position)) ∧ Only [] w wr ∧ Blk wr w.heap.size 60 #[.slice none 0 0, .int .i64 0, .bool false]) (fun _ i _ => l.length - (intOf i).toNat)
  case atStart => exact ⟨0, none, 0, Nat.zero_le _, rfl, rfl, World.ownsRow_nil _ _ _ _, (Only.refl [] w).alloc _, Blk.new _ _ _⟩
  case round =>
    obtain ⟨k, B, kc, hk, rfl, rfl, hown, hO, hR⟩ := hrel
    by_cases hlt : k < l.length
    · obtain ⟨b, off, rfl, hbb, hcc⟩ := hel k hlt
      obtain ⟨x, hx⟩ : ∃ x, x = l[k] := ⟨_, rfl⟩
      rw [← hx] at hcc
      have c6 : wr.cell? ⟨b, off + k * 8 + 6, none⟩ = some (.int .i64 x.position) := (hO.cell hbb (by simp)).trans (hcc 6 (by omega))
      have htk : (l.take (k + 1)).map StoredR.position = (l.take k).map StoredR.position ++ [x.position] := by rw [List.take_succ_eq_append_getElem hlt, List.map_append, hx]; rfl
      have HTK := Lib.hid htk
      have hlk : ((l.take k).map StoredR.position).length = k := by simp; omega
      obtain ⟨A4, c4', w4, hr4, hown4, hO4⟩ := appI (W := wr) (base := w.heap.size) hown hO.size (by omega) x.position
      rw [hlk] at hr4 hown4
      have HR4 := Lib.hid hr4
      have hb3 := fun g hg => (World.ownsRow.lt hown g hg).1
      obtain ⟨So, hSo⟩ : ∃ So, So = (Value.slice B k kc).ownBlock.toList := ⟨_, rfl⟩
      rw [← hSo] at hO4
      have hO5 : Only [] w w4 := (hO.alloc _).step hO4 (fun g hg => .inr (by rw [hSo] at hg; exact hb3 g (by simpa using hg)))
      have hR5 : Blk w4 w.heap.size 60 #[.slice none 0 0, .int .i64 0, .bool false] := hO4.blk (((Only.refl [] wr).alloc _).blk hR (by simp)) (fun q => by
        rw [hSo] at q
        obtain ⟨cur, hcur⟩ := own_type hown (g := w.heap.size) (by simpa using q)
        exact absurd rfl (hcur.other hR (by decide)))
      clear hr4 htk hx hcc hel
      go_wp2_with (at_builtin; refine Lib.wpList_append_run _ rfl (.tmp 18) (.tmp 24) 80 80 rfl _ _ rfl rfl _ _ HR4.out ?_)
      go_round
      case rel =>
        refine ⟨k + 1, A4, c4', hlt, by simp, rfl, ?_, hO5, hR5⟩
        rw [HTK.out]
        exact hown4
      case measure => simp [intOf]; omega
    · have hkl : k = l.length := by omega
      subst hkl
      rw [List.take_length] at hown
      have HC := Lib.hid (HPg.out wr _ hO (Slc.of_own hown).1)
      clear hel HPg
      go_wp2_with (go_at_call 67; refine HC.out.mono ?_; rintro e w2 ⟨pv, rfl, hownp, k2⟩; obtain ⟨Ap, capp, rfl, hap1, hap2⟩ := own_form hownp; have hR2 := k2.blk hR (by simp); have hbR := fun i => hR2.cell i; have hbRf := fun i => hR2.free i)
      refine bodyPost_ret (v := .tuple #[.agg #[.slice Ap R.1.events.length capp, .int .i64 R.1.next, .bool R.1.isEnd], .int .i64 R.2]) (by simp [results, Tryz.results72, go_sem, hbR]) rfl ⟨_, rfl, ?own, ?only⟩
      case own =>
        refine own_only (own_base hownp hO.size) (S := [w.heap.size]) ?_ (fun g hg => by
          have h1 := (hownp.lt g hg).1
          have h2 := hR.lt
          simp; omega)
        iterate 3 (refine Only.setCell ?_ (.inl (by simp)) _)
        exact Only.refl _ _
      case only =>
        iterate 3 (refine Only.setCell ?_ (.inr (Nat.le_refl _)) _)
        exact hO.trans k2
end Go.Proofs.YtikboecmcbcghaaGreat
/- Contract of the document's All. -/
set_option linter.unusedVariables false
set_option linter.unusedSimpArgs false
namespace Go.Proofs.YtikboecmcbcghaaGreat
open Go Go.RowKit Go.Sort
section
variable {a w : World} {H : List Nat} {rb : Nat} {r : RS}
set_option maxRecDepth 100000 in
set_option maxHeartbeats 4000000 in
theorem dall_any (h : HasD a w H rb r) (hf : r.Fine) (f n : Int) (back : Bool) (hk : ∀ s ∈ r.l, 0 ≤ s.position ∧ s.position ≤ 1000000000) :
    Calls Tryz.prog 18 #[.pointer (some ⟨rb, 0, none⟩), .int .i64 f, .int .i64 n, .bool back] w (PageOut w StoredR.position (r.seenD ⟨#[]⟩) f n (pageBy StoredR.position (r.seenD ⟨#[]⟩) f n back)) := by
  have HSn := Lib.hid fun (W : World) (k : Only [] w W) => dseen_any (h.keep0 k) hf ⟨#[]⟩
  have hfew : (r.seenD ⟨#[]⟩).length ≤ 1000000 := Nat.le_trans (List.length_filter_le _ _) hf.few
  have hk2 : ∀ s ∈ r.seenD ⟨#[]⟩, 0 ≤ s.position ∧ s.position ≤ 1000000000 := fun s hs => hk s (List.mem_filter.1 hs).1
  obtain ⟨l, hl⟩ : ∃ l, r.seenD ⟨#[]⟩ = l := ⟨_, rfl⟩
  rw [hl] at HSn hfew hk2 ⊢
  have HPg := Lib.hid fun (W : World) (v : Value) (hv : Slc W 8 v l.length (l.flatMap StoredR.cells)) => dpageP_any (f := f) (n := n) (back := back) hv hfew hk2
  obtain ⟨R, hR⟩ : ∃ R, pageBy StoredR.position l f n back = R := ⟨_, rfl⟩
  rw [hR] at HPg ⊢
  have hO1 : Only [] w (w.alloc (.cells #[.slice none 0 0, .int .i64 0, .bool false] 60)) := (Only.refl [] w).alloc _
  have hB1 : Blk (w.alloc (.cells #[.slice none 0 0, .int .i64 0, .bool false] 60)) w.heap.size 60 #[.slice none 0 0, .int .i64 0, .bool false] := Blk.new _ _ _
  clear hR hl hk hk2 h hf
  go_enter Tryz.func18, Tryz.ntmps18
  go_wp2_with (first
    | (go_at_call 21; refine (HSn.out _ hO1).mono ?_; rintro e1 w1 ⟨v1, rfl, hown1, k1⟩; have hB2 := k1.blk hB1 (by simp))
    | (go_at_call 72; refine (HPg.out _ _ (Slc.of_own hown1).1).mono ?_; rintro e2 w2 ⟨pv, rfl, hownp, k2⟩; obtain ⟨Ap, capp, rfl, hap1, hap2⟩ := own_form hownp; have hR2 := k2.blk hB2 (by simp); have hbR := fun i => hR2.cell i; have hbRf := fun i => hR2.free i))
  refine bodyPost_ret (v := .tuple #[.agg #[.slice Ap R.1.events.length capp, .int .i64 R.1.next, .bool R.1.isEnd], .int .i64 R.2]) (by simp [results, Tryz.results18, go_sem, hbR]) rfl ⟨_, rfl, ?own, ?only⟩
  case own =>
    refine own_only (own_base hownp (hO1.trans k1).size) (S := [w.heap.size]) ?_ (fun g hg => by
      have h1 := (hownp.lt g hg).1
      have h2 := hB2.lt
      simp; omega)
    iterate 3 (refine Only.setCell ?_ (.inl (by simp)) _)
    exact Only.refl _ _
  case only =>
    iterate 3 (refine Only.setCell ?_ (.inr (Nat.le_refl _)) _)
    exact (hO1.trans k1).trans k2
end
end Go.Proofs.YtikboecmcbcghaaGreat
/- Contracts of the document's state: put, keep. -/
set_option linter.unusedVariables false
set_option linter.unusedSimpArgs false
namespace Go.Proofs.YtikboecmcbcghaaGreat
open Go Go.RowKit Go.Sort
theorem putD_new : ∀ (l : List DStr) (x : DStr), (∀ k (hl : k < l.length), ¬ l[k].name = x.name) → putD l x = l ++ [x]
  | [], x, _ => rfl
  | y :: l, x, h => by
    unfold putD
    rw [if_neg (show ¬ y.name = x.name from h 0 (by simp)), putD_new l x (fun k hl => h (k + 1) (by simpa using hl))]
    rfl
theorem putD_old : ∀ (l : List DStr) (x : DStr) (j : Nat) (hj : j < l.length), (∀ k (hk : k < j) (hl : k < l.length), ¬ l[k].name = x.name) → l[j].name = x.name → putD l x = l.set j x
  | [], x, j, hj, _, _ => by simp at hj
  | y :: l, x, 0, _, _, he => by
    unfold putD
    rw [if_pos (by simpa using he)]
    rfl
  | y :: l, x, j + 1, hj, h, he => by
    unfold putD
    rw [if_neg (show ¬ y.name = x.name from h 0 (by omega) (by simp)), putD_old l x j (by simpa using hj) (fun k hk hl => h (k + 1) (by omega) (by simpa using hl)) (by simpa using he)]
    rfl
theorem dflat_set : ∀ (l : List DStr) (j : Nat) (x : DStr), j < l.length → ((((((dcells l).set (j * 6) (.string x.name)).set (j * 6 + 1) (.int .i64 x.mt.maxCount)).set (j * 6 + 2) (.int .i64 x.mt.maxAge)).set (j * 6 + 3) (.int .i64 x.mt.before)).set (j * 6 + 4) (.int .i64 x.kept)).set (j * 6 + 5) (.bool x.deleted) = dcells (l.set j x)
  | [], j, x, h => by simp at h
  | y :: l, 0, x, h => by simp [dcells, DStr.cells]
  | y :: l, j + 1, x, h => by
    have ih := dflat_set l j x (by simpa using h)
    have e : dcells (y :: l) = DStr.cells y ++ dcells l := by simp [dcells]
    have e2 : dcells ((y :: l).set (j + 1) x) = DStr.cells y ++ dcells (l.set j x) := by simp [dcells]
    rw [e2, ← ih, e]
    have hs : ∀ (k : Nat) (L : List Value) (v : Value), (DStr.cells y ++ L).set (k + 6) v = DStr.cells y ++ L.set k v := fun k L v => by
      rw [List.set_append_right _ _ (by simp [DStr.cells])]
      simp [DStr.cells]
    rw [show (j + 1) * 6 = j * 6 + 6 by omega, show j * 6 + 6 + 1 = j * 6 + 1 + 6 by omega, show j * 6 + 6 + 2 = j * 6 + 2 + 6 by omega, show j * 6 + 6 + 3 = j * 6 + 3 + 6 by omega, show j * 6 + 6 + 4 = j * 6 + 4 + 6 by omega, show j * 6 + 6 + 5 = j * 6 + 5 + 6 by omega]
    rw [hs, hs, hs, hs, hs, hs]
theorem appD {W : World} {base : Nat} {v u : Value} {l m : List DStr} (hown : W.ownsRow base 99 6 v l.length (dcells l)) (hu : Slc W 6 u m.length (dcells m)) (hb : base ≤ W.heap.size) (hl : l.length + m.length ≤ 1000000) :
    ∃ A cap w', (Builtin.append_ #[29, 29] 29 #[v, u]).run Tryz.prog W = .ok (.slice A (l.length + m.length) cap) w' ∧ w'.ownsRow base 99 6 (.slice A (l.length + m.length) cap) (l ++ m).length (dcells (l ++ m)) ∧ Only v.ownBlock.toList W w' := by
  obtain ⟨A, cap, w', h1, h2, h3, _⟩ := run_app (P := Tryz.prog) (w := W) 29 29 base 99 _ 6 56 Tryz.underlying29 infoDs rfl (by decide) hown hu (dcells_one m) (by omega) (by unfold maxLen; omega) hb
  refine ⟨A, cap, w', h1, ?_, h3⟩
  have e : dcells (l ++ m) = dcells l ++ dcells m := by simp [dcells]
  rw [List.length_append, e]
  exact h2
section
variable {a w : World} {H : List Nat} {rb : Nat} {r : RS}
theorem DTo.setS {vl vs v' : Value} {w5 : World} {base : Nat} {s' : List DStr} (h : HasD a w (hD rb vl vs) rb r) (hA : DocAt w rb vl vs r) (k : Only [] w w5) (hown : w5.ownsRow base 99 6 v' s'.length (dcells s')) (hb : w.heap.size ≤ base) :
    DTo a w (hD rb vl vs) rb { r with s := s' } (w5.setCell ⟨rb, 1, none⟩ v') := by
  have hne := hA.ne
  have hrb := hA.blk.lt
  have ks : Only [rb] w5 (w5.setCell ⟨rb, 1, none⟩ v') := (Only.refl _ _).setCell (.inl (by simp)) _
  refine hasD_of h ⟨(k.blk hA.blk (by simp)).set 1 v', ?_, ?_⟩ ?_
  · exact own_only (own_only hA.l k (by simp)) ks (fun g hg hm => hne.1 g hg (List.mem_singleton.1 hm))
  · exact own_only (own_base hown (Nat.zero_le _)) ks (fun g hg hm => by
      have := (hown.lt g hg).1
      rw [List.mem_singleton.1 hm] at this
      omega)
  · refine Stepped.of (S := [rb]) (k.of_nil.trans ks) (fun b hb => by rw [List.mem_singleton.1 hb]; simp [hD]) (fun b hb2 => ?_)
    simp only [hD, List.mem_cons, List.mem_append, Option.mem_toList] at hb2 ⊢
    rcases hb2 with e | e | e
    · exact .inl (.inl e)
    · exact .inl (.inr (.inl e))
    · have := (hown.lt b e).1
      exact .inr (by omega)
set_option maxRecDepth 100000 in
set_option maxHeartbeats 2000000 in
theorem dput_any (h : HasD a w H rb r) (x : DStr) (hs : r.s.length + 1 ≤ 1000000) :
    Calls Tryz.prog 47 #[.pointer (some ⟨rb, 0, none⟩), .agg #[.string x.name, .int .i64 x.mt.maxCount, .int .i64 x.mt.maxAge, .int .i64 x.mt.before, .int .i64 x.kept, .bool x.deleted]] w fun e w' => e = .returned (.tuple #[]) ∧ DTo a w H rb (r.put x) w' := by
  have hH := h
  have HIx := Lib.hid fun (W : World) (k : Only [] w W) => dstream_any (h.keep0 k) x.name
  obtain ⟨⟨vl, vs, hA, rfl⟩, -, -⟩ := h
  obtain ⟨Al, cl, As, cs, rfl, rfl, -, -, hm1, hm2, -, hS⟩ := hA.open
  unfold maxLen at hm2
  have f1 : w.cell? ⟨rb, 1, none⟩ = some (.slice As r.s.length cs) := hA.blk.cell 1
  have hrb := hA.blk.lt
  have hvs := (Slc.of_own hA.s).1
  have HAt := Lib.hid hA
  have HHH := Lib.hid hH
  obtain ⟨W1, hW1⟩ : ∃ W1, w.alloc (.cells #[.string x.name, .int .i64 x.mt.maxCount, .int .i64 x.mt.maxAge, .int .i64 x.mt.before, .int .i64 x.kept, .bool x.deleted] 99) = W1 := ⟨_, rfl⟩
  have hB1 : Blk W1 w.heap.size 99 #[.string x.name, .int .i64 x.mt.maxCount, .int .i64 x.mt.maxAge, .int .i64 x.mt.before, .int .i64 x.kept, .bool x.deleted] := by rw [← hW1]; exact Blk.new _ _ _
  have hO1 : Only [] w W1 := by rw [← hW1]; exact (Only.refl _ _).alloc _
  have b0 : W1.cell? ⟨w.heap.size, 0, none⟩ = some (.string x.name) := hB1.cell 0
  clear hS hA hH
  by_cases hin : ∃ j, ∃ hj : j < r.s.length, (∀ k (hk : k < j) (hl : k < r.s.length), ¬ r.s[k].name = x.name) ∧ r.s[j].name = x.name
  · obtain ⟨j, hj, hb, he⟩ := hin
    have h1 := (dIx_hit hj hb he).1
    have hput : r.put x = { r with s := r.s.set j x } := by unfold RS.put; rw [putD_old _ _ j hj hb he]
    rw [hput]
    rw [h1] at HIx
    clear hb he h1 hput
    go_enter Tryz.func47, Tryz.ntmps47
    go_wp2_with fail
    refine (HIx.out _ hO1).mono ?_
    rintro e2 w2 ⟨rfl, k2⟩
    have hO2 : Only [] w w2 := hO1.trans k2
    have hB2 := k2.blk hB1 (by simp)
    have g1 := (hO2.cell (p := ⟨rb, 1, none⟩) hrb (by simp)).trans f1
    obtain ⟨A3, c3, w3, hr3, hown3, hO3⟩ := appD (W := w2) (base := w2.heap.size) (v := .slice none 0 0) (l := []) (m := r.s) (World.ownsRow_nil _ _ _ _) (hvs.only0 hO2) (Nat.le_refl _) (by show 0 + r.s.length ≤ _; omega)
    rw [show ([] : List DStr).length + r.s.length = r.s.length from Nat.zero_add _] at hr3 hown3
    rw [show ([] : List DStr) ++ r.s = r.s from rfl] at hown3
    have hO3' : Only [] w2 w3 := hO3
    have hB3 := hO3'.blk hB2 (by simp)
    have HR3 := Lib.hid hr3
    have hO03 : Only [] w w3 := hO2.trans hO3'
    clear hr3 hO3
    obtain ⟨g3, cp3, cur3, hv3, hg3, hB3'⟩ := own_some hown3 (by omega)
    injection hv3 with z1 z2 z3
    subst z1
    obtain ⟨A9, c9, hv9, -, -, hel9⟩ := (Slc.of_own hown3).1.openE DStr.cells (fun _ => rfl)
    injection hv9 with z4 z5 z6
    obtain ⟨b9, o9, e9, hb9, hcc9⟩ := hel9 j hj
    rw [← z4] at e9
    injection e9 with e9
    injection e9 with e10 e11
    subst e10 e11
    simp only [Nat.zero_add] at hcc9
    obtain ⟨y, hy⟩ : ∃ y, r.s[j] = y := ⟨_, rfl⟩
    rw [hy] at hcc9
    have y0 : w3.cell? ⟨g3, j * 6, none⟩ = some (.string y.name) := hcc9 0 (by omega)
    have y1 : w3.cell? ⟨g3, j * 6 + 1, none⟩ = some (.int .i64 y.mt.maxCount) := hcc9 1 (by omega)
    have y2 : w3.cell? ⟨g3, j * 6 + 2, none⟩ = some (.int .i64 y.mt.maxAge) := hcc9 2 (by omega)
    have y3 : w3.cell? ⟨g3, j * 6 + 3, none⟩ = some (.int .i64 y.mt.before) := hcc9 3 (by omega)
    have y4 : w3.cell? ⟨g3, j * 6 + 4, none⟩ = some (.int .i64 y.kept) := hcc9 4 (by omega)
    have y5 : w3.cell? ⟨g3, j * 6 + 5, none⟩ = some (.bool y.deleted) := hcc9 5 (by omega)
    have c0 : w3.cell? ⟨w.heap.size, 0, none⟩ = some (.string x.name) := hB3.cell 0
    have c1 : w3.cell? ⟨w.heap.size, 1, none⟩ = some (.int .i64 x.mt.maxCount) := hB3.cell 1
    have c2 : w3.cell? ⟨w.heap.size, 2, none⟩ = some (.int .i64 x.mt.maxAge) := hB3.cell 2
    have c3' : w3.cell? ⟨w.heap.size, 3, none⟩ = some (.int .i64 x.mt.before) := hB3.cell 3
    have c4 : w3.cell? ⟨w.heap.size, 4, none⟩ = some (.int .i64 x.kept) := hB3.cell 4
    have c5 : w3.cell? ⟨w.heap.size, 5, none⟩ = some (.bool x.deleted) := hB3.cell 5
    have hjl : (j : Int) < (r.s.length : Int) := by omega
    have HOw := Lib.hid hown3
    have fr : ∀ i, w3.frozen? ⟨g3, i, none⟩ = false := fun i => hB3'.free i
    have fb : w3.frozen? ⟨rb, 1, none⟩ = false := (hO03.blk HAt.out.blk (by simp)).free 1
    have gb := (hO03.cell (p := ⟨rb, 1, none⟩) hrb (by simp)).trans f1
    have hgr : g3 ≠ rb := by have := hO2.size; omega
    have hgr2 : rb ≠ g3 := fun e => hgr e.symm
    have hj0 : decide ((j : Int) < 0) = false := decide_eq_false (by omega)
    subst z4
    clear hel9 hcc9 z2 z3 z5 z6 hown3 hy
    go_wp2_with (at_builtin; refine Lib.wpList_append_run _ rfl (.const (.slice none 0 0)) (.tmp 13) 29 29 rfl _ _ rfl rfl _ _ HR3.out ?_)
    go_end0
    have hown5 := ((((((HOw.out.stored (j * 6) (.string x.name)).1.stored (j * 6 + 1) (.int .i64 x.mt.maxCount)).1.stored (j * 6 + 2) (.int .i64 x.mt.maxAge)).1.stored (j * 6 + 3) (.int .i64 x.mt.before)).1.stored (j * 6 + 4) (.int .i64 x.kept)).1.stored (j * 6 + 5) (.bool x.deleted)).1
    rw [dflat_set r.s j x hj] at hown5
    have K5 : Only [] w ((((((w3.setCell ⟨g3, j * 6, none⟩ (.string x.name)).setCell ⟨g3, j * 6 + 1, none⟩ (.int .i64 x.mt.maxCount)).setCell ⟨g3, j * 6 + 2, none⟩ (.int .i64 x.mt.maxAge)).setCell ⟨g3, j * 6 + 3, none⟩ (.int .i64 x.mt.before)).setCell ⟨g3, j * 6 + 4, none⟩ (.int .i64 x.kept)).setCell ⟨g3, j * 6 + 5, none⟩ (.bool x.deleted)) := by
      have hg3' : w.heap.size ≤ g3 := Nat.le_trans hO2.size hg3
      iterate 6 (refine Only.setCell ?_ (.inr hg3') _)
      exact hO03
    have hl : (r.s.set j x).length = r.s.length := List.length_set
    rw [← hl] at hown5
    have hres := DTo.setS (s' := r.s.set j x) HHH.out HAt.out K5 hown5 hO2.size
    rw [hl] at hres
    exact ⟨rfl, hres⟩
  · have hall : ∀ k (hl : k < r.s.length), ¬ r.s[k].name = x.name := by
      intro k
      induction k using Nat.strongRecOn with
      | _ k ih => exact fun hl q => hin ⟨k, hl, fun i hi hil => ih i hi hil, q⟩
    have h1 := (dIx_end hall).1
    have hput : r.put x = { r with s := r.s ++ [x] } := by unfold RS.put; rw [putD_new _ _ hall]
    rw [hput]
    rw [h1] at HIx
    clear hall hin h1 hput
    go_enter Tryz.func47, Tryz.ntmps47
    go_wp2_with fail
    refine (HIx.out _ hO1).mono ?_
    rintro e2 w2 ⟨rfl, k2⟩
    have hO2 : Only [] w w2 := hO1.trans k2
    have hB2 := k2.blk hB1 (by simp)
    have g1 := (hO2.cell (p := ⟨rb, 1, none⟩) hrb (by simp)).trans f1
    obtain ⟨A3, c3, w3, hr3, hown3, hO3⟩ := appD (W := w2) (base := w2.heap.size) (v := .slice none 0 0) (l := []) (m := r.s) (World.ownsRow_nil _ _ _ _) (hvs.only0 hO2) (Nat.le_refl _) (by show 0 + r.s.length ≤ _; omega)
    rw [show ([] : List DStr).length + r.s.length = r.s.length from Nat.zero_add _] at hr3 hown3
    rw [show ([] : List DStr) ++ r.s = r.s from rfl] at hown3
    have hO3' : Only [] w2 w3 := hO3
    have hB3 := hO3'.blk hB2 (by simp)
    have HR3 := Lib.hid hr3
    have hO03 : Only [] w w3 := hO2.trans hO3'
    clear hr3 hO3
    have c0 : w3.cell? ⟨w.heap.size, 0, none⟩ = some (.string x.name) := hB3.cell 0
    have c1 : w3.cell? ⟨w.heap.size, 1, none⟩ = some (.int .i64 x.mt.maxCount) := hB3.cell 1
    have c2 : w3.cell? ⟨w.heap.size, 2, none⟩ = some (.int .i64 x.mt.maxAge) := hB3.cell 2
    have c3 : w3.cell? ⟨w.heap.size, 3, none⟩ = some (.int .i64 x.mt.before) := hB3.cell 3
    have c4 : w3.cell? ⟨w.heap.size, 4, none⟩ = some (.int .i64 x.kept) := hB3.cell 4
    have c5 : w3.cell? ⟨w.heap.size, 5, none⟩ = some (.bool x.deleted) := hB3.cell 5
    have k4 : Only [] w3 (w3.alloc (.cells #[.string x.name, .int .i64 x.mt.maxCount, .int .i64 x.mt.maxAge, .int .i64 x.mt.before, .int .i64 x.kept, .bool x.deleted] 99)) := (Only.refl _ _).alloc _
    obtain ⟨A5, cp5, w5, hr5, hown5, hO5⟩ := appD (base := w2.heap.size) (m := [x]) (u := .slice (some ⟨w3.heap.size, 0, none⟩) 1 1) (own_only hown3 k4 (by simp)) (slc_new1 (w := w3) (e := 99) (size := 6) (cs := dcells [x]) rfl) (Nat.le_trans hO3'.size k4.size) (by simpa using hs)
    have hO35 : Only [] w2 w5 := (hO3'.trans k4).step hO5 (fun g hg => .inr (hown3.lt g (by simpa using hg)).1)
    have HR5 := Lib.hid hr5
    have HO5 := Lib.hid (hown5)
    have hO05 : Only [] w w5 := hO2.trans hO35
    have f5 : w5.frozen? ⟨rb, 1, none⟩ = false := (hO05.blk HAt.out.blk (by simp)).free 1
    have cc5 := (hO05.cell (p := ⟨rb, 1, none⟩) hrb (by simp)).trans f1
    clear hr5 hown5 hO5 hown3
    go_wp2_with (first
      | (at_builtin; refine Lib.wpList_append_run _ rfl (.const (.slice none 0 0)) (.tmp 13) 29 29 rfl _ _ rfl rfl _ _ HR3.out ?_)
      | (at_builtin; refine Lib.wpList_append_run _ rfl (.tmp 17) (.tmp 19) 29 29 rfl _ _ rfl rfl _ _ HR5.out ?_))
    go_end0
    exact ⟨rfl, DTo.setS HHH.out HAt.out hO05 HO5.out hO2.size⟩
set_option maxRecDepth 100000 in
set_option maxHeartbeats 2000000 in
theorem dkeep_any (h : HasD a w H rb r) (n : ByteArray) (hl : r.l.length ≤ 1000000) (hs : r.s.length + 1 ≤ 1000000) (hm : (r.get n).mt.ok = true) (hk : 0 ≤ (r.get n).kept ∧ (r.get n).kept ≤ 1000000000) (hn : 0 ≤ r.now ∧ r.now ≤ 1099511627776) :
    Calls Tryz.prog 45 #[.pointer (some ⟨rb, 0, none⟩), .string n] w fun e w' => e = .returned (.tuple #[]) ∧ DTo a w H rb (r.keep n) w' := by
  have HGt := Lib.hid (dget_any h n)
  have HFl := Lib.hid fun (W : World) (k : Only [] w W) => dfloor_any (h.keep0 k) n hl hm hk hn
  have HPt := Lib.hid fun (W : World) (k : Only [] w W) => dput_any (h.keep0 k) { r.get n with kept := r.floor n } hs
  have hkp : r.keep n = r.put { r.get n with kept := r.floor n } := rfl
  rw [hkp]
  obtain ⟨x, hx⟩ : ∃ x, r.get n = x := ⟨_, rfl⟩
  obtain ⟨f, hf⟩ : ∃ f, r.floor n = f := ⟨_, rfl⟩
  rw [hx] at HGt HPt ⊢
  rw [hf] at HFl HPt ⊢
  unfold DStr.val at HGt
  dsimp only at HPt ⊢
  have HX := Lib.hid (h.lt)
  clear hl hs hm hk hn hkp hx hf h
  go_enter Tryz.func45, Tryz.ntmps45
  go_wp2_with fail
  refine HGt.out.mono ?_
  rintro e1 w1 ⟨rfl, k1⟩
  have hB := Blk.new w1 99 #[.string x.name, .int .i64 x.mt.maxCount, .int .i64 x.mt.maxAge, .int .i64 x.mt.before, .int .i64 x.kept, .bool x.deleted]
  have hO1 : Only [] w (w1.alloc (.cells #[.string x.name, .int .i64 x.mt.maxCount, .int .i64 x.mt.maxAge, .int .i64 x.mt.before, .int .i64 x.kept, .bool x.deleted] 99)) := k1.alloc _
  go_wp2_with fail
  refine (HFl.out _ hO1).mono ?_
  rintro e2 w2 ⟨rfl, k2⟩
  have hB2 := k2.blk hB (by simp)
  have hf2 := hB2.free
  have hc2 := hB2.cell
  have hO2 := hO1.trans k2
  have hB3 := hB2.set 4 (.int .i64 f)
  have hO3 : Only [] w (w2.setCell ⟨w1.heap.size, 4, none⟩ (.int .i64 f)) := hO2.setCell (.inr k1.size) _
  have y0 : (w2.setCell ⟨w1.heap.size, 4, none⟩ (.int .i64 f)).cell? ⟨w1.heap.size, 0, none⟩ = some (.string x.name) := hB3.cell 0
  have y1 : (w2.setCell ⟨w1.heap.size, 4, none⟩ (.int .i64 f)).cell? ⟨w1.heap.size, 1, none⟩ = some (.int .i64 x.mt.maxCount) := hB3.cell 1
  have y2 : (w2.setCell ⟨w1.heap.size, 4, none⟩ (.int .i64 f)).cell? ⟨w1.heap.size, 2, none⟩ = some (.int .i64 x.mt.maxAge) := hB3.cell 2
  have y3 : (w2.setCell ⟨w1.heap.size, 4, none⟩ (.int .i64 f)).cell? ⟨w1.heap.size, 3, none⟩ = some (.int .i64 x.mt.before) := hB3.cell 3
  have y4 : (w2.setCell ⟨w1.heap.size, 4, none⟩ (.int .i64 f)).cell? ⟨w1.heap.size, 4, none⟩ = some (.int .i64 f) := hB3.cell 4
  have y5 : (w2.setCell ⟨w1.heap.size, 4, none⟩ (.int .i64 f)).cell? ⟨w1.heap.size, 5, none⟩ = some (.bool x.deleted) := hB3.cell 5
  go_wp2_with fail
  refine (HPt.out _ hO3).mono ?_
  rintro e3 w3 ⟨rfl, k3⟩
  go_wp2_with fail
  go_end0
  exact ⟨rfl, DTo.trans (Stepped.first0 hO3 (Stepped.refl _ _)) k3⟩
end
end Go.Proofs.YtikboecmcbcghaaGreat
/- Contracts: the document's Of, Canon; SamePage of pages that are the same. -/
set_option linter.unusedVariables false
set_option linter.unusedSimpArgs false
namespace Go.Proofs.YtikboecmcbcghaaGreat
open Go Go.RowKit Go.Sort
theorem nan_nan : isNaN 9221120237041090560 = true := by kernel_rfl
set_option maxRecDepth 100000 in
theorem r1of_any (b : Nat) (w : World) : Calls Tryz.prog 119 #[.int .u64 (b : Int)] w fun e w' => e = .returned (.float .f64 (canon b)) ∧ w = w' := by
  have hf := fun W => from_run (b : Int) W
  have hf2 := fun W => from_run 9221120237041090560 W
  simp only [Int.toNat_natCast] at hf
  cases hb : isNaN b
  · have hr : Hid (canon b = b) := by unfold Hid canon; rw [hb]; rfl
    unfold isNaN at hb
    go_enter Tryz.func119, Tryz.ntmps119
    go_wp2
    go_ret
    exact ⟨by rw [hr.out]; rfl, rfl⟩
  · have hr : Hid (canon b = 9221120237041090560) := by unfold Hid canon; rw [hb]; rfl
    unfold isNaN at hb
    go_enter Tryz.func119, Tryz.ntmps119
    go_wp2
    go_ret
    exact ⟨by rw [hr.out]; rfl, rfl⟩
theorem canon_bits (b : Nat) : canon (bitsOf b) = canon b := by
  unfold canon bitsOf
  cases hb : isNaN b
  · simp [hb]
  · simp [nan_nan]
set_option maxRecDepth 100000 in
theorem r1canon_any (b : Nat) (w : World) : Calls Tryz.prog 49 #[.float .f64 b] w fun e w' => e = .returned (.float .f64 (canon b)) ∧ w = w' := by
  have HB := Lib.hid fun (W : World) => r1bits_any b W
  have HO := Lib.hid fun (W : World) => r1of_any (bitsOf b) W
  rw [canon_bits] at HO
  go_enter Tryz.func49, Tryz.ntmps49
  go_wp2_with (first
    | (go_at_call 120; refine (HB.out _).mono ?_; rintro e1 w1 ⟨rfl, rfl⟩)
    | (go_at_call 119; refine (HO.out _).mono ?_; rintro e2 w2 ⟨rfl, rfl⟩))
  go_ret
  exact ⟨rfl, rfl⟩
set_option maxRecDepth 100000 in
set_option maxHeartbeats 2000000 in
theorem r7page_refl {w : World} {v1 v2 : Value} {l : List StoredR} (h1 : Slc w 8 v1 l.length (l.flatMap StoredR.cells)) (h2 : Slc w 8 v2 l.length (l.flatMap StoredR.cells)) (nx : Int) (en : Bool) :
    Calls Tryz.prog 22 #[.agg #[v1, .int .i64 nx, .bool en], .agg #[v2, .int .i64 nx, .bool en]] w fun e w' => e = .returned (.bool true) ∧ Only [] w w' := by
  obtain ⟨A1, c1, rfl, hl1, hm1, he1⟩ := h1.openE StoredR.cells (fun _ => rfl)
  obtain ⟨A2, c2, rfl, -, hm2, he2⟩ := h2.openE StoredR.cells (fun _ => rfl)
  unfold maxLen at hm1 hm2
  obtain ⟨W1, hW1⟩ : ∃ W1, W1 = (w.alloc (.cells #[.slice A1 l.length c1, .int .i64 nx, .bool en] 60)).alloc (.cells #[.slice A2 l.length c2, .int .i64 nx, .bool en] 60) := ⟨_, rfl⟩
  have hO1 : Only [] w W1 := by rw [hW1]; exact ((Only.refl _ _).alloc _).alloc _
  have hBa : Blk W1 w.heap.size 60 #[.slice A1 l.length c1, .int .i64 nx, .bool en] := by rw [hW1]; exact ((Only.refl [] _).alloc _).blk (Blk.new _ _ _) (by simp)
  have hBb : Blk W1 (w.heap.size + 1) 60 #[.slice A2 l.length c2, .int .i64 nx, .bool en] := by
    have := Blk.new (w.alloc (.cells #[.slice A1 l.length c1, .int .i64 nx, .bool en] 60)) 60 #[.slice A2 l.length c2, .int .i64 nx, .bool en]
    rw [hW1]
    simpa using this
  have HW := Lib.hid hW1
  have HSa := Lib.hid fun (x : StoredR) (W : World) => r7sameS_any x x W
  clear hW1 h1 h2
  go_enter Tryz.func22, Tryz.ntmps22
  go_wp2_with fail
  rw [← HW.out]
  go_loopw [5] (fun i wr => ∃ k : Nat, k ≤ l.length ∧ i = .int .i64 k ∧ Only [] W1 wr) (fun i _ => l.length - (intOf i).toNat)
  case atStart => exact ⟨0, Nat.zero_le _, rfl, Only.refl _ _⟩
  case round =>
    obtain ⟨k, hk, rfl, hO⟩ := hrel
    have p1 : wr.cell? ⟨w.heap.size, 0, none⟩ = some (.slice A1 l.length c1) := (hO.blk hBa (by simp)).cell 0
    have p2 : wr.cell? ⟨w.heap.size + 1, 0, none⟩ = some (.slice A2 l.length c2) := (hO.blk hBb (by simp)).cell 0
    have P1 := Within.cell (S := []) p1 (by simp)
    have P2 := Within.cell (S := []) p2 (by simp)
    by_cases hlt : k < l.length
    · have hki : (k : Int) < l.length := by omega
      have e9 := IntWalk.i64_in ((k : Int) + 1) ⟨by omega, by omega⟩
      obtain ⟨b1, off1, rfl, hb1, hcc1⟩ := he1 k hlt
      obtain ⟨b2, off2, rfl, hb2, hcc2⟩ := he2 k hlt
      have hOw := hO1.trans hO
      obtain ⟨x, hx⟩ : ∃ x, x = l[k] := ⟨_, rfl⟩
      rw [← hx] at hcc1 hcc2
      have c0 : wr.cell? ⟨b1, off1 + k * 8, none⟩ = some (.int .i64 x.ev.id) := (hOw.cell hb1 (by simp)).trans (hcc1 0 (by omega))
      have c1 : wr.cell? ⟨b1, off1 + k * 8 + 1, none⟩ = some (.string x.ev.type) := (hOw.cell hb1 (by simp)).trans (hcc1 1 (by omega))
      have c2 : wr.cell? ⟨b1, off1 + k * 8 + 2, none⟩ = some (.string x.ev.data) := (hOw.cell hb1 (by simp)).trans (hcc1 2 (by omega))
      have c3 : wr.cell? ⟨b1, off1 + k * 8 + 3, none⟩ = some (.float .f64 x.ev.value) := (hOw.cell hb1 (by simp)).trans (hcc1 3 (by omega))
      have c4 : wr.cell? ⟨b1, off1 + k * 8 + 4, none⟩ = some (.string x.stream) := (hOw.cell hb1 (by simp)).trans (hcc1 4 (by omega))
      have c5 : wr.cell? ⟨b1, off1 + k * 8 + 5, none⟩ = some (.int .i64 x.version) := (hOw.cell hb1 (by simp)).trans (hcc1 5 (by omega))
      have c6 : wr.cell? ⟨b1, off1 + k * 8 + 6, none⟩ = some (.int .i64 x.position) := (hOw.cell hb1 (by simp)).trans (hcc1 6 (by omega))
      have c7 : wr.cell? ⟨b1, off1 + k * 8 + 7, none⟩ = some (.int .i64 x.time) := (hOw.cell hb1 (by simp)).trans (hcc1 7 (by omega))
      have d0 : wr.cell? ⟨b2, off2 + k * 8, none⟩ = some (.int .i64 x.ev.id) := (hOw.cell hb2 (by simp)).trans (hcc2 0 (by omega))
      have d1 : wr.cell? ⟨b2, off2 + k * 8 + 1, none⟩ = some (.string x.ev.type) := (hOw.cell hb2 (by simp)).trans (hcc2 1 (by omega))
      have d2 : wr.cell? ⟨b2, off2 + k * 8 + 2, none⟩ = some (.string x.ev.data) := (hOw.cell hb2 (by simp)).trans (hcc2 2 (by omega))
      have d3 : wr.cell? ⟨b2, off2 + k * 8 + 3, none⟩ = some (.float .f64 x.ev.value) := (hOw.cell hb2 (by simp)).trans (hcc2 3 (by omega))
      have d4 : wr.cell? ⟨b2, off2 + k * 8 + 4, none⟩ = some (.string x.stream) := (hOw.cell hb2 (by simp)).trans (hcc2 4 (by omega))
      have d5 : wr.cell? ⟨b2, off2 + k * 8 + 5, none⟩ = some (.int .i64 x.version) := (hOw.cell hb2 (by simp)).trans (hcc2 5 (by omega))
      have d6 : wr.cell? ⟨b2, off2 + k * 8 + 6, none⟩ = some (.int .i64 x.position) := (hOw.cell hb2 (by simp)).trans (hcc2 6 (by omega))
      have d7 : wr.cell? ⟨b2, off2 + k * 8 + 7, none⟩ = some (.int .i64 x.time) := (hOw.cell hb2 (by simp)).trans (hcc2 7 (by omega))
      have F0 := Within.cell (S := []) c0 (by simp)
      have F1 := Within.cell (S := []) c1 (by simp)
      have F2 := Within.cell (S := []) c2 (by simp)
      have F3 := Within.cell (S := []) c3 (by simp)
      have F4 := Within.cell (S := []) c4 (by simp)
      have F5 := Within.cell (S := []) c5 (by simp)
      have F6 := Within.cell (S := []) c6 (by simp)
      have F7 := Within.cell (S := []) c7 (by simp)
      have G0 := Within.cell (S := []) d0 (by simp)
      have G1 := Within.cell (S := []) d1 (by simp)
      have G2 := Within.cell (S := []) d2 (by simp)
      have G3 := Within.cell (S := []) d3 (by simp)
      have G4 := Within.cell (S := []) d4 (by simp)
      have G5 := Within.cell (S := []) d5 (by simp)
      have G6 := Within.cell (S := []) d6 (by simp)
      have G7 := Within.cell (S := []) d7 (by simp)
      have HS := Lib.hid fun (W : World) => HSa.out x W
      rw [sameS_refl] at HS
      clear c0 c1 c2 c3 c4 c5 c6 c7 d0 d1 d2 d3 d4 d5 d6 d7 hcc1 hcc2 hx he1 he2 HSa
      go_wp2_with fail
      refine wp_region_in [] [0, 1, 2, 3, 4, 5, 6, 7, 8, 9] [] [10, 11] (by kernel_rfl) (by kernel_rfl) (by intro c d u a w h; cases d <;> exact h) ?_
      show wpQuiet _ _ _ _ [_, _, _, _, _, _, _, _, _, _] _
      repeat (go_big_quiet_step (fail))
      refine wpQuiet_nil ?_
      show wpList _ _ _ [_, _] _ _
      go_wp2_with (go_at_call 23; refine (HS.out _).mono ?_; rintro e w1 ⟨rfl, ho1⟩)
      go_round
      case rel => exact ⟨k + 1, hlt, by simp, hO.trans ((Only.refl [] wr).drew.trans ho1)⟩
      case measure => simp [intOf]; omega
    · have hki : ¬ (k : Int) < l.length := by omega
      clear he1 he2
      go_wp2
      go_ret
      exact ⟨rfl, hO1.trans hO⟩
end Go.Proofs.YtikboecmcbcghaaGreat
/- Contract of chronicleref7.Same: a command with equal contents. -/
set_option linter.unusedVariables false
set_option linter.unusedSimpArgs false
namespace Go.Proofs.YtikboecmcbcghaaGreat
open Go Go.RowKit Go.Sort
theorem sameE_refl (x : EventR) : sameE x x = true := by simp [sameE, sameF]
set_option maxRecDepth 100000 in
set_option maxHeartbeats 2000000 in
theorem r7same_go (kind time : Int) (stream : ByteArray) (ex : Int) (l : List EventR) (a b d : Int) {w : World} {v1 v2 : Value} (h1 : Slc w 4 v1 l.length (l.flatMap EventR.cells)) (h2 : Slc w 4 v2 l.length (l.flatMap EventR.cells)) :
    Calls Tryz.prog 13 #[.agg #[.int .i64 kind, .int .i64 time, .string stream, .int .i64 ex, v1, .int .i64 a, .int .i64 b, .int .i64 d], .agg #[.int .i64 kind, .int .i64 time, .string stream, .int .i64 ex, v2, .int .i64 a, .int .i64 b, .int .i64 d]] w fun e w' => e = .returned (.bool true) ∧ Only [] w w' := by
  obtain ⟨A1, c1, rfl, hl1, hm1, he1⟩ := h1.openE EventR.cells (fun _ => rfl)
  obtain ⟨A2, c2, rfl, -, hm2, he2⟩ := h2.openE EventR.cells (fun _ => rfl)
  unfold maxLen at hm1 hm2
  obtain ⟨W1, hW1⟩ : ∃ W1, W1 = (w.alloc (.cells #[.int .i64 kind, .int .i64 time, .string stream, .int .i64 ex, .slice A1 l.length c1, .int .i64 a, .int .i64 b, .int .i64 d] 47)).alloc (.cells #[.int .i64 kind, .int .i64 time, .string stream, .int .i64 ex, .slice A2 l.length c2, .int .i64 a, .int .i64 b, .int .i64 d] 47) := ⟨_, rfl⟩
  have hO1 : Only [] w W1 := by rw [hW1]; exact ((Only.refl _ _).alloc _).alloc _
  have hBa : Blk W1 w.heap.size 47 #[.int .i64 kind, .int .i64 time, .string stream, .int .i64 ex, .slice A1 l.length c1, .int .i64 a, .int .i64 b, .int .i64 d] := by rw [hW1]; exact ((Only.refl [] _).alloc _).blk (Blk.new _ _ _) (by simp)
  have hBb : Blk W1 (w.heap.size + 1) 47 #[.int .i64 kind, .int .i64 time, .string stream, .int .i64 ex, .slice A2 l.length c2, .int .i64 a, .int .i64 b, .int .i64 d] := by
    have := Blk.new (w.alloc (.cells #[.int .i64 kind, .int .i64 time, .string stream, .int .i64 ex, .slice A1 l.length c1, .int .i64 a, .int .i64 b, .int .i64 d] 47)) 47 #[.int .i64 kind, .int .i64 time, .string stream, .int .i64 ex, .slice A2 l.length c2, .int .i64 a, .int .i64 b, .int .i64 d]
    rw [hW1]
    simpa using this
  have HW := Lib.hid hW1
  have HSa := Lib.hid fun (x : EventR) (W : World) => r7sameE_any x x W
  clear hW1 h1 h2
  go_enter Tryz.func13, Tryz.ntmps13
  go_wp2_with fail
  rw [← HW.out]
  go_loopw [5] (fun i wr => ∃ k : Nat, k ≤ l.length ∧ i = .int .i64 k ∧ Only [] W1 wr) (fun i _ => l.length - (intOf i).toNat)
  case atStart => exact ⟨0, Nat.zero_le _, rfl, Only.refl _ _⟩
  case round =>
    obtain ⟨k, hk, rfl, hO⟩ := hrel
    have p1 : wr.cell? ⟨w.heap.size, 4, none⟩ = some (.slice A1 l.length c1) := (hO.blk hBa (by simp)).cell 4
    have p2 : wr.cell? ⟨w.heap.size + 1, 4, none⟩ = some (.slice A2 l.length c2) := (hO.blk hBb (by simp)).cell 4
    have P1 := Within.cell (S := []) p1 (by simp)
    have P2 := Within.cell (S := []) p2 (by simp)
    by_cases hlt : k < l.length
    · have hki : (k : Int) < l.length := by omega
      have e9 := IntWalk.i64_in ((k : Int) + 1) ⟨by omega, by omega⟩
      obtain ⟨b1, off1, rfl, hb1, hcc1⟩ := he1 k hlt
      obtain ⟨b2, off2, rfl, hb2, hcc2⟩ := he2 k hlt
      have hOw := hO1.trans hO
      obtain ⟨x, hx⟩ : ∃ x, x = l[k] := ⟨_, rfl⟩
      rw [← hx] at hcc1 hcc2
      have c0 : wr.cell? ⟨b1, off1 + k * 4, none⟩ = some (.int .i64 x.id) := (hOw.cell hb1 (by simp)).trans (hcc1 0 (by omega))
      have c1 : wr.cell? ⟨b1, off1 + k * 4 + 1, none⟩ = some (.string x.type) := (hOw.cell hb1 (by simp)).trans (hcc1 1 (by omega))
      have c2 : wr.cell? ⟨b1, off1 + k * 4 + 2, none⟩ = some (.string x.data) := (hOw.cell hb1 (by simp)).trans (hcc1 2 (by omega))
      have c3 : wr.cell? ⟨b1, off1 + k * 4 + 3, none⟩ = some (.float .f64 x.value) := (hOw.cell hb1 (by simp)).trans (hcc1 3 (by omega))
      have d0 : wr.cell? ⟨b2, off2 + k * 4, none⟩ = some (.int .i64 x.id) := (hOw.cell hb2 (by simp)).trans (hcc2 0 (by omega))
      have d1 : wr.cell? ⟨b2, off2 + k * 4 + 1, none⟩ = some (.string x.type) := (hOw.cell hb2 (by simp)).trans (hcc2 1 (by omega))
      have d2 : wr.cell? ⟨b2, off2 + k * 4 + 2, none⟩ = some (.string x.data) := (hOw.cell hb2 (by simp)).trans (hcc2 2 (by omega))
      have d3 : wr.cell? ⟨b2, off2 + k * 4 + 3, none⟩ = some (.float .f64 x.value) := (hOw.cell hb2 (by simp)).trans (hcc2 3 (by omega))
      have F0 := Within.cell (S := []) c0 (by simp)
      have F1 := Within.cell (S := []) c1 (by simp)
      have F2 := Within.cell (S := []) c2 (by simp)
      have F3 := Within.cell (S := []) c3 (by simp)
      have G0 := Within.cell (S := []) d0 (by simp)
      have G1 := Within.cell (S := []) d1 (by simp)
      have G2 := Within.cell (S := []) d2 (by simp)
      have G3 := Within.cell (S := []) d3 (by simp)
      have HS := Lib.hid fun (W : World) => HSa.out x W
      rw [sameE_refl] at HS
      clear c0 c1 c2 c3 d0 d1 d2 d3 hcc1 hcc2 hx he1 he2 HSa
      go_wp2_with fail
      refine wp_region_in [] [0, 1, 2, 3, 4, 5, 6, 7, 8, 9] [] [10, 11] (by kernel_rfl) (by kernel_rfl) (by intro c d u a w h; cases d <;> exact h) ?_
      show wpQuiet _ _ _ _ [_, _, _, _, _, _, _, _, _, _] _
      repeat (go_big_quiet_step (fail))
      refine wpQuiet_nil ?_
      show wpList _ _ _ [_, _] _ _
      go_wp2_with (go_at_call 50; refine (HS.out _).mono ?_; rintro e w1 ⟨rfl, ho1⟩)
      go_round
      case rel => exact ⟨k + 1, hlt, by simp, hO.trans ((Only.refl [] wr).drew.trans ho1)⟩
      case measure => simp [intOf]; omega
    · have hki : ¬ (k : Int) < l.length := by omega
      clear he1 he2
      go_wp2
      go_ret
      exact ⟨rfl, hO1.trans hO⟩
theorem r7same_refl (c : Cmd) {w : World} {v1 v2 : Value} (h1 : Slc w 4 v1 c.events.length (c.events.flatMap EventR.cells)) (h2 : Slc w 4 v2 c.events.length (c.events.flatMap EventR.cells)) :
    Calls Tryz.prog 13 #[c.val v1, c.val v2] w fun e w' => e = .returned (.bool true) ∧ Only [] w w' := by
  obtain ⟨kind, time, stream, ex, l, ⟨a, b, d⟩⟩ := c
  exact r7same_go kind time stream ex l a b d h1 h2
end Go.Proofs.YtikboecmcbcghaaGreat
/- Opening []api.Command. -/
set_option linter.unusedVariables false
set_option linter.unusedSimpArgs false
namespace Go.Proofs.YtikboecmcbcghaaGreat
open Go.ChangeShapes Go.WideShapes Go.ChangeAt Go.RowKit Go.WideElems Go.ChangeMaps Go.Deep Go.Sort
/-- A command, and the slice of its events. -/
structure CmdV where
  c : Cmd
  ev : Value
def CmdV.cells (x : CmdV) : List Value := [.int .i64 x.c.kind, .int .i64 x.c.time, .string x.c.stream, .int .i64 x.c.expected, x.ev, .int .i64 x.c.mt.maxCount, .int .i64 x.c.mt.maxAge, .int .i64 x.c.mt.before]
structure CmdV.Ok (W : World) (x : CmdV) : Prop where
  ok : CmdOk x.c
  slc : Slc W 4 x.ev x.c.events.length (x.c.events.flatMap EventR.cells)
  own : ∀ g, x.ev.ownBlock = some g → g < W.heap.size ∨ x.c.events = []
section
variable {H : Type} {enc : TypeId × Value → H} {W : World}
end
/-- Commands that lie below the world a. -/
structure CmdsAt (a w : World) (v : Value) (l : List CmdV) : Prop where
  slc : Slc w 8 v l.length (l.flatMap CmdV.cells)
  own : ∀ g, v.ownBlock = some g → g < a.heap.size ∨ l = []
  cmd : ∀ x ∈ l, CmdOk x.c ∧ Slc w 4 x.ev x.c.events.length (x.c.events.flatMap EventR.cells) ∧ ∀ g, x.ev.ownBlock = some g → g < a.heap.size ∨ x.c.events = []
section
variable {a w w' : World} {R : List Nat} {v : Value} {l : List CmdV}
theorem CmdsAt.of {W : World} (h1 : Slc W 8 v l.length (l.flatMap CmdV.cells)) (h2 : ∀ o ∈ l, o.Ok W ∧ o.cells.length = 8) (h3 : ∀ g, v.ownBlock = some g → g < W.heap.size ∨ l = []) : CmdsAt W W v l :=
  ⟨h1, h3, fun x hx => ⟨(h2 x hx).1.ok, (h2 x hx).1.slc, (h2 x hx).1.own⟩⟩
theorem Keeps.slcE {size n : Nat} {u : Value} {cs : List Value} {E : Type} {os : List E} (h : Keeps a R w w') (hn : n = os.length) (hs : Slc w size u n cs) (hg : ∀ g, u.ownBlock = some g → g < a.heap.size ∨ os = []) : Slc w' size u n cs := by
  by_cases h0 : os = []
  · subst h0
    subst hn
    exact hs.empty
  · exact h.slc hs (fun g q => .inl ((hg g q).resolve_right h0))
theorem CmdsAt.keep (h : CmdsAt a w v l) (k : Keeps a R w w') : CmdsAt a w' v l :=
  ⟨k.slcE rfl h.slc h.own, h.own, fun x hx => ⟨(h.cmd x hx).1, k.slcE rfl (h.cmd x hx).2.1 (h.cmd x hx).2.2, (h.cmd x hx).2.2⟩⟩
theorem CmdsAt.keep0 (h : CmdsAt a w v l) (k : Only [] w w') : CmdsAt a w' v l := h.keep (R := []) (.of0 k)
theorem CmdsAt.ev (h : CmdsAt a w v l) {E : List Nat} {x : CmdV} (hx : x ∈ l) : EvIn a w E x.ev x.c.events := ⟨(h.cmd x hx).2.1, fun g hg => by
  rcases (h.cmd x hx).2.2 g hg with q | q
  · exact .inl (.inl q)
  · exact .inr (by rw [q]; rfl)⟩
/-- The cells of the command at j. -/
theorem CmdsAt.cells (h : CmdsAt a w v l) : ∃ A cap, v = .slice A l.length cap ∧ l.length ≤ cap ∧ cap ≤ maxLen ∧ ∀ j (hj : j < l.length), ∃ b off, A = some ⟨b, off, none⟩ ∧ b < w.heap.size ∧ b < a.heap.size ∧ ∀ r, r < 8 → w.cell? ⟨b, off + j * 8 + r, none⟩ = (l[j].cells)[r]? := by
  obtain ⟨A, cap, rfl, h1, h2, h3⟩ := h.slc.openE CmdV.cells (fun _ => rfl)
  refine ⟨A, cap, rfl, h1, h2, fun j hj => ?_⟩
  obtain ⟨b, off, rfl, q1, q2⟩ := h3 j hj
  refine ⟨b, off, rfl, q1, ?_, q2⟩
  rcases h.own b rfl with q | q
  · exact q
  · rw [q] at hj
    simp at hj
end
end Go.Proofs.YtikboecmcbcghaaGreat
/- Small, Light, run. -/
set_option linter.unusedVariables false
set_option linter.unusedSimpArgs false
namespace Go.Proofs.YtikboecmcbcghaaGreat
open Go.RowKit Go.Sort
def RetB (e : Ending) (Q : Bool → Prop) : Prop := ∃ b : Bool, e = .returned (.bool b) ∧ Q b
theorem RetB.mk {b : Bool} {Q : Bool → Prop} (h : Q b) : RetB (.returned (.bool b)) Q := ⟨b, rfl, h⟩
section
variable {a w : World} {v : Value} {l : List CmdV}
variable {R E : List Nat} {sb mb N : Nat} {s : MS}
end
end Go.Proofs.YtikboecmcbcghaaGreat
/- Contracts: the document's Check, of an append of one event. -/
set_option linter.unusedVariables false
set_option linter.unusedSimpArgs false
namespace Go.Proofs.YtikboecmcbcghaaGreat
open Go.RowKit Go.Sort
set_option maxHeartbeats 800000 in
theorem r1stream_any (s : ByteArray) (w : World) (hs : s.size ≤ maxLen) : Calls Tryz.prog 66 #[.string s] w fun e w' => e = .returned (.bool (nameOk s)) ∧ w = w' := by
  unfold maxLen at hs
  by_cases h1 : s.size < 1
  · go_enter Tryz.func66, Tryz.ntmps66
    go_wp2
    go_ret
    exact ⟨ret_b (by simp [nameOk]; omega), rfl⟩
  · by_cases h2 : 60 < s.size
    · go_enter Tryz.func66, Tryz.ntmps66
      go_wp2
      go_ret
      exact ⟨ret_b (by simp [nameOk]; omega), rfl⟩
    · have hn : Hid (nameOk s = s.data.toList.all okByte) := by
        unfold Hid nameOk
        rw [decide_eq_true (by omega : 1 ≤ s.size), decide_eq_true (by omega : s.size ≤ 60)]
        simp
      go_enter Tryz.func66, Tryz.ntmps66
      go_wp2
      go_loop [3] (fun i => ∃ k : Nat, k ≤ s.size ∧ i = .int .i64 k ∧ Hid ((s.data.toList.take k).all okByte = true)) (fun i => s.size - (intOf i).toNat)
      case atStart => exact ⟨0, Nat.zero_le _, rfl, by simp [Hid]⟩
      case round =>
        obtain ⟨k, hk, rfl, hT⟩ := hrel
        by_cases hlt : k < s.size
        · have hb256 : (s[k].toNat : Int) < 256 := by have := s[k].toNat_lt; omega
          have hnext : Hid (okByte s[k] = true → (s.data.toList.take (k + 1)).all okByte = true) := by
            intro q
            rw [all_take k hlt, hT.out, q]
            rfl
          have hend : Hid (okByte s[k] = false → nameOk s = false) := by
            intro q
            rw [hn.out]
            exact all_false (k := k) (by simpa using hlt) q
          by_cases c1 : (s[k].toNat : Int) < 33
          · have hq : Hid (nameOk s = false) := hend.out (by simp only [okByte, decide_eq_true c1]; simp)
            clear hend hnext
            go_wp2
            go_ret
            exact ⟨ret_b (by rw [hq.out]), rfl⟩
          · by_cases c2 : 126 < (s[k].toNat : Int)
            · have hq : Hid (nameOk s = false) := hend.out (by simp only [okByte, decide_eq_true c2]; simp)
              clear hend hnext
              go_wp2
              go_ret
              exact ⟨ret_b (by rw [hq.out]), rfl⟩
            · by_cases c3 : (s[k].toNat : Int) = 64
              · have e3 : ((s[k].toNat : Int) == 64) = true := by simpa using c3
                have hq : Hid (nameOk s = false) := hend.out (by simp only [okByte, c3]; simp)
                clear hend hnext c3
                go_wp2
                go_ret
                exact ⟨ret_b (by rw [hq.out]), rfl⟩
              · have e3 : ((s[k].toNat : Int) == 64) = false := by simpa using c3
                have hq := Lib.hid (hnext.out (by simp only [okByte, decide_eq_false c1, decide_eq_false c2, decide_eq_false c3]; rfl))
                clear hend hnext c3
                go_wp2
                go_round
                case rel => exact ⟨k + 1, hlt, by go_num, hq⟩
                case measure => simp [intOf]; omega
        · have hfin : Hid (nameOk s = true) := by
            have := hT.out
            rw [List.take_of_length_le (by simp; omega)] at this
            unfold Hid
            rw [hn.out, this]
          go_wp2
          go_ret
          exact ⟨ret_b (by rw [hfin.out]), rfl⟩

end Go.Proofs.YtikboecmcbcghaaGreat
/- Light, and what it tells of the events. -/
set_option linter.unusedVariables false
set_option linter.unusedSimpArgs false
namespace Go.Proofs.YtikboecmcbcghaaGreat
open Go.RowKit
set_option maxRecDepth 100000 in
set_option maxHeartbeats 2000000 in
theorem small12_any {w : World} {c : Cmd} {ev : Value} (hc : CmdOk c) (he : Slc w 4 ev c.events.length (c.events.flatMap EventR.cells)) :
    Calls Tryz.prog 25 #[c.val ev] w fun e w' => RetB e (fun b => b = true → c.events.length ≤ 12) ∧ Only [] w w' := by
  obtain ⟨A, cap, rfl, hnc, hcm, hel⟩ := he.openE EventR.cells (fun _ => rfl)
  unfold maxLen at hcm
  have hst := hc.stream
  unfold maxLen at hst
  have hes := hc.evs
  obtain ⟨W1, hW1⟩ : ∃ W1, W1 = w.alloc (.cells #[.int .i64 c.kind, .int .i64 c.time, .string c.stream, .int .i64 c.expected, .slice A c.events.length cap, .int .i64 c.mt.maxCount, .int .i64 c.mt.maxAge, .int .i64 c.mt.before] 47) := ⟨_, rfl⟩
  have hB := Blk.new w 47 #[.int .i64 c.kind, .int .i64 c.time, .string c.stream, .int .i64 c.expected, .slice A c.events.length cap, .int .i64 c.mt.maxCount, .int .i64 c.mt.maxAge, .int .i64 c.mt.before]
  have hO1 := (Only.refl [] w).alloc (.cells #[.int .i64 c.kind, .int .i64 c.time, .string c.stream, .int .i64 c.expected, .slice A c.events.length cap, .int .i64 c.mt.maxCount, .int .i64 c.mt.maxAge, .int .i64 c.mt.before] 47)
  rw [← hW1] at hB hO1
  rw [show c.val (.slice A c.events.length cap) = .agg #[.int .i64 c.kind, .int .i64 c.time, .string c.stream, .int .i64 c.expected, .slice A c.events.length cap, .int .i64 c.mt.maxCount, .int .i64 c.mt.maxAge, .int .i64 c.mt.before] from rfl]
  have HW := Lib.hid hW1
  clear hW1
  go_enter Tryz.func25, Tryz.ntmps25
  go_wp2
  rw [← HW.out]
  go_loopw [3] (fun i wr => ∃ k : Nat, k ≤ 20 ∧ i = .int .i64 k ∧ Only [] W1 wr) (fun i _ => 20 - (intOf i).toNat)
  case atStart => exact ⟨0, by omega, rfl, Only.refl _ _⟩
  case round =>
    obtain ⟨k, hk, rfl, hO⟩ := hrel
    have hb := fun i => (hO.blk hB (by simp)).cell i
    have hend : ∀ W, Only [] wr W → Only [] w W := fun W h => (hO1.trans hO).trans h
    have HEnd := Lib.hid hend
    clear hend
    by_cases hlt : k < c.events.length
    · by_cases h20 : k < 20
      · obtain ⟨b, off, rfl, hbb, hcc⟩ := hel k hlt
        obtain ⟨y, hy⟩ : ∃ y, y = c.events[k] := ⟨_, rfl⟩
        have hys := hes y (by rw [hy]; exact List.getElem_mem hlt)
        rw [← hy] at hcc
        have c1 : wr.cell? ⟨b, off + k * 4 + 1, none⟩ = some (.string y.type) := ((hO1.trans hO).cell hbb (by simp)).trans (hcc 1 (by omega))
        have c2 : wr.cell? ⟨b, off + k * 4 + 2, none⟩ = some (.string y.data) := ((hO1.trans hO).cell hbb (by simp)).trans (hcc 2 (by omega))
        obtain ⟨hy1, hy2⟩ := hys
        unfold maxLen at hy1 hy2
        clear hcc hes hy hel he
        by_cases h1 : y.type.size > 100
        · go_wp2
          go_ret
          first | exact ⟨⟨_, rfl, rfl⟩, HEnd.out _ (Only.refl _ _)⟩ | exact ⟨⟨_, rfl, fun q => by first | exact h12 | (simp at q; done) | (simp at q; omega)⟩, HEnd.out _ (Only.refl _ _)⟩
        · by_cases h2 : y.data.size > 300
          · go_wp2
            go_ret
            first | exact ⟨⟨_, rfl, rfl⟩, HEnd.out _ (Only.refl _ _)⟩ | exact ⟨⟨_, rfl, fun q => by first | exact h12 | (simp at q; done) | (simp at q; omega)⟩, HEnd.out _ (Only.refl _ _)⟩
          · go_wp2
            exact ⟨⟨k + 1, by omega, by simp, hO⟩, by simp [intOf]; omega⟩
      · clear hel he hes
        by_cases h12 : c.events.length ≤ 12
        · omega
        · go_wp2
          go_ret
          first | exact ⟨⟨_, rfl, rfl⟩, HEnd.out _ (Only.refl _ _)⟩ | exact ⟨⟨_, rfl, fun q => by first | exact h12 | (simp at q; done) | (simp at q; omega)⟩, HEnd.out _ (Only.refl _ _)⟩
    · clear hel he hes
      by_cases h12 : c.events.length ≤ 12
      · go_wp2
        go_ret
        first | exact ⟨⟨_, rfl, rfl⟩, HEnd.out _ (Only.refl _ _)⟩ | exact ⟨⟨_, rfl, fun q => by first | exact h12 | (simp at q; done) | (simp at q; omega)⟩, HEnd.out _ (Only.refl _ _)⟩
      · go_wp2
        go_ret
        first | exact ⟨⟨_, rfl, rfl⟩, HEnd.out _ (Only.refl _ _)⟩ | exact ⟨⟨_, rfl, fun q => by first | exact h12 | (simp at q; done) | (simp at q; omega)⟩, HEnd.out _ (Only.refl _ _)⟩
section
variable {a w : World} {v : Value} {l : List CmdV}
set_option maxRecDepth 100000 in
set_option maxHeartbeats 2000000 in
theorem light12_any (h : CmdsAt a w v l) (few : Nat) (hf : few ≤ 1000) :
    Calls Tryz.prog 4 #[.int .i64 few, v] w fun e w' => RetB e (fun b => b = true → l.length ≤ few ∧ ∀ x ∈ l, x.c.events.length ≤ 12) ∧ Only [] w w' := by
  obtain ⟨A, cap, rfl, hnc, hcm, hel⟩ := h.cells
  unfold maxLen at hcm
  go_enter Tryz.func4, Tryz.ntmps4
  go_wp2
  go_loopw [5] (fun i wr => ∃ k : Nat, k ≤ few ∧ i = .int .i64 k ∧ Only [] w wr ∧ Hid (∀ x ∈ l.take k, x.c.events.length ≤ 12)) (fun i _ => few - (intOf i).toNat)
  case atStart => exact ⟨0, by omega, rfl, Only.refl _ _, by simp [Hid]⟩
  case round =>
    obtain ⟨k, hk, rfl, hO, hsm12⟩ := hrel
    by_cases hlt : k < l.length
    · by_cases h20 : k < few
      · have hcell : ∀ b (h1 : b < w.heap.size) (h2 : b < a.heap.size) (i : Nat), wr.cell? ⟨b, i, none⟩ = w.cell? ⟨b, i, none⟩ := fun b h1 h2 i => hO.cell h1 (by simp)
        obtain ⟨b, off, rfl, hbb, hba, hcc⟩ := hel k hlt
        obtain ⟨x, hx⟩ : ∃ x, x = l[k] := ⟨_, rfl⟩
        have hxm : x ∈ l := by rw [hx]; exact List.getElem_mem hlt
        rw [← hx] at hcc
        have hxo := (h.cmd x hxm).1
        obtain ⟨Ax, capx, hxv, hx1, hx2, _⟩ := (h.cmd x hxm).2.1.openE EventR.cells (fun _ => rfl)
        have c0 : wr.cell? ⟨b, off + k * 8, none⟩ = some (.int .i64 x.c.kind) := (hcell b hbb hba _).trans (hcc 0 (by omega))
        have c1 : wr.cell? ⟨b, off + k * 8 + 1, none⟩ = some (.int .i64 x.c.time) := (hcell b hbb hba _).trans (hcc 1 (by omega))
        have c2 : wr.cell? ⟨b, off + k * 8 + 2, none⟩ = some (.string x.c.stream) := (hcell b hbb hba _).trans (hcc 2 (by omega))
        have c3 : wr.cell? ⟨b, off + k * 8 + 3, none⟩ = some (.int .i64 x.c.expected) := (hcell b hbb hba _).trans (hcc 3 (by omega))
        have c4 : wr.cell? ⟨b, off + k * 8 + 4, none⟩ = some (.slice Ax x.c.events.length capx) := (hcell b hbb hba _).trans ((hcc 4 (by omega)).trans (by rw [← hxv]; rfl))
        have c5 : wr.cell? ⟨b, off + k * 8 + 5, none⟩ = some (.int .i64 x.c.mt.maxCount) := (hcell b hbb hba _).trans (hcc 5 (by omega))
        have c6 : wr.cell? ⟨b, off + k * 8 + 6, none⟩ = some (.int .i64 x.c.mt.maxAge) := (hcell b hbb hba _).trans (hcc 6 (by omega))
        have c7 : wr.cell? ⟨b, off + k * 8 + 7, none⟩ = some (.int .i64 x.c.mt.before) := (hcell b hbb hba _).trans (hcc 7 (by omega))
        have HTk : Hid (l.take (k + 1) = l.take k ++ [x]) := by unfold Hid; rw [List.take_succ_eq_append_getElem hlt, ← hx]
        have hsm := small12_any (w := wr) hxo ((h.cmd x hxm).2.1.only0 hO)
        rw [hxv] at hsm
        unfold Cmd.val at hsm
        have HS := Lib.hid hsm
        clear hcc hel hx hxv hsm hcell
        go_wp2_with (go_at_call 25; refine HS.out.mono ?_; rintro e w1 ⟨⟨bb, rfl, hb12⟩, ho1⟩; have HB12 := Lib.hid hb12; clear hb12; cases bb)
        · go_ret
          exact ⟨⟨false, rfl, fun q => by cases q⟩, hO.trans ho1⟩
        · exact ⟨⟨k + 1, by omega, by simp, hO.trans ho1, fun y hy => by rw [HTk.out] at hy; rcases List.mem_append.1 hy with q | q; exact hsm12.out y q; simp at q; rw [q]; first | exact HB12.out rfl | exact HB12.out trivial | exact HB12.out⟩, by simp [intOf]; omega⟩
      · clear hel
        have h2 : ¬ (l.length ≤ few) := by omega
        go_wp2
        go_ret
        exact ⟨⟨_, rfl, fun q => by simp at q <;> omega⟩, hO⟩
    · clear hel
      have h2 : l.length ≤ few := by omega
      go_wp2
      go_ret
      exact ⟨⟨_, rfl, fun q => ⟨h2, fun y hy => hsm12.out y (by rw [List.take_of_length_le (by omega)]; exact hy)⟩⟩, hO⟩
end
end Go.Proofs.YtikboecmcbcghaaGreat
/- Contract of the document's Read. -/
set_option linter.unusedVariables false
set_option linter.unusedSimpArgs false
namespace Go.Proofs.YtikboecmcbcghaaGreat
open Go Go.RowKit Go.Sort
section
variable {a w : World} {H : List Nat} {rb : Nat} {r : RS}
set_option maxRecDepth 100000 in
set_option maxHeartbeats 4000000 in
theorem dread_bad (nm : ByteArray) (hs : nm.size ≤ maxLen) (f n : Int) (back : Bool) (l : List StoredR) (hw : (nameOk nm && decide (0 ≤ f) && decide (1 ≤ n) && decide (n ≤ 100)) = false) :
    Calls Tryz.prog 16 #[.pointer (some ⟨rb, 0, none⟩), .string nm, .int .i64 f, .int .i64 n, .bool back] w (PageOut w StoredR.version l f n (PageR.zero, 1)) := by
  have HS := Lib.hid fun (W : World) => r1stream_any nm W hs
  cases hn : nameOk nm with
  | false =>
    rw [hn] at HS
    clear hw
    go_enter Tryz.func16, Tryz.ntmps16
    go_wp2_with (go_at_call 66; refine (HS.out _).mono ?_; rintro e1 w1 ⟨rfl, rfl⟩)
    exact bodyPost_ret (v := .tuple #[.agg #[.slice none 0 0, .int .i64 0, .bool false], .int .i64 1]) (by simp [results, Tryz.results16, go_sem]) rfl ⟨_, rfl, World.ownsRow_nil _ _ _ _, (Only.refl [] w).alloc _⟩
  | true =>
    rw [hn] at HS
    by_cases h1 : f < 0
    · clear hw
      go_enter Tryz.func16, Tryz.ntmps16
      go_wp2_with (go_at_call 66; refine (HS.out _).mono ?_; rintro e1 w1 ⟨rfl, rfl⟩)
      exact bodyPost_ret (v := .tuple #[.agg #[.slice none 0 0, .int .i64 0, .bool false], .int .i64 1]) (by simp [results, Tryz.results16, go_sem]) rfl ⟨_, rfl, World.ownsRow_nil _ _ _ _, (Only.refl [] w).alloc _⟩
    · by_cases h2 : n < 1
      · clear hw
        go_enter Tryz.func16, Tryz.ntmps16
        go_wp2_with (go_at_call 66; refine (HS.out _).mono ?_; rintro e1 w1 ⟨rfl, rfl⟩)
        exact bodyPost_ret (v := .tuple #[.agg #[.slice none 0 0, .int .i64 0, .bool false], .int .i64 1]) (by simp [results, Tryz.results16, go_sem]) rfl ⟨_, rfl, World.ownsRow_nil _ _ _ _, (Only.refl [] w).alloc _⟩
      · have h3 : n > 100 := by
          rw [hn] at hw
          simp at hw
          omega
        clear hw
        go_enter Tryz.func16, Tryz.ntmps16
        go_wp2_with (go_at_call 66; refine (HS.out _).mono ?_; rintro e1 w1 ⟨rfl, rfl⟩)
        exact bodyPost_ret (v := .tuple #[.agg #[.slice none 0 0, .int .i64 0, .bool false], .int .i64 1]) (by simp [results, Tryz.results16, go_sem]) rfl ⟨_, rfl, World.ownsRow_nil _ _ _ _, (Only.refl [] w).alloc _⟩
set_option maxRecDepth 100000 in
set_option maxHeartbeats 4000000 in
theorem dread_any (h : HasD a w H rb r) (hf : r.Fine) (nm : ByteArray) (hs : nm.size ≤ maxLen) (f n : Int) (back : Bool) (hk : ∀ s ∈ r.l, 0 ≤ s.version ∧ s.version ≤ 1000000000) :
    Calls Tryz.prog 16 #[.pointer (some ⟨rb, 0, none⟩), .string nm, .int .i64 f, .int .i64 n, .bool back] w (PageOut w StoredR.version (r.seenD nm) f n (r.readD nm f n back)) := by
  cases hw : (nameOk nm && decide (0 ≤ f) && decide (1 ≤ n) && decide (n ≤ 100)) with
  | false =>
    have e : r.readD nm f n back = (PageR.zero, 1) := by unfold RS.readD; rw [if_pos hw]
    rw [e]
    exact dread_bad nm hs f n back _ hw
  | true =>
    have HS := Lib.hid fun (W : World) => r1stream_any nm W hs
    have hq : (nameOk nm = true ∧ ¬ f < 0) ∧ ¬ n < 1 ∧ ¬ n > 100 := by
      simp at hw
      exact ⟨⟨hw.1.1.1, by omega⟩, by omega, by omega⟩
    obtain ⟨⟨hn, hf0⟩, hn1, hn2⟩ := hq
    rw [hn] at HS
    have HGt := Lib.hid fun (W : World) (k : Only [] w W) => dget_any (h.keep0 k) nm
    have HOf := Lib.hid fun (W : World) (k : Only [] w W) => dof_any (h.keep0 k) hf.few nm
    have HSn := Lib.hid fun (W : World) (k : Only [] w W) => dseen_any (h.keep0 k) hf nm
    have hofl : (r.of nm).length ≤ 1000000 := Nat.le_trans (List.length_filter_le _ _) hf.few
    have hfew : (r.seenD nm).length ≤ 1000000 := Nat.le_trans (List.length_filter_le _ _) hf.few
    have hk2 : ∀ s ∈ r.seenD nm, 0 ≤ s.version ∧ s.version ≤ 1000000000 := fun s hs => hk s (List.mem_filter.1 hs).1
    have hfd3 := fldD3
    have hO1 : Only [] w (w.alloc (.cells #[.slice none 0 0, .int .i64 0, .bool false] 60)) := (Only.refl [] w).alloc _
    have hB1 : Blk (w.alloc (.cells #[.slice none 0 0, .int .i64 0, .bool false] 60)) w.heap.size 60 #[.slice none 0 0, .int .i64 0, .bool false] := Blk.new _ _ _
    unfold DStr.val at HGt
    have e : r.readD nm f n back = if (r.get nm).deleted then (PageR.zero, 23) else if (r.of nm).length = 0 then (PageR.zero, 8) else pageBy StoredR.version (r.seenD nm) f n back := by unfold RS.readD; rw [if_neg (by rw [hw]; simp)]
    rw [e]
    clear e hw h hk hf
    cases hd : (r.get nm).deleted with
    | true =>
      rw [hd] at HGt
      rw [if_pos rfl]
      go_enter Tryz.func16, Tryz.ntmps16
      go_wp2_with (first
        | (go_at_call 66; refine (HS.out _).mono ?_; rintro e1 w1 ⟨rfl, rfl⟩)
        | (go_at_call 44; refine (HGt.out _ hO1).mono ?_; rintro e2 w2 ⟨rfl, k2⟩; have hB2 := k2.blk hB1 (by simp); have hbR := fun i => hB2.cell i; have hbRf := fun i => hB2.free i))
      refine bodyPost_ret (v := .tuple #[.agg #[.slice none 0 0, .int .i64 0, .bool false], .int .i64 23]) (by simp [results, Tryz.results16, go_sem, hbR]) rfl ⟨_, rfl, World.ownsRow_nil _ _ _ _, ?_⟩
      iterate 3 (refine Only.setCell ?_ (.inr (Nat.le_refl _)) _)
      exact hO1.trans k2
    | false =>
      rw [hd] at HGt
      rw [if_neg (by simp)]
      by_cases h0 : (r.of nm).length = 0
      · rw [if_pos h0]
        rw [h0] at HOf
        go_enter Tryz.func16, Tryz.ntmps16
        go_wp2_with (first
          | (go_at_call 66; refine (HS.out _).mono ?_; rintro e1 w1 ⟨rfl, rfl⟩)
          | (go_at_call 44; refine (HGt.out _ hO1).mono ?_; rintro e2 w2 ⟨rfl, k2⟩; have hB2 := k2.blk hB1 (by simp))
          | (go_at_call 46; refine (HOf.out _ (hO1.trans k2)).mono ?_; rintro e3 w3 ⟨v3, rfl, hown3, k3⟩; obtain ⟨A3, c3, rfl, -, -⟩ := own_form hown3; have hB3 := k3.blk hB2 (by simp); have hbR := fun i => hB3.cell i; have hbRf := fun i => hB3.free i))
        refine bodyPost_ret (v := .tuple #[.agg #[.slice none 0 0, .int .i64 0, .bool false], .int .i64 8]) (by simp [results, Tryz.results16, go_sem, hbR]) rfl ⟨_, rfl, World.ownsRow_nil _ _ _ _, ?_⟩
        iterate 3 (refine Only.setCell ?_ (.inr (Nat.le_refl _)) _)
        exact (hO1.trans k2).trans k3
      · rw [if_neg h0]
        obtain ⟨l, hl⟩ : ∃ l, r.seenD nm = l := ⟨_, rfl⟩
        rw [hl] at HSn hfew hk2 ⊢
        obtain ⟨ol, hol⟩ : ∃ ol, (r.of nm).length = ol := ⟨_, rfl⟩
        rw [hol] at HOf h0 hofl
        have h0b : ((ol : Int) == 0) = false := by rw [beq_eq_false_iff_ne]; omega
        have HPg := Lib.hid fun (W : World) (v kv : Value) (hv : Slc W 8 v l.length (l.flatMap StoredR.cells)) (hkv : Slc W 1 kv (l.map StoredR.version).length (ints (l.map StoredR.version))) => dpage_any (f := f) (n := n) back hv hkv hfew hk2
        obtain ⟨R, hR⟩ : ∃ R, pageBy StoredR.version l f n back = R := ⟨_, rfl⟩
        rw [hR] at HPg ⊢
        clear hR hl hol hk2
        go_enter Tryz.func16, Tryz.ntmps16
        go_wp2_with (first
          | (go_at_call 66; refine (HS.out _).mono ?_; rintro e1 w1 ⟨rfl, rfl⟩)
          | (go_at_call 44; refine (HGt.out _ hO1).mono ?_; rintro e2 w2 ⟨rfl, k2⟩; have hB2 := k2.blk hB1 (by simp))
          | (go_at_call 46; refine (HOf.out _ (hO1.trans k2)).mono ?_; rintro e3 w3 ⟨v3, rfl, hown3, k3⟩; obtain ⟨A3, c3, rfl, -, -⟩ := own_form hown3; have hB3 := k3.blk hB2 (by simp))
          | (go_at_call 21; refine (HSn.out _ ((hO1.trans k2).trans k3)).mono ?_; rintro e4 w4 ⟨v4, rfl, hown4, k4⟩; have hB4 := k4.blk hB3 (by simp)))
        have hO4 : Only [] w w4 := ((hO1.trans k2).trans k3).trans k4
        have hl4 := (Slc.of_own hown4).1
        obtain ⟨A, cap, rfl, hnc, hcm, hel⟩ := hl4.openE StoredR.cells (fun _ => rfl)
        unfold maxLen at hcm
        have HL4 := Lib.hid hl4
        clear hl4 hown4
        go_loopw [13, 14] (fun o i wr => ∃ (k : Nat) (B : Option Addr) (kc : Nat), k ≤ l.length ∧ i = .int .i64 k ∧ o = .slice B k kc ∧ wr.ownsRow w4.heap.size 3 1 (.slice B k kc) ((l.take k).map StoredR.version).length (ints ((l.take k).map StoredR.version)) ∧ Only [] w4 wr) (fun _ i _ => l.length - (intOf i).toNat)
        case atStart => exact ⟨0, none, 0, Nat.zero_le _, rfl, rfl, World.ownsRow_nil _ _ _ _, Only.refl _ _⟩
        case round =>
          obtain ⟨k, B, kc, hk, rfl, rfl, hown, hO⟩ := hrel
          by_cases hlt : k < l.length
          · obtain ⟨b, off, rfl, hbb, hcc⟩ := hel k hlt
            obtain ⟨x, hx⟩ : ∃ x, x = l[k] := ⟨_, rfl⟩
            rw [← hx] at hcc
            have c5 : wr.cell? ⟨b, off + k * 8 + 5, none⟩ = some (.int .i64 x.version) := (hO.cell hbb (by simp)).trans (hcc 5 (by omega))
            have htk : (l.take (k + 1)).map StoredR.version = (l.take k).map StoredR.version ++ [x.version] := by rw [List.take_succ_eq_append_getElem hlt, List.map_append, hx]; rfl
            have HTK := Lib.hid htk
            have hlk : ((l.take k).map StoredR.version).length = k := by simp; omega
            obtain ⟨A5, c5', w5, hr5, hown5, hO5⟩ := appI (W := wr) (base := w4.heap.size) hown hO.size (by omega) x.version
            rw [hlk] at hr5 hown5
            have HR5 := Lib.hid hr5
            have hb3 := fun g hg => (World.ownsRow.lt hown g hg).1
            have hO6 : Only [] w4 w5 := (hO.alloc _).step hO5 (fun g hg => .inr (hb3 g (by simpa using hg)))
            clear hr5 htk hx hcc hel
            go_wp2_with (at_builtin; refine Lib.wpList_append_run _ rfl (.tmp 51) (.tmp 57) 80 80 rfl _ _ rfl rfl _ _ HR5.out ?_)
            go_round
            case rel =>
              refine ⟨k + 1, A5, c5', hlt, by simp, rfl, ?_, hO6⟩
              rw [HTK.out]
              exact hown5
            case measure => simp [intOf]; omega
          · have hkl : k = l.length := by omega
            subst hkl
            rw [List.take_length] at hown
            have HC := Lib.hid (HPg.out wr _ _ (HL4.out.only0 hO) (Slc.of_own hown).1)
            have hR := hO.blk hB4 (by simp)
            have hOw := hO4.trans hO
            clear hel HPg
            go_wp2_with (go_at_call 67; refine HC.out.mono ?_; rintro e w6 ⟨pv, rfl, hownp, k6⟩; obtain ⟨Ap, capp, rfl, hap1, hap2⟩ := own_form hownp; have hR2 := k6.blk hR (by simp); have hbR := fun i => hR2.cell i; have hbRf := fun i => hR2.free i)
            refine bodyPost_ret (v := .tuple #[.agg #[.slice Ap R.1.events.length capp, .int .i64 R.1.next, .bool R.1.isEnd], .int .i64 R.2]) (by simp [results, Tryz.results16, go_sem, hbR]) rfl ⟨_, rfl, ?own, ?only⟩
            case own =>
              refine own_only (own_base hownp hOw.size) (S := [w.heap.size]) ?_ (fun g hg => by
                have h1 := (hownp.lt g hg).1
                have h2 := hR.lt
                simp; omega)
              iterate 3 (refine Only.setCell ?_ (.inl (by simp)) _)
              exact Only.refl _ _
            case only =>
              iterate 3 (refine Only.setCell ?_ (.inr (Nat.le_refl _)) _)
              exact hOw.trans k6
end
end Go.Proofs.YtikboecmcbcghaaGreat
/- What the document's contracts ask, from the program's state. -/
set_option linter.unusedVariables false
set_option linter.unusedSimpArgs false
namespace Go.Proofs.YtikboecmcbcghaaGreat
open Go Go.RowKit Go.Sort
theorem Alike.fine {s : MS} {r : RS} {N : Nat} (h : Alike s r) (ok : s.Ok N) (hN : N ≤ 100000) : r.Fine := by
  have ha := ok.all
  have hl : r.l.length = s.all.length := by rw [h.l]
  refine ⟨by omega, fun n => ?_, fun n => ?_, ?_⟩
  · rw [h.mt]
    exact (ok.find n).1
  · have h1 := h.kept n
    have h2 := ok.find n
    have h3 := floorS_bd s n
    omega
  · rw [h.now]
    exact ok.now
end Go.Proofs.YtikboecmcbcghaaGreat
/- Contracts: the document's Check (chronicleref7) of every command. -/
set_option linter.unusedVariables false
set_option linter.unusedSimpArgs false
namespace Go.Proofs.YtikboecmcbcghaaGreat
open Go Go.RowKit Go.Sort
set_option maxRecDepth 100000 in
theorem r7validE_any (e : EventR) (w : World) (hs : e.type.size ≤ maxLen ∧ e.data.size ≤ maxLen) : Calls Tryz.prog 116 #[.agg #[.int .i64 e.id, .string e.type, .string e.data, .float .f64 e.value]] w fun e1 w' => e1 = .returned (.bool e.ok) ∧ Only [] w w' := by
  have HS := Lib.hid (fun W => r1stream_any e.type W hs.1)
  have hd := hs.2
  unfold maxLen at hd
  have hO := (Only.refl [] w).alloc (.cells #[.int .i64 e.id, .string e.type, .string e.data, .float .f64 e.value] 50)
  have HO := Lib.hid hO
  clear hO hs
  by_cases h1 : e.id ≥ 1
  · have q1 : decide (e.id ≥ 1) = true := decide_eq_true h1
    cases h2 : nameOk e.type with
    | false =>
      rw [h2] at HS
      have hr : e.ok = false := by unfold EventR.ok; rw [h2]; simp
      rw [hr]
      clear hr h2
      go_enter Tryz.func116, Tryz.ntmps116
      go_wp2_with (go_at_call 66; refine (HS.out _).mono ?_; rintro e1 w1 ⟨rfl, rfl⟩)
      go_ret
      exact ⟨rfl, HO.out⟩
    | true =>
      rw [h2] at HS
      obtain ⟨bb, hbb⟩ : ∃ bb, decide (e.data.size ≤ 200) = bb := ⟨_, rfl⟩
      have hr : e.ok = bb := by unfold EventR.ok; rw [h2, ← hbb, decide_eq_true (show 1 ≤ e.id from h1)]; simp
      rw [hr]
      clear hr h2
      cases bb with
      | true =>
        have h3 : e.data.size ≤ 200 := by simpa using hbb
        have q3 : decide ((e.data.size : Int) ≤ 200) = true := decide_eq_true (by omega)
        clear hbb
        go_enter Tryz.func116, Tryz.ntmps116
        go_wp2_with (go_at_call 66; refine (HS.out _).mono ?_; rintro e1 w1 ⟨rfl, rfl⟩)
        go_ret
        exact ⟨rfl, HO.out⟩
      | false =>
        have h3 : ¬ e.data.size ≤ 200 := by simpa using hbb
        have q3 : decide ((e.data.size : Int) ≤ 200) = false := decide_eq_false (by omega)
        clear hbb
        go_enter Tryz.func116, Tryz.ntmps116
        go_wp2_with (go_at_call 66; refine (HS.out _).mono ?_; rintro e1 w1 ⟨rfl, rfl⟩)
        go_ret
        exact ⟨rfl, HO.out⟩
  · have q1 : decide (e.id ≥ 1) = false := decide_eq_false h1
    have hr : e.ok = false := by unfold EventR.ok; rw [decide_eq_false (show ¬ 1 ≤ e.id by omega)]; simp
    rw [hr]
    clear hr
    go_enter Tryz.func116, Tryz.ntmps116
    go_wp2
    go_ret
    exact ⟨rfl, HO.out⟩
set_option maxRecDepth 100000 in
theorem r7meta_any (m : MetaR) (w : World) : Calls Tryz.prog 117 #[.agg #[.int .i64 m.maxCount, .int .i64 m.maxAge, .int .i64 m.before]] w fun e w' => e = .returned (.bool m.ok) ∧ Only [] w w' := by
  obtain ⟨a, b, d⟩ := m
  dsimp only
  have hO := (Only.refl [] w).alloc (.cells #[.int .i64 a, .int .i64 b, .int .i64 d] 45)
  have HO := Lib.hid hO
  clear hO
  go_enter Tryz.func117, Tryz.ntmps117
  go_wp2
  all_goals
    go_ret
    refine ⟨ret_b ?_, HO.out⟩
    clear HO
    simp_all [MetaR.ok, within]
  all_goals omega
set_option maxRecDepth 100000 in
set_option maxHeartbeats 8000000 in
theorem r7check_not1 (c : Cmd) (hk1 : c.kind ≠ 1) (v : Value) (w : World) (hs : Slc w 4 v c.events.length (c.events.flatMap EventR.cells)) (ho : CmdOk c) :
    Calls Tryz.prog 43 #[c.val v] w fun e w' => e = .returned (.int .i64 c.check) ∧ Only [] w w' := by
  obtain ⟨A, cap, rfl, hnc, hcm, hel⟩ := hs.openE EventR.cells (fun _ => rfl)
  obtain ⟨ho1, ho2⟩ := ho
  obtain ⟨kind, time, stream, ex, l, a, b, d⟩ := c
  have hl : l.length ≤ 9223372036854775807 := by unfold maxLen at hcm; exact Nat.le_trans hnc (by omega)
  have HS := Lib.hid (fun W => r1stream_any stream W ho1)
  have HM := Lib.hid (fun W => r7meta_any ⟨a, b, d⟩ W)
  have hO1 := (Only.refl [] w).alloc (.cells #[.int .i64 kind, .int .i64 time, .string stream, .int .i64 ex, .slice A l.length cap, .int .i64 a, .int .i64 b, .int .i64 d] 47)
  have HL := Lib.hid hO1
  simp only [Cmd.val] at hel ⊢
  dsimp only at HM
  by_cases hk : 1 ≤ kind ∧ kind ≤ 5
  · have hk' : kind = 1 ∨ kind = 2 ∨ kind = 3 ∨ kind = 4 ∨ kind = 5 := by omega
    rcases hk' with rfl | rfl | rfl | rfl | rfl
    · exact absurd rfl hk1
    · clear hk hO1 hs hel ho2 hk1
      by_cases t1 : time < 0
      · have t1' : decide (time < 0) = true := decide_eq_true t1
        go_enter Tryz.func43, Tryz.ntmps43
        go_wp2
        go_ret
        refine ⟨ret_i ?_, HL.out⟩
        clear HS HM HL
        simp [Cmd.check, within]; omega
      have t1' : decide (time < 0) = false := decide_eq_false t1
      by_cases t2 : time > 1099511627776
      · have t2' : decide (time > 1099511627776) = true := decide_eq_true t2
        go_enter Tryz.func43, Tryz.ntmps43
        go_wp2
        go_ret
        refine ⟨ret_i ?_, HL.out⟩
        clear HS HM HL
        simp [Cmd.check, within]; omega
      have t2' : decide (time > 1099511627776) = false := decide_eq_false t2
      have hw : within time = true := by simp [within]; omega
      cases hnm : nameOk stream with
      | false =>
        rw [hnm] at HS
        go_enter Tryz.func43, Tryz.ntmps43
        go_wp2_with (go_at_call 66; refine (HS.out _).mono ?_; rintro e9 w9 ⟨rfl, rfl⟩)
        go_ret
        refine ⟨ret_i ?_, HL.out⟩
        clear HS HM HL
        simp [Cmd.check, hw, hnm]
      | true =>
      rw [hnm] at HS
      cases hmo : (⟨a, b, d⟩ : MetaR).ok with
      | false =>
        rw [hmo] at HM
        go_enter Tryz.func43, Tryz.ntmps43
        go_wp2_with (first
          | (go_at_call 66; refine (HS.out _).mono ?_; rintro e9 w9 ⟨rfl, rfl⟩)
          | (go_at_call 117; refine (HM.out _).mono ?_; rintro e8 w8 ⟨rfl, hw8⟩; have hq8 := fun i => (hw8.blk (Blk.new w 47 _) (by simp)).cell i))
        go_ret
        refine ⟨ret_i ?_, HL.out.trans hw8⟩
        clear HS HM HL hq8 hw8
        simp [Cmd.check, hw, hnm, hmo]
      | true =>
      rw [hmo] at HM
      by_cases e1 : 0 < l.length
      · have e1' : decide (0 < l.length) = true := decide_eq_true e1
        have e2' : decide ((l.length : Int) > 0) = true := decide_eq_true (by omega)
        go_enter Tryz.func43, Tryz.ntmps43
        go_wp2_with (first
          | (go_at_call 66; refine (HS.out _).mono ?_; rintro e9 w9 ⟨rfl, rfl⟩)
          | (go_at_call 117; refine (HM.out _).mono ?_; rintro e8 w8 ⟨rfl, hw8⟩; have hq8 := fun i => (hw8.blk (Blk.new w 47 _) (by simp)).cell i))
        go_ret
        refine ⟨ret_i ?_, HL.out.trans hw8⟩
        clear HS HM HL hq8 hw8
        simp [Cmd.check, Cmd.spare, hw, hnm, hmo, e1]
      have e1' : decide (0 < l.length) = false := decide_eq_false e1
      have e2' : decide ((l.length : Int) > 0) = false := decide_eq_false (by omega)
      by_cases x0 : ex = 0
      · subst x0
        go_enter Tryz.func43, Tryz.ntmps43
        go_wp2_with (first
          | (go_at_call 66; refine (HS.out _).mono ?_; rintro e9 w9 ⟨rfl, rfl⟩)
          | (go_at_call 117; refine (HM.out _).mono ?_; rintro e8 w8 ⟨rfl, hw8⟩; have hq8 := fun i => (hw8.blk (Blk.new w 47 _) (by simp)).cell i))
        go_ret
        refine ⟨ret_i ?_, HL.out.trans hw8⟩
        clear HS HM HL hq8 hw8
        simp [Cmd.check, Cmd.spare, hw, hnm, hmo, e1]
      · have x0' : (ex != 0) = true := by simpa using x0
        go_enter Tryz.func43, Tryz.ntmps43
        go_wp2_with (first
          | (go_at_call 66; refine (HS.out _).mono ?_; rintro e9 w9 ⟨rfl, rfl⟩)
          | (go_at_call 117; refine (HM.out _).mono ?_; rintro e8 w8 ⟨rfl, hw8⟩; have hq8 := fun i => (hw8.blk (Blk.new w 47 _) (by simp)).cell i))
        go_ret
        refine ⟨ret_i ?_, HL.out.trans hw8⟩
        clear HS HM HL hq8 hw8
        simp [Cmd.check, Cmd.spare, hw, hnm, hmo, e1, x0]
    · clear hk hO1 hs hel ho2 hk1
      by_cases t1 : time < 0
      · have t1' : decide (time < 0) = true := decide_eq_true t1
        go_enter Tryz.func43, Tryz.ntmps43
        go_wp2
        go_ret
        refine ⟨ret_i ?_, HL.out⟩
        clear HS HM HL
        simp [Cmd.check, within]; omega
      have t1' : decide (time < 0) = false := decide_eq_false t1
      by_cases t2 : time > 1099511627776
      · have t2' : decide (time > 1099511627776) = true := decide_eq_true t2
        go_enter Tryz.func43, Tryz.ntmps43
        go_wp2
        go_ret
        refine ⟨ret_i ?_, HL.out⟩
        clear HS HM HL
        simp [Cmd.check, within]; omega
      have t2' : decide (time > 1099511627776) = false := decide_eq_false t2
      have hw : within time = true := by simp [within]; omega
      cases hnm : nameOk stream with
      | false =>
        rw [hnm] at HS
        go_enter Tryz.func43, Tryz.ntmps43
        go_wp2_with (go_at_call 66; refine (HS.out _).mono ?_; rintro e9 w9 ⟨rfl, rfl⟩)
        go_ret
        refine ⟨ret_i ?_, HL.out⟩
        clear HS HM HL
        simp [Cmd.check, hw, hnm]
      | true =>
      rw [hnm] at HS
      by_cases x1 : ex = -1
      · subst x1
        have hx : expects (-1) = true := by decide
        by_cases e1 : 0 < l.length
        · have e1' : decide (0 < l.length) = true := decide_eq_true e1
          have e2' : decide ((l.length : Int) > 0) = true := decide_eq_true (by omega)
          go_enter Tryz.func43, Tryz.ntmps43
          go_wp2_with (go_at_call 66; refine (HS.out _).mono ?_; rintro e9 w9 ⟨rfl, rfl⟩)
          go_ret
          refine ⟨ret_i ?_, HL.out⟩
          clear HS HM HL
          simp [Cmd.check, Cmd.spare, hw, hnm, hx, e1]
        have e1' : decide (0 < l.length) = false := decide_eq_false e1
        have e2' : decide ((l.length : Int) > 0) = false := decide_eq_false (by omega)
        by_cases m1 : a = 0
        · subst m1
          by_cases m2 : b = 0
          · subst m2
            by_cases m3 : d = 0
            · subst m3
              go_enter Tryz.func43, Tryz.ntmps43
              go_wp2_with (go_at_call 66; refine (HS.out _).mono ?_; rintro e9 w9 ⟨rfl, rfl⟩)
              go_ret
              refine ⟨ret_i ?_, HL.out⟩
              clear HS HM HL
              simp [Cmd.check, Cmd.spare, hw, hnm, hx, e1, MetaR.zero]
            · have m3' : (d == 0) = false := by simpa using m3
              go_enter Tryz.func43, Tryz.ntmps43
              go_wp2_with (go_at_call 66; refine (HS.out _).mono ?_; rintro e9 w9 ⟨rfl, rfl⟩)
              go_ret
              refine ⟨ret_i ?_, HL.out⟩
              clear HS HM HL
              simp [Cmd.check, Cmd.spare, hw, hnm, hx, e1, MetaR.zero, m3]
          · have m2' : (b == 0) = false := by simpa using m2
            go_enter Tryz.func43, Tryz.ntmps43
            go_wp2_with (go_at_call 66; refine (HS.out _).mono ?_; rintro e9 w9 ⟨rfl, rfl⟩)
            go_ret
            refine ⟨ret_i ?_, HL.out⟩
            clear HS HM HL
            simp [Cmd.check, Cmd.spare, hw, hnm, hx, e1, MetaR.zero, m2]
        · have m1' : (a == 0) = false := by simpa using m1
          go_enter Tryz.func43, Tryz.ntmps43
          go_wp2_with (go_at_call 66; refine (HS.out _).mono ?_; rintro e9 w9 ⟨rfl, rfl⟩)
          go_ret
          refine ⟨ret_i ?_, HL.out⟩
          clear HS HM HL
          simp [Cmd.check, Cmd.spare, hw, hnm, hx, e1, MetaR.zero, m1]
      have b1 : (ex != -1) = true := by rw [bne_iff_ne]; exact x1
      by_cases x2 : ex = -2
      · subst x2
        have hx : expects (-2) = true := by decide
        by_cases e1 : 0 < l.length
        · have e1' : decide (0 < l.length) = true := decide_eq_true e1
          have e2' : decide ((l.length : Int) > 0) = true := decide_eq_true (by omega)
          go_enter Tryz.func43, Tryz.ntmps43
          go_wp2_with (go_at_call 66; refine (HS.out _).mono ?_; rintro e9 w9 ⟨rfl, rfl⟩)
          go_ret
          refine ⟨ret_i ?_, HL.out⟩
          clear HS HM HL
          simp [Cmd.check, Cmd.spare, hw, hnm, hx, e1]
        have e1' : decide (0 < l.length) = false := decide_eq_false e1
        have e2' : decide ((l.length : Int) > 0) = false := decide_eq_false (by omega)
        by_cases m1 : a = 0
        · subst m1
          by_cases m2 : b = 0
          · subst m2
            by_cases m3 : d = 0
            · subst m3
              go_enter Tryz.func43, Tryz.ntmps43
              go_wp2_with (go_at_call 66; refine (HS.out _).mono ?_; rintro e9 w9 ⟨rfl, rfl⟩)
              go_ret
              refine ⟨ret_i ?_, HL.out⟩
              clear HS HM HL
              simp [Cmd.check, Cmd.spare, hw, hnm, hx, e1, MetaR.zero]
            · have m3' : (d == 0) = false := by simpa using m3
              go_enter Tryz.func43, Tryz.ntmps43
              go_wp2_with (go_at_call 66; refine (HS.out _).mono ?_; rintro e9 w9 ⟨rfl, rfl⟩)
              go_ret
              refine ⟨ret_i ?_, HL.out⟩
              clear HS HM HL
              simp [Cmd.check, Cmd.spare, hw, hnm, hx, e1, MetaR.zero, m3]
          · have m2' : (b == 0) = false := by simpa using m2
            go_enter Tryz.func43, Tryz.ntmps43
            go_wp2_with (go_at_call 66; refine (HS.out _).mono ?_; rintro e9 w9 ⟨rfl, rfl⟩)
            go_ret
            refine ⟨ret_i ?_, HL.out⟩
            clear HS HM HL
            simp [Cmd.check, Cmd.spare, hw, hnm, hx, e1, MetaR.zero, m2]
        · have m1' : (a == 0) = false := by simpa using m1
          go_enter Tryz.func43, Tryz.ntmps43
          go_wp2_with (go_at_call 66; refine (HS.out _).mono ?_; rintro e9 w9 ⟨rfl, rfl⟩)
          go_ret
          refine ⟨ret_i ?_, HL.out⟩
          clear HS HM HL
          simp [Cmd.check, Cmd.spare, hw, hnm, hx, e1, MetaR.zero, m1]
      have b2 : (ex != -2) = true := by rw [bne_iff_ne]; exact x2
      by_cases x4 : ex = -4
      · subst x4
        have hx : expects (-4) = true := by decide
        by_cases e1 : 0 < l.length
        · have e1' : decide (0 < l.length) = true := decide_eq_true e1
          have e2' : decide ((l.length : Int) > 0) = true := decide_eq_true (by omega)
          go_enter Tryz.func43, Tryz.ntmps43
          go_wp2_with (go_at_call 66; refine (HS.out _).mono ?_; rintro e9 w9 ⟨rfl, rfl⟩)
          go_ret
          refine ⟨ret_i ?_, HL.out⟩
          clear HS HM HL
          simp [Cmd.check, Cmd.spare, hw, hnm, hx, e1]
        have e1' : decide (0 < l.length) = false := decide_eq_false e1
        have e2' : decide ((l.length : Int) > 0) = false := decide_eq_false (by omega)
        by_cases m1 : a = 0
        · subst m1
          by_cases m2 : b = 0
          · subst m2
            by_cases m3 : d = 0
            · subst m3
              go_enter Tryz.func43, Tryz.ntmps43
              go_wp2_with (go_at_call 66; refine (HS.out _).mono ?_; rintro e9 w9 ⟨rfl, rfl⟩)
              go_ret
              refine ⟨ret_i ?_, HL.out⟩
              clear HS HM HL
              simp [Cmd.check, Cmd.spare, hw, hnm, hx, e1, MetaR.zero]
            · have m3' : (d == 0) = false := by simpa using m3
              go_enter Tryz.func43, Tryz.ntmps43
              go_wp2_with (go_at_call 66; refine (HS.out _).mono ?_; rintro e9 w9 ⟨rfl, rfl⟩)
              go_ret
              refine ⟨ret_i ?_, HL.out⟩
              clear HS HM HL
              simp [Cmd.check, Cmd.spare, hw, hnm, hx, e1, MetaR.zero, m3]
          · have m2' : (b == 0) = false := by simpa using m2
            go_enter Tryz.func43, Tryz.ntmps43
            go_wp2_with (go_at_call 66; refine (HS.out _).mono ?_; rintro e9 w9 ⟨rfl, rfl⟩)
            go_ret
            refine ⟨ret_i ?_, HL.out⟩
            clear HS HM HL
            simp [Cmd.check, Cmd.spare, hw, hnm, hx, e1, MetaR.zero, m2]
        · have m1' : (a == 0) = false := by simpa using m1
          go_enter Tryz.func43, Tryz.ntmps43
          go_wp2_with (go_at_call 66; refine (HS.out _).mono ?_; rintro e9 w9 ⟨rfl, rfl⟩)
          go_ret
          refine ⟨ret_i ?_, HL.out⟩
          clear HS HM HL
          simp [Cmd.check, Cmd.spare, hw, hnm, hx, e1, MetaR.zero, m1]
      have b4 : (ex != -4) = true := by rw [bne_iff_ne]; exact x4
      by_cases y1 : ex < 0
      · have y1' : decide (ex < 0) = true := decide_eq_true y1
        have hx : expects ex = false := by simp [expects, within, x1, x2, x4]; omega
        go_enter Tryz.func43, Tryz.ntmps43
        go_wp2_with (go_at_call 66; refine (HS.out _).mono ?_; rintro e9 w9 ⟨rfl, rfl⟩)
        go_ret
        refine ⟨ret_i ?_, HL.out⟩
        clear HS HM HL
        simp [Cmd.check, hw, hnm, hx]
      have y1' : decide (ex < 0) = false := decide_eq_false y1
      by_cases y2 : ex > 1099511627776
      · have y2' : decide (ex > 1099511627776) = true := decide_eq_true y2
        have hx : expects ex = false := by simp [expects, within, x1, x2, x4]; omega
        go_enter Tryz.func43, Tryz.ntmps43
        go_wp2_with (go_at_call 66; refine (HS.out _).mono ?_; rintro e9 w9 ⟨rfl, rfl⟩)
        go_ret
        refine ⟨ret_i ?_, HL.out⟩
        clear HS HM HL
        simp [Cmd.check, hw, hnm, hx]
      have y2' : decide (ex > 1099511627776) = false := decide_eq_false y2
      have hx : expects ex = true := by simp [expects, within]; omega
      by_cases e1 : 0 < l.length
      · have e1' : decide (0 < l.length) = true := decide_eq_true e1
        have e2' : decide ((l.length : Int) > 0) = true := decide_eq_true (by omega)
        go_enter Tryz.func43, Tryz.ntmps43
        go_wp2_with (go_at_call 66; refine (HS.out _).mono ?_; rintro e9 w9 ⟨rfl, rfl⟩)
        go_ret
        refine ⟨ret_i ?_, HL.out⟩
        clear HS HM HL
        simp [Cmd.check, Cmd.spare, hw, hnm, hx, e1]
      have e1' : decide (0 < l.length) = false := decide_eq_false e1
      have e2' : decide ((l.length : Int) > 0) = false := decide_eq_false (by omega)
      by_cases m1 : a = 0
      · subst m1
        by_cases m2 : b = 0
        · subst m2
          by_cases m3 : d = 0
          · subst m3
            go_enter Tryz.func43, Tryz.ntmps43
            go_wp2_with (go_at_call 66; refine (HS.out _).mono ?_; rintro e9 w9 ⟨rfl, rfl⟩)
            go_ret
            refine ⟨ret_i ?_, HL.out⟩
            clear HS HM HL
            simp [Cmd.check, Cmd.spare, hw, hnm, hx, e1, MetaR.zero]
          · have m3' : (d == 0) = false := by simpa using m3
            go_enter Tryz.func43, Tryz.ntmps43
            go_wp2_with (go_at_call 66; refine (HS.out _).mono ?_; rintro e9 w9 ⟨rfl, rfl⟩)
            go_ret
            refine ⟨ret_i ?_, HL.out⟩
            clear HS HM HL
            simp [Cmd.check, Cmd.spare, hw, hnm, hx, e1, MetaR.zero, m3]
        · have m2' : (b == 0) = false := by simpa using m2
          go_enter Tryz.func43, Tryz.ntmps43
          go_wp2_with (go_at_call 66; refine (HS.out _).mono ?_; rintro e9 w9 ⟨rfl, rfl⟩)
          go_ret
          refine ⟨ret_i ?_, HL.out⟩
          clear HS HM HL
          simp [Cmd.check, Cmd.spare, hw, hnm, hx, e1, MetaR.zero, m2]
      · have m1' : (a == 0) = false := by simpa using m1
        go_enter Tryz.func43, Tryz.ntmps43
        go_wp2_with (go_at_call 66; refine (HS.out _).mono ?_; rintro e9 w9 ⟨rfl, rfl⟩)
        go_ret
        refine ⟨ret_i ?_, HL.out⟩
        clear HS HM HL
        simp [Cmd.check, Cmd.spare, hw, hnm, hx, e1, MetaR.zero, m1]
    · clear hk hO1 hs hel ho2 hk1
      by_cases t1 : time < 0
      · have t1' : decide (time < 0) = true := decide_eq_true t1
        go_enter Tryz.func43, Tryz.ntmps43
        go_wp2
        go_ret
        refine ⟨ret_i ?_, HL.out⟩
        clear HS HM HL
        simp [Cmd.check, within]; omega
      have t1' : decide (time < 0) = false := decide_eq_false t1
      by_cases t2 : time > 1099511627776
      · have t2' : decide (time > 1099511627776) = true := decide_eq_true t2
        go_enter Tryz.func43, Tryz.ntmps43
        go_wp2
        go_ret
        refine ⟨ret_i ?_, HL.out⟩
        clear HS HM HL
        simp [Cmd.check, within]; omega
      have t2' : decide (time > 1099511627776) = false := decide_eq_false t2
      have hw : within time = true := by simp [within]; omega
      by_cases e1 : 0 < l.length
      · have e1' : decide (0 < l.length) = true := decide_eq_true e1
        have e2' : decide ((l.length : Int) > 0) = true := decide_eq_true (by omega)
        go_enter Tryz.func43, Tryz.ntmps43
        go_wp2
        go_ret
        refine ⟨ret_i ?_, HL.out⟩
        clear HS HM HL
        simp [Cmd.check, Cmd.spare, hw, e1]
      have e1' : decide (0 < l.length) = false := decide_eq_false e1
      have e2' : decide ((l.length : Int) > 0) = false := decide_eq_false (by omega)
      by_cases m1 : a = 0
      · subst m1
        by_cases m2 : b = 0
        · subst m2
          by_cases m3 : d = 0
          · subst m3
            by_cases x0 : ex = 0
            · subst x0
              cases st : stream.toList.isEmpty with
              | true =>
                go_enter Tryz.func43, Tryz.ntmps43
                go_wp2
                go_ret
                refine ⟨ret_i ?_, HL.out⟩
                clear HS HM HL
                simp [Cmd.check, Cmd.spare, hw, e1, MetaR.zero]; simpa using st
              | false =>
                go_enter Tryz.func43, Tryz.ntmps43
                go_wp2
                go_ret
                refine ⟨ret_i ?_, HL.out⟩
                clear HS HM HL
                simp [Cmd.check, Cmd.spare, hw, e1, MetaR.zero]; simpa using st
            · have x0' : (ex != 0) = true := by simpa using x0
              go_enter Tryz.func43, Tryz.ntmps43
              go_wp2
              go_ret
              refine ⟨ret_i ?_, HL.out⟩
              clear HS HM HL
              simp [Cmd.check, Cmd.spare, hw, e1, x0]
          · have m3' : (d == 0) = false := by simpa using m3
            go_enter Tryz.func43, Tryz.ntmps43
            go_wp2
            go_ret
            refine ⟨ret_i ?_, HL.out⟩
            clear HS HM HL
            simp [Cmd.check, Cmd.spare, hw, e1, MetaR.zero, m3]
        · have m2' : (b == 0) = false := by simpa using m2
          go_enter Tryz.func43, Tryz.ntmps43
          go_wp2
          go_ret
          refine ⟨ret_i ?_, HL.out⟩
          clear HS HM HL
          simp [Cmd.check, Cmd.spare, hw, e1, MetaR.zero, m2]
      · have m1' : (a == 0) = false := by simpa using m1
        go_enter Tryz.func43, Tryz.ntmps43
        go_wp2
        go_ret
        refine ⟨ret_i ?_, HL.out⟩
        clear HS HM HL
        simp [Cmd.check, Cmd.spare, hw, e1, MetaR.zero, m1]
    · clear hk hO1 hs hel ho2 hk1
      by_cases t1 : time < 0
      · have t1' : decide (time < 0) = true := decide_eq_true t1
        go_enter Tryz.func43, Tryz.ntmps43
        go_wp2
        go_ret
        refine ⟨ret_i ?_, HL.out⟩
        clear HS HM HL
        simp [Cmd.check, within]; omega
      have t1' : decide (time < 0) = false := decide_eq_false t1
      by_cases t2 : time > 1099511627776
      · have t2' : decide (time > 1099511627776) = true := decide_eq_true t2
        go_enter Tryz.func43, Tryz.ntmps43
        go_wp2
        go_ret
        refine ⟨ret_i ?_, HL.out⟩
        clear HS HM HL
        simp [Cmd.check, within]; omega
      have t2' : decide (time > 1099511627776) = false := decide_eq_false t2
      have hw : within time = true := by simp [within]; omega
      by_cases e1 : 0 < l.length
      · have e1' : decide (0 < l.length) = true := decide_eq_true e1
        have e2' : decide ((l.length : Int) > 0) = true := decide_eq_true (by omega)
        go_enter Tryz.func43, Tryz.ntmps43
        go_wp2
        go_ret
        refine ⟨ret_i ?_, HL.out⟩
        clear HS HM HL
        simp [Cmd.check, Cmd.spare, hw, e1]
      have e1' : decide (0 < l.length) = false := decide_eq_false e1
      have e2' : decide ((l.length : Int) > 0) = false := decide_eq_false (by omega)
      by_cases m1 : a = 0
      · subst m1
        by_cases m2 : b = 0
        · subst m2
          by_cases m3 : d = 0
          · subst m3
            by_cases x0 : ex = 0
            · subst x0
              cases st : stream.toList.isEmpty with
              | true =>
                go_enter Tryz.func43, Tryz.ntmps43
                go_wp2
                go_ret
                refine ⟨ret_i ?_, HL.out⟩
                clear HS HM HL
                simp [Cmd.check, Cmd.spare, hw, e1, MetaR.zero]; simpa using st
              | false =>
                go_enter Tryz.func43, Tryz.ntmps43
                go_wp2
                go_ret
                refine ⟨ret_i ?_, HL.out⟩
                clear HS HM HL
                simp [Cmd.check, Cmd.spare, hw, e1, MetaR.zero]; simpa using st
            · have x0' : (ex != 0) = true := by simpa using x0
              go_enter Tryz.func43, Tryz.ntmps43
              go_wp2
              go_ret
              refine ⟨ret_i ?_, HL.out⟩
              clear HS HM HL
              simp [Cmd.check, Cmd.spare, hw, e1, x0]
          · have m3' : (d == 0) = false := by simpa using m3
            go_enter Tryz.func43, Tryz.ntmps43
            go_wp2
            go_ret
            refine ⟨ret_i ?_, HL.out⟩
            clear HS HM HL
            simp [Cmd.check, Cmd.spare, hw, e1, MetaR.zero, m3]
        · have m2' : (b == 0) = false := by simpa using m2
          go_enter Tryz.func43, Tryz.ntmps43
          go_wp2
          go_ret
          refine ⟨ret_i ?_, HL.out⟩
          clear HS HM HL
          simp [Cmd.check, Cmd.spare, hw, e1, MetaR.zero, m2]
      · have m1' : (a == 0) = false := by simpa using m1
        go_enter Tryz.func43, Tryz.ntmps43
        go_wp2
        go_ret
        refine ⟨ret_i ?_, HL.out⟩
        clear HS HM HL
        simp [Cmd.check, Cmd.spare, hw, e1, MetaR.zero, m1]
  · have hck : (Cmd.mk kind time stream ex l ⟨a, b, d⟩).check = 1 := by unfold Cmd.check; rw [if_pos (by simp only []; omega)]
    rw [hck]
    clear hck hO1 hs hel ho2
    go_enter Tryz.func43, Tryz.ntmps43
    go_wp2
    all_goals
      go_ret
      exact ⟨rfl, HL.out⟩
end Go.Proofs.YtikboecmcbcghaaGreat
/- Contracts: the document's Check (chronicleref7) of an append; of every command. -/
set_option linter.unusedVariables false
set_option linter.unusedSimpArgs false
namespace Go.Proofs.YtikboecmcbcghaaGreat
open Go Go.RowKit Go.Sort
theorem eventsE_bad {l : List EventR} {k : Nat} (h1 : 0 < l.length) (h8 : l.length ≤ 8) (hk : k < l.length) (hb : l[k].ok = false) : eventsE l = 1 := by
  unfold eventsE
  rw [if_neg (by omega), if_neg (by omega), if_neg]
  intro q
  have := List.all_eq_true.1 q _ (List.getElem_mem hk)
  rw [hb] at this
  cases this
theorem eventsE_good {l : List EventR} (h1 : 0 < l.length) (h8 : l.length ≤ 8) (h : l.all EventR.ok = true) : eventsE l = 0 := by
  unfold eventsE
  rw [if_neg (by omega), if_neg (by omega), if_pos h]
set_option maxRecDepth 100000 in
set_option maxHeartbeats 8000000 in
theorem r7check_1 (time : Int) (stream : ByteArray) (ex : Int) (l : List EventR) (a b d : Int) (v : Value) (w : World) (hs : Slc w 4 v l.length (l.flatMap EventR.cells)) (ho1 : stream.size ≤ maxLen) (ho2 : EvsOk l) :
    Calls Tryz.prog 43 #[.agg #[.int .i64 1, .int .i64 time, .string stream, .int .i64 ex, v, .int .i64 a, .int .i64 b, .int .i64 d]] w fun e w' => e = .returned (.int .i64 (Cmd.mk 1 time stream ex l ⟨a, b, d⟩).check) ∧ Only [] w w' := by
  obtain ⟨A, cap, rfl, hnc, hcm, hel⟩ := hs.openE EventR.cells (fun _ => rfl)
  have hl : l.length ≤ 9223372036854775807 := by unfold maxLen at hcm; exact Nat.le_trans hnc (by omega)
  have HS := Lib.hid (fun W => r1stream_any stream W ho1)
  have HM := Lib.hid (trivial : True)
  obtain ⟨W1, hW1⟩ : ∃ W1, W1 = w.alloc (.cells #[.int .i64 1, .int .i64 time, .string stream, .int .i64 ex, .slice A l.length cap, .int .i64 a, .int .i64 b, .int .i64 d] 47) := ⟨_, rfl⟩
  have hB := Blk.new w 47 #[.int .i64 1, .int .i64 time, .string stream, .int .i64 ex, .slice A l.length cap, .int .i64 a, .int .i64 b, .int .i64 d]
  have hO1 := (Only.refl [] w).alloc (.cells #[.int .i64 1, .int .i64 time, .string stream, .int .i64 ex, .slice A l.length cap, .int .i64 a, .int .i64 b, .int .i64 d] 47)
  have HL := Lib.hid hO1
  rw [← hW1] at hB
  have hO1' : Only [] w W1 := by rw [hW1]; exact hO1
  have HW := Lib.hid hW1
  have HEv := Lib.hid ho2
  clear hW1 hO1 hs hcm ho2
  by_cases t1 : time < 0
  · have t1' : decide (time < 0) = true := decide_eq_true t1
    go_enter Tryz.func43, Tryz.ntmps43
    go_wp2
    go_ret
    refine ⟨ret_i ?_, HL.out⟩
    clear HS HM HL
    simp [Cmd.check, within]; omega
  have t1' : decide (time < 0) = false := decide_eq_false t1
  by_cases t2 : time > 1099511627776
  · have t2' : decide (time > 1099511627776) = true := decide_eq_true t2
    go_enter Tryz.func43, Tryz.ntmps43
    go_wp2
    go_ret
    refine ⟨ret_i ?_, HL.out⟩
    clear HS HM HL
    simp [Cmd.check, within]; omega
  have t2' : decide (time > 1099511627776) = false := decide_eq_false t2
  have hw : within time = true := by simp [within]; omega
  cases hnm : nameOk stream with
  | false =>
    rw [hnm] at HS
    go_enter Tryz.func43, Tryz.ntmps43
    go_wp2_with (go_at_call 66; refine (HS.out _).mono ?_; rintro e9 w9 ⟨rfl, rfl⟩)
    go_ret
    refine ⟨ret_i ?_, HL.out⟩
    clear HS HM HL
    simp [Cmd.check, hw, hnm]
  | true =>
  rw [hnm] at HS
  by_cases e0 : l = []
  · subst e0
    go_enter Tryz.func43, Tryz.ntmps43
    go_wp2_with (go_at_call 66; refine (HS.out _).mono ?_; rintro e9 w9 ⟨rfl, rfl⟩)
    go_ret
    refine ⟨ret_i ?_, HL.out⟩
    clear HS HM HL
    simp [Cmd.check, hw, hnm, eventsE]
  have e0' : 0 < l.length := by cases l with
    | nil => exact absurd rfl e0
    | cons x l => simp
  have e1 : ((l.length : Int) == 0) = false := by simp; exact e0
  by_cases e8 : 8 < l.length
  · have e8' : decide ((l.length : Int) > 8) = true := decide_eq_true (by omega)
    have hev : eventsE l = 2 := by unfold eventsE; rw [if_neg (by omega), if_pos e8]
    go_enter Tryz.func43, Tryz.ntmps43
    go_wp2_with (go_at_call 66; refine (HS.out _).mono ?_; rintro e9 w9 ⟨rfl, rfl⟩)
    go_ret
    refine ⟨ret_i ?_, HL.out⟩
    clear HS HM HL
    simp [Cmd.check, hw, hnm, hev]
  have e8' : decide ((l.length : Int) > 8) = false := decide_eq_false (by omega)
  go_enter Tryz.func43, Tryz.ntmps43
  go_wp2_with (go_at_call 66; refine (HS.out _).mono ?_; rintro e9 w9 ⟨rfl, rfl⟩)
  rw [← HW.out]
  go_loopw [3] (fun i wr => ∃ k : Nat, k ≤ l.length ∧ i = .int .i64 k ∧ Only [] W1 wr ∧ Hid ((l.take k).all EventR.ok = true)) (fun i _ => l.length - (intOf i).toNat)
  case atStart => exact ⟨0, Nat.zero_le _, rfl, Only.refl _ _, Lib.hid (by simp)⟩
  case round =>
    obtain ⟨k, hk, rfl, hO, hall⟩ := hrel
    have hq := fun i => (hO.blk hB (by simp)).cell i
    by_cases hlt : k < l.length
    · obtain ⟨bb, off, rfl, hbb, hcc⟩ := hel k hlt
      have htk := all_takeE (l := l) (f := EventR.ok) k hlt
      have hev := HEv.out _ (List.getElem_mem hlt)
      have hbad := fun hb => eventsE_bad e0' (by omega) hlt hb
      obtain ⟨x, hx⟩ : ∃ x, l[k] = x := ⟨_, rfl⟩
      rw [hx] at hcc htk hev hbad
      have hOw : Only [] w wr := hO1'.trans hO
      have c0 : wr.cell? ⟨bb, off + k * 4, none⟩ = some (.int .i64 x.id) := (hOw.cell (p := ⟨bb, off + k * 4, none⟩) hbb (by simp)).trans (hcc 0 (by omega))
      have c1 : wr.cell? ⟨bb, off + k * 4 + 1, none⟩ = some (.string x.type) := (hOw.cell (p := ⟨bb, off + k * 4 + 1, none⟩) hbb (by simp)).trans (hcc 1 (by omega))
      have c2 : wr.cell? ⟨bb, off + k * 4 + 2, none⟩ = some (.string x.data) := (hOw.cell (p := ⟨bb, off + k * 4 + 2, none⟩) hbb (by simp)).trans (hcc 2 (by omega))
      have c3 : wr.cell? ⟨bb, off + k * 4 + 3, none⟩ = some (.float .f64 x.value) := (hOw.cell (p := ⟨bb, off + k * 4 + 3, none⟩) hbb (by simp)).trans (hcc 3 (by omega))
      have HV := Lib.hid fun (W : World) => r7validE_any x W hev
      clear hcc hx hev
      cases hb : x.ok with
      | false =>
        rw [hb] at HV
        have hev := hbad hb
        have HR : Hid ((Cmd.mk 1 time stream ex l ⟨a, b, d⟩).check = 1) := by simp [Hid, Cmd.check, hw, hnm, hev]
        clear hbad htk hb hev
        go_wp2_with (go_at_call 116; refine (HV.out _).mono ?_; rintro e8 w8 ⟨rfl, hw8⟩)
        go_ret
        exact ⟨ret_i HR.out.symm, hOw.trans hw8⟩
      | true =>
        rw [hb] at HV
        have hn : Hid ((l.take (k + 1)).all EventR.ok = true) := by unfold Hid; rw [htk, hall.out, hb]; rfl
        clear hbad htk hb hall
        go_wp2_with (go_at_call 116; refine (HV.out _).mono ?_; rintro e8 w8 ⟨rfl, hw8⟩)
        go_round
        case rel => exact ⟨k + 1, hlt, by simp, hO.trans hw8, hn⟩
        case measure => simp [intOf]; omega
    · have hkl : k = l.length := by omega
      have hall' : l.all EventR.ok = true := by
        have := hall.out
        rw [List.take_of_length_le (by omega)] at this
        exact this
      have hev : eventsE l = 0 := eventsE_good e0' (by omega) hall'
      have HO2 := Lib.hid (hO1'.trans hO)
      have HV := Lib.hid (trivial : True)
      have hkd : decide ((k : Int) < (l.length : Int)) = false := decide_eq_false (by omega)
      have hkd2 : decide (k < l.length) = false := decide_eq_false (by omega)
      clear hall hall' hel hB hO1' hO HEv hk hlt hkl e0 e0' e8
      by_cases x1 : ex = -1
      · subst x1
        have hx : expects (-1) = true := by decide
        by_cases m1 : a = 0
        · subst m1
          by_cases m2 : b = 0
          · subst m2
            by_cases m3 : d = 0
            · subst m3
              go_wp2
              go_ret
              refine ⟨ret_i ?_, HO2.out⟩
              clear HS HV HL HO2 hq
              simp [Cmd.check, Cmd.spare, hw, hnm, hx, hev, MetaR.zero]
            · have m3' : (d == 0) = false := by simpa using m3
              go_wp2
              go_ret
              refine ⟨ret_i ?_, HO2.out⟩
              clear HS HV HL HO2 hq
              simp [Cmd.check, Cmd.spare, hw, hnm, hx, hev, MetaR.zero, m3]
          · have m2' : (b == 0) = false := by simpa using m2
            go_wp2
            go_ret
            refine ⟨ret_i ?_, HO2.out⟩
            clear HS HV HL HO2 hq
            simp [Cmd.check, Cmd.spare, hw, hnm, hx, hev, MetaR.zero, m2]
        · have m1' : (a == 0) = false := by simpa using m1
          go_wp2
          go_ret
          refine ⟨ret_i ?_, HO2.out⟩
          clear HS HV HL HO2 hq
          simp [Cmd.check, Cmd.spare, hw, hnm, hx, hev, MetaR.zero, m1]
      have b1 : (ex != -1) = true := by rw [bne_iff_ne]; exact x1
      by_cases x2 : ex = -2
      · subst x2
        have hx : expects (-2) = true := by decide
        by_cases m1 : a = 0
        · subst m1
          by_cases m2 : b = 0
          · subst m2
            by_cases m3 : d = 0
            · subst m3
              go_wp2
              go_ret
              refine ⟨ret_i ?_, HO2.out⟩
              clear HS HV HL HO2 hq
              simp [Cmd.check, Cmd.spare, hw, hnm, hx, hev, MetaR.zero]
            · have m3' : (d == 0) = false := by simpa using m3
              go_wp2
              go_ret
              refine ⟨ret_i ?_, HO2.out⟩
              clear HS HV HL HO2 hq
              simp [Cmd.check, Cmd.spare, hw, hnm, hx, hev, MetaR.zero, m3]
          · have m2' : (b == 0) = false := by simpa using m2
            go_wp2
            go_ret
            refine ⟨ret_i ?_, HO2.out⟩
            clear HS HV HL HO2 hq
            simp [Cmd.check, Cmd.spare, hw, hnm, hx, hev, MetaR.zero, m2]
        · have m1' : (a == 0) = false := by simpa using m1
          go_wp2
          go_ret
          refine ⟨ret_i ?_, HO2.out⟩
          clear HS HV HL HO2 hq
          simp [Cmd.check, Cmd.spare, hw, hnm, hx, hev, MetaR.zero, m1]
      have b2 : (ex != -2) = true := by rw [bne_iff_ne]; exact x2
      by_cases x4 : ex = -4
      · subst x4
        have hx : expects (-4) = true := by decide
        by_cases m1 : a = 0
        · subst m1
          by_cases m2 : b = 0
          · subst m2
            by_cases m3 : d = 0
            · subst m3
              go_wp2
              go_ret
              refine ⟨ret_i ?_, HO2.out⟩
              clear HS HV HL HO2 hq
              simp [Cmd.check, Cmd.spare, hw, hnm, hx, hev, MetaR.zero]
            · have m3' : (d == 0) = false := by simpa using m3
              go_wp2
              go_ret
              refine ⟨ret_i ?_, HO2.out⟩
              clear HS HV HL HO2 hq
              simp [Cmd.check, Cmd.spare, hw, hnm, hx, hev, MetaR.zero, m3]
          · have m2' : (b == 0) = false := by simpa using m2
            go_wp2
            go_ret
            refine ⟨ret_i ?_, HO2.out⟩
            clear HS HV HL HO2 hq
            simp [Cmd.check, Cmd.spare, hw, hnm, hx, hev, MetaR.zero, m2]
        · have m1' : (a == 0) = false := by simpa using m1
          go_wp2
          go_ret
          refine ⟨ret_i ?_, HO2.out⟩
          clear HS HV HL HO2 hq
          simp [Cmd.check, Cmd.spare, hw, hnm, hx, hev, MetaR.zero, m1]
      have b4 : (ex != -4) = true := by rw [bne_iff_ne]; exact x4
      by_cases y1 : ex < 0
      · have y1' : decide (ex < 0) = true := decide_eq_true y1
        have hx : expects ex = false := by simp [expects, within, x1, x2, x4]; omega
        go_wp2
        go_ret
        refine ⟨ret_i ?_, HO2.out⟩
        clear HS HV HL HO2 hq
        simp [Cmd.check, hw, hnm, hev, hx]
      have y1' : decide (ex < 0) = false := decide_eq_false y1
      by_cases y2 : ex > 1099511627776
      · have y2' : decide (ex > 1099511627776) = true := decide_eq_true y2
        have hx : expects ex = false := by simp [expects, within, x1, x2, x4]; omega
        go_wp2
        go_ret
        refine ⟨ret_i ?_, HO2.out⟩
        clear HS HV HL HO2 hq
        simp [Cmd.check, hw, hnm, hev, hx]
      have y2' : decide (ex > 1099511627776) = false := decide_eq_false y2
      have hx : expects ex = true := by simp [expects, within]; omega
      by_cases m1 : a = 0
      · subst m1
        by_cases m2 : b = 0
        · subst m2
          by_cases m3 : d = 0
          · subst m3
            go_wp2
            go_ret
            refine ⟨ret_i ?_, HO2.out⟩
            clear HS HV HL HO2 hq
            simp [Cmd.check, Cmd.spare, hw, hnm, hx, hev, MetaR.zero]
          · have m3' : (d == 0) = false := by simpa using m3
            go_wp2
            go_ret
            refine ⟨ret_i ?_, HO2.out⟩
            clear HS HV HL HO2 hq
            simp [Cmd.check, Cmd.spare, hw, hnm, hx, hev, MetaR.zero, m3]
        · have m2' : (b == 0) = false := by simpa using m2
          go_wp2
          go_ret
          refine ⟨ret_i ?_, HO2.out⟩
          clear HS HV HL HO2 hq
          simp [Cmd.check, Cmd.spare, hw, hnm, hx, hev, MetaR.zero, m2]
      · have m1' : (a == 0) = false := by simpa using m1
        go_wp2
        go_ret
        refine ⟨ret_i ?_, HO2.out⟩
        clear HS HV HL HO2 hq
        simp [Cmd.check, Cmd.spare, hw, hnm, hx, hev, MetaR.zero, m1]
theorem r7check_any (c : Cmd) (v : Value) (w : World) (hs : Slc w 4 v c.events.length (c.events.flatMap EventR.cells)) (ho : CmdOk c) :
    Calls Tryz.prog 43 #[c.val v] w fun e w' => e = .returned (.int .i64 c.check) ∧ Only [] w w' := by
  by_cases hk : c.kind = 1
  · obtain ⟨kind, time, stream, ex, l, ⟨a, b, d⟩⟩ := c
    have hk : kind = 1 := hk
    subst hk
    exact r7check_1 time stream ex l a b d v w hs ho.stream ho.evs
  · exact r7check_not1 c hk v w hs ho
end Go.Proofs.YtikboecmcbcghaaGreat
