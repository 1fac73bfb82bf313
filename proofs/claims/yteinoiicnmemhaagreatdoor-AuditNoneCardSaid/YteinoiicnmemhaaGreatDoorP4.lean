/- Proved here: contracts of functions and plain laws, part 4 of one proof. Conditions: each theorem names its own. -/
import Derived.Test.YteinoiicnmemhaaGreatDoorP3
import Derived.Shelf.Strings.Builder1
import Derived.Shelf.Strings.Builder2
import Derived.Shelf.Small.Bits
import Derived.Shelf.Small.Wraps
import Derived.Shelf.Strings.BuilderF
import Derived.Shelf.Strings.BuilderK
import Derived.Shelf.Strings.Builder2Cap
import Derived.Shelf.Strconv.Itoa0
import Derived.Shelf.Strconv.Itoa1
import Derived.Shelf.LaysM
import Derived.Shelf.Strconv.Itoa2
import Derived.Shelf.Strconv.Itoa3
import Derived.Shelf.Strconv.Clone
import Derived.Shelf.Sort.Plain
import Derived.Shelf.Strings.Prefix
import Derived.Shelf.Bits.Mul64
import Derived.Shelf.Strings.Repeat
import Derived.Shelf.Strings.BuilderCap
import Derived.Ground.Names2Prog
import Derived.Shelf.Slices.Clone
import Derived.Shelf.Slices.In.SortNone
import Derived.Ground.SlgfProg
import Derived.Shelf.SlicesE.IndexFunc
import Derived.Shelf.SlicesE.DeleteFunc
import Derived.Shelf.SlIter.Nil
import Derived.Shelf.SortM.Plain
import Derived.Shelf.SortM.SortNone
import Derived.Ground.GgzProg
import Derived.Ground.SlgmProg
import Derived.Shelf.SlMaps.Clone
import Derived.Ground.SlmcProg
import Derived.Shelf.SlIter.Collect
import Derived.Test.YteinoiicnmemhaaGreatDoorProg
import Derived.Test.YteinoiicnmemhaaGreatDoorRows
import Derived.Deep.QuietTactic
import Derived.BigQuiet
import Derived.Lib.QuietBelow
import Derived.BigRegion
import Derived.Lib.OwnBridge
import Derived.Handy
import Derived.Lib.LaidTab
import Derived.Lib.ItoaLen
/- Contract: pages backward, of the program. -/
set_option linter.unusedVariables false
set_option linter.unusedSimpArgs false
namespace Go.Proofs.YteinoiicnmemhaaGreatDoor
open Go Go.RowKit Go.Shelf Go.Proofs Go.Sort
attribute [local go_sem] Oper.semAt_some
theorem keepsOS {B : Nat} {S : List Nat} {W W' : World} (k : Only S W W') (hS : ∀ g ∈ S, ∃ t cs, Blk W g t cs) : KeepsFrom B W W' := ⟨k.size, fun i o _ hi ho => (k.block i (Array.getElem?_eq_some_iff.1 hi).1 (fun q => by
  obtain ⟨t, cs, h⟩ := hS i q
  rw [show W.heap[i]? = _ from h] at hi
  cases hi
  cases ho)).trans hi⟩
theorem only_grownBy {S : List Nat} {W W' : World} {row : Option Nat} (hg : W.grownBy W' row) (hr : ∀ r, row = some r → r ∈ S) : Only S W W' := (Only.refl S W).grown hg (fun k hk => .inl (hr k hk))
theorem not_cells {W : World} {row : Option Nat} (hrow : ∀ r, row = some r → ∃ o : Obj, W.heap[r]? = some o ∧ o.isCells = false) {g : Nat} {t : TypeId} {cs : Array Value} (h : Blk W g t cs) : g ∉ row.toList := fun q => by
  obtain ⟨o, ho, hc⟩ := hrow g (by simpa using q)
  rw [show W.heap[g]? = _ from h] at ho
  cases ho
  cases hc
/-- What stands at the head of a round of a page backward. -/
structure BwAt (w W : World) (kv pv : Value) (f n : Int) (acc : List StoredR) (nx : Int) : Prop where
  below : Below w.heap.size w W
  b0 : Blk W w.heap.size 213 #[kv]
  b1 : Blk W (w.heap.size + 1) 3 #[.int .i64 f]
  b2 : Blk W (w.heap.size + 2) 3 #[.int .i64 n]
  b3 : Blk W (w.heap.size + 3) 57 #[.slice none 0 0, .int .i64 0, .bool false]
  b4 : Blk W (w.heap.size + 4) 32 #[.int .i64 0]
  b5 : Blk W (w.heap.size + 5) 57 #[pv, .int .i64 nx, .bool true]
  b6 : ∃ av, Blk W (w.heap.size + 6) 28 #[av]
  own : W.ownsRow w.heap.size 92 8 pv acc.length (acc.flatMap StoredR.cells)
theorem below_only {S : List Nat} {w W W' : World} (h : Below w.heap.size w W) (k : Only S W W') (hS : ∀ g ∈ S, w.heap.size ≤ g) : Below w.heap.size w W' := h.trans ⟨k.os, k.tape, k.output, k.size, fun i hi => k.block i (by have := h.size; omega) (fun q => by have := hS i q; omega)⟩
section
variable {w W W' : World} {kv pv : Value} {f n nx : Int} {acc : List StoredR}
theorem BwAt.nown (h : BwAt w W kv pv f n acc nx) : ∀ g, pv.ownBlock = some g → w.heap.size + 7 ≤ g ∧ g < W.heap.size := fun g hg => by
  obtain ⟨av, hb6⟩ := h.b6
  obtain ⟨cur, hcur⟩ := own_type h.own hg
  have h0 := hcur.other h.b0 (by decide)
  have h1 := hcur.other h.b1 (by decide)
  have h2 := hcur.other h.b2 (by decide)
  have h3 := hcur.other h.b3 (by decide)
  have h4 := hcur.other h.b4 (by decide)
  have h5 := hcur.other h.b5 (by decide)
  have h7 := hcur.other hb6 (by decide)
  have h6 := h.own.lt g hg
  omega
theorem BwAt.only {S : List Nat} (h : BwAt w W kv pv f n acc nx) (k : Only S W W') (hS : ∀ g ∈ S, w.heap.size + 7 ≤ g) (hp : ∀ g, pv.ownBlock = some g → g ∉ S) : BwAt w W' kv pv f n acc nx := by
  have no : ∀ i, i < w.heap.size + 7 → i ∉ S := fun i hi q => by have := hS i q; omega
  refine ⟨h.below.trans ⟨k.os, k.tape, k.output, k.size, fun i hi => k.block i (by have := h.below.size; omega) (no i (by omega))⟩, k.blk h.b0 (no _ (by omega)), k.blk h.b1 (no _ (by omega)), k.blk h.b2 (no _ (by omega)), k.blk h.b3 (no _ (by omega)), k.blk h.b4 (no _ (by omega)), k.blk h.b5 (no _ (by omega)), (by obtain ⟨av, hb⟩ := h.b6; exact ⟨av, k.blk hb (no _ (by omega))⟩), own_only h.own k hp⟩
theorem BwAt.only0 (h : BwAt w W kv pv f n acc nx) (k : Only [] W W') : BwAt w W' kv pv f n acc nx := h.only k (by simp) (by simp)
theorem BwAt.grown {row : Option Nat} (h : BwAt w W kv pv f n acc nx) (hg : W.grownBy W' row) (hr : ∀ r, row = some r → ∃ o : Obj, W.heap[r]? = some o ∧ o.isCells = false) (hB : ∀ r, row = some r → w.heap.size + 7 ≤ r) : BwAt w W' kv pv f n acc nx :=
  h.only (only_grownBy (S := row.toList) hg (fun r e => by simp [e])) (fun g q => hB g (by simpa using q)) (fun g q => by
    obtain ⟨cur, hcur⟩ := own_type h.own q
    exact not_cells hr hcur)
end
set_option maxRecDepth 100000 in
set_option maxHeartbeats 4000000 in
theorem backwardP_any {w : World} {v : Value} {l : List StoredR} {f n : Int} (hl : Slc w 8 v l.length (l.flatMap StoredR.cells)) (hb : l.length ≤ 1000000) (hk : ∀ s ∈ l, 0 ≤ StoredR.position s ∧ StoredR.position s ≤ 1000000000) :
    Calls Tryz.prog 114 #[.func (.func 143) #[] #[], v, .int .i64 f, .int .i64 n] w (PageOut w StoredR.position l f n (pageBy StoredR.position l f n true)) := by
  cases hw : wrongP f n with
  | true =>
    obtain ⟨A, cap, rfl, hnc, hcm, hel⟩ := hl.openE StoredR.cells (fun _ => rfl)
    have HW := Lib.hid hw
    have HV := Lib.hid (fun W => vwrong_any f n W)
    rw [hw] at HV
    clear hel hw
    have hR : pageBy StoredR.position l f n true = (PageR.zero, 1) := by unfold pageBy; rw [HW.out]; rfl
    rw [hR]
    clear hR
    go_enter Tryz.func114, Tryz.ntmps114
    go_wp2_with (go_at_call 144; refine (HV.out _).mono ?_; rintro e w1 ⟨rfl, rfl⟩)
    refine bodyPost_ret (v := .tuple #[.agg #[.slice none 0 0, .int .i64 0, .bool false], .int .i64 1]) (by simp [results, Tryz.results114, go_sem]) rfl ⟨_, rfl, World.ownsRow_nil _ _ _ _, ?_⟩
    iterate 5 (refine Only.alloc ?_ _)
    exact Only.refl [] w
  | false =>
    obtain ⟨A, cap, rfl, hnc, hcm, hel⟩ := hl.openE StoredR.cells (fun _ => rfl)
    have HW := Lib.hid hw
    have HV := Lib.hid (fun W => vwrong_any f n W)
    rw [hw] at HV
    have hn : 1 ≤ n ∧ n ≤ 100 := by simp [wrongP] at hw; omega
    clear hw
    have hR : pageBy StoredR.position l f n true = (bwdGo StoredR.position f n l.reverse [] f, 0) := by unfold pageBy; rw [HW.out]; rfl
    rw [hR]
    clear hR
    obtain ⟨R, hR⟩ : ∃ R, R = bwdGo StoredR.position f n l.reverse [] f := ⟨_, rfl⟩
    rw [← hR]
    have HR := Lib.hid hR
    clear hR
    refine (callsIn_wide (n := 3)).1 ?_
    refine callsIn_of_wp_marks Tryz.func114 rfl trivial ?_ rfl
    simp only [Tryz.ntmps114, List.size_toArray, List.length_cons, List.length_nil, Nat.reduceAdd, Nat.reduceSub, Array.replicate_succ, Array.replicate_zero, List.push_toArray, List.append_toArray, List.nil_append, List.cons_append]
    gi_wp2_with (first
      | (refine ⟨trivial, ?_⟩; gi_at_call 144; refine (callsIn_wide.2 (HV.out _)).mono ?_; rintro e w1 ⟨rfl, rfl⟩)
      | (refine ⟨trivial, ?_⟩; gi_at_call 145; refine (back_in Fence.wide _ trivial rfl _ _ _ _).mono ?_; rintro e w2 ⟨rfl, rfl⟩))
    obtain ⟨W2, hW2⟩ : ∃ W2, W2 = ((((((w.alloc (.cells #[.func (.func 143) #[] #[]] 213)).alloc (.cells #[.int .i64 f] 3)).alloc (.cells #[.int .i64 n] 3)).alloc (.cells #[.slice none 0 0, .int .i64 0, .bool false] 57)).alloc (.cells #[.int .i64 0] 32)).alloc (.cells #[.slice none 0 0, .int .i64 f, .bool true] 57)).alloc (.cells #[.slice A l.length cap] 28) := ⟨_, rfl⟩
    rw [← hW2]
    have hz2 : W2.heap.size = w.heap.size + 7 := by rw [hW2]; simp
    have hO2 : Only [] w W2 := by
      rw [hW2]
      iterate 7 (refine Only.alloc ?_ _)
      exact Only.refl [] w
    have hB2 : BwAt w W2 (.func (.func 143) #[] #[]) (.slice none 0 0) f n [] f := by
      have g0 := Blk.new w 213 #[.func (.func 143) #[] #[]]
      have g1 := Blk.new (w.alloc (.cells #[.func (.func 143) #[] #[]] 213)) 3 #[.int .i64 f]
      have g2 := Blk.new ((w.alloc (.cells #[.func (.func 143) #[] #[]] 213)).alloc (.cells #[.int .i64 f] 3)) 3 #[.int .i64 n]
      have g3 := Blk.new (((w.alloc (.cells #[.func (.func 143) #[] #[]] 213)).alloc (.cells #[.int .i64 f] 3)).alloc (.cells #[.int .i64 n] 3)) 57 #[.slice none 0 0, .int .i64 0, .bool false]
      have g4 := Blk.new ((((w.alloc (.cells #[.func (.func 143) #[] #[]] 213)).alloc (.cells #[.int .i64 f] 3)).alloc (.cells #[.int .i64 n] 3)).alloc (.cells #[.slice none 0 0, .int .i64 0, .bool false] 57)) 32 #[.int .i64 0]
      have g5 := Blk.new (((((w.alloc (.cells #[.func (.func 143) #[] #[]] 213)).alloc (.cells #[.int .i64 f] 3)).alloc (.cells #[.int .i64 n] 3)).alloc (.cells #[.slice none 0 0, .int .i64 0, .bool false] 57)).alloc (.cells #[.int .i64 0] 32)) 57 #[.slice none 0 0, .int .i64 f, .bool true]
      simp only [World.size_alloc] at g0 g1 g2 g3 g4 g5
      refine ⟨hO2.toBelow, ?_, ?_, ?_, ?_, ?_, ?_, ⟨.slice A l.length cap, ?_⟩, World.ownsRow_nil _ _ _ _⟩
      · rw [hW2]; exact (((((((Only.refl [] _).alloc _).alloc _).alloc _).alloc _).alloc _).alloc _).blk g0 (by simp)
      · rw [hW2]; exact ((((((Only.refl [] _).alloc _).alloc _).alloc _).alloc _).alloc _).blk g1 (by simp)
      · rw [hW2]; exact (((((Only.refl [] _).alloc _).alloc _).alloc _).alloc _).blk g2 (by simp)
      · rw [hW2]; exact ((((Only.refl [] _).alloc _).alloc _).alloc _).blk g3 (by simp)
      · rw [hW2]; exact (((Only.refl [] _).alloc _).alloc _).blk g4 (by simp)
      · rw [hW2]; exact ((Only.refl [] _).alloc (.cells #[.slice A l.length cap] 28)).blk g5 (by simp)
      · have g6 := Blk.new ((((((w.alloc (.cells #[.func (.func 143) #[] #[]] 213)).alloc (.cells #[.int .i64 f] 3)).alloc (.cells #[.int .i64 n] 3)).alloc (.cells #[.slice none 0 0, .int .i64 0, .bool false] 57)).alloc (.cells #[.int .i64 0] 32)).alloc (.cells #[.slice none 0 0, .int .i64 f, .bool true] 57)) 28 #[.slice A l.length cap]
        simp only [World.size_alloc] at g6
        rw [hW2]
        exact g6
    obtain ⟨T, hT1, hT2, hT3⟩ : ∃ T : List Nat, w.heap.size + 6 ∈ T ∧ (∀ g, (Value.slice A l.length cap).ownBlock = some g → g ∈ T ∨ l.length = 0) ∧ ∀ i ∈ T, i = w.heap.size + 6 ∨ i < w.heap.size := by
      by_cases h0 : l.length = 0
      · exact ⟨[w.heap.size + 6], by simp, fun g _ => .inr h0, fun i hi => .inl (by simpa using hi)⟩
      · obtain ⟨b0, o0, hA, hb0, _⟩ := hel 0 (by omega)
        subst hA
        refine ⟨[w.heap.size + 6, b0], by simp, fun g hg => .inl ?_, fun i hi => ?_⟩
        · cases hg
          simp
        · simp at hi
          rcases hi with rfl | rfl
          · exact .inl rfl
          · exact .inr hb0
    have hbx : W2.cell? ⟨w.heap.size + 6, 0, none⟩ = some (.slice A l.length cap) := by
      rw [hW2]
      have := Blk.new ((((((w.alloc (.cells #[.func (.func 143) #[] #[]] 213)).alloc (.cells #[.int .i64 f] 3)).alloc (.cells #[.int .i64 n] 3)).alloc (.cells #[.slice none 0 0, .int .i64 0, .bool false] 57)).alloc (.cells #[.int .i64 0] 32)).alloc (.cells #[.slice none 0 0, .int .i64 f, .bool true] 57)) 28 #[.slice A l.length cap]
      simp only [World.size_alloc] at this
      exact this.cell 0
    have hsl2 := hl.only0 hO2
    have hK := Lib.hid hk
    clear hW2 hk hl hel hnc hcm HV
    refine wpIn_rangeFunc_ownH rfl (by omega) (gf := 172) (lb := #[.pointer (some ⟨w.heap.size + 6, 0, none⟩)]) rfl trivial (enters_of Tryz.func172 (by kernel_rfl) rfl)
      (bk_stops2 Fence.wide _ trivial rfl (by omega) T (w.heap.size + 6) A cap l hb W2 hT1 (fun i hi => by rcases hT3 i hi with q | q <;> omega) hbx hsl2 hT2) (fun {A B C} h1 h2 => KeepT.trans h1 h2) (KeepT.put (fun i hi => by rcases hT3 i hi with q | q <;> omega)) (Below.refl _ _) (fun _ => rfl)
      (fun pre W => ∃ pv acc nx, BwAt w W (.func (.func 143) #[] #[]) pv f n acc nx ∧ W2.heap.size ≤ W.heap.size ∧ acc.length ≤ pre.length ∧ Hid (∀ rest, bwdGo StoredR.position f n (pre.map (·.x) ++ rest) [] f = bwdGo StoredR.position f n rest acc nx))
      (fun c pre W => c = .ret ∧ ∃ pv acc nx, (Blk W (w.heap.size + 3) 57 #[pv, .int .i64 nx, .bool false] ∧ Blk W (w.heap.size + 4) 32 #[.int .i64 0] ∧ W.ownsRow w.heap.size 92 8 pv acc.length (acc.flatMap StoredR.cells) ∧ Below w.heap.size w W) ∧ Hid (∀ rest, bwdGo StoredR.position f n (pre.map (·.x) ++ rest) [] f = ⟨acc, nx, false⟩))
      ?hI ?hIx
      ⟨.slice none 0 0, [], f, hB2, Nat.le_refl _, Nat.le_refl _, fun rest => rfl⟩
      (fun x a' W => ∃ (Bx : Nat) (pv u1 u2 : Value), w.heap.size + 7 ≤ Bx ∧ Blk W Bx 92 #[.int .i64 x.x.ev.id, .string x.x.ev.type, .string x.x.ev.data, .float .f64 x.x.ev.value, .string x.x.stream, .int .i64 x.x.version, .int .i64 x.x.position, .int .i64 x.x.time] ∧ Blk W (w.heap.size + 5) 57 #[pv, u1, u2] ∧ pv.ownBlock ≠ some Bx ∧ a' = { tmps := #[.func (.func 143) #[] #[], .slice A l.length cap, .int .i64 f, .int .i64 n, .pointer (some ⟨w.heap.size, 0, none⟩), undef, .pointer (some ⟨w.heap.size + 1, 0, none⟩), .pointer (some ⟨w.heap.size + 1 + 1, 0, none⟩), .pointer (some ⟨w.heap.size + 1 + 1 + 1, 0, none⟩), .pointer (some ⟨w.heap.size + 1 + 1 + 1 + 1, 0, none⟩), .pointer (some ⟨w.heap.size + 1 + 1 + 1 + 1 + 1, 0, none⟩), undef, .pointer (some ⟨Bx, 0, none⟩), .int .i64 f, .int .i64 n, .bool false, undef, .int .i64 f, .agg #[.slice none 0 0, .int .i64 f, .bool true], .slice A l.length cap, .func (.func 172) #[] #[.pointer (some ⟨w.heap.size + 1 + 1 + 1 + 1 + 1 + 1, 0, none⟩)], .int .i64 x.i, .agg #[.int .i64 x.x.ev.id, .string x.x.ev.type, .string x.x.ev.data, .float .f64 x.x.ev.value, .string x.x.stream, .int .i64 x.x.version, .int .i64 x.x.position, .int .i64 x.x.time], undef, undef, undef, undef, undef, undef, undef, undef, undef, undef, undef, undef, undef, undef, undef, undef, undef, undef, undef, undef, undef, undef, undef, undef, undef, undef, undef], defers := [] })
      ?hAx ?assign ?body ?done ?stop
    case hI =>
      rintro pre W W' row ⟨pv, acc, nx, h1, h2, h3, h4⟩ hg hr
      exact ⟨pv, acc, nx, h1.grown hg (fun r e => (hr r e).2) (fun r e => by have := (hr r e).1; omega), Nat.le_trans h2 hg.size, h3, h4⟩
    case hIx =>
      rintro c pre W W' row ⟨rfl, pv, acc, nx, ⟨h1, h2, h3, h4⟩, h5⟩ hg hr
      have ko : Only row.toList W W' := only_grownBy hg (fun r e => by simp [e])
      have hc := fun r e => (hr r e).2
      refine ⟨rfl, pv, acc, nx, ⟨ko.blk h1 (not_cells hc h1), ko.blk h2 (not_cells hc h2), own_only h3 ko (fun g q => ?_), ?_⟩, h5⟩
      · obtain ⟨cur, hcur⟩ := own_type h3 q
        exact not_cells hc hcur
      · exact h4.trans ⟨ko.os, ko.tape, ko.output, ko.size, fun i hi => ko.block i (by have := h4.size; omega) (fun q => by have := (hr i (by simpa using q)).1; omega)⟩
    case hAx =>
      rintro x a' s W W' row ⟨Bx, pv, u1, u2, h1, h2, h3, h4, h5⟩ hg hr
      have ko : Only row.toList W W' := only_grownBy hg (fun r e => by simp [e])
      have hc := fun r e => (hr r e).2
      exact ⟨Bx, pv, u1, u2, h1, ko.blk h2 (not_cells hc h2), ko.blk h3 (not_cells hc h3), h4, h5⟩
    case assign =>
      rintro ly pre x W K ⟨pv, acc, nx, h1, h2, h3, h4⟩ hK2
      have hsf := stF
      unfold bkV
      gi_wp2
      have hkk := (Only.refl [] W).alloc (.cells #[.int .i64 x.x.ev.id, .string x.x.ev.type, .string x.x.ev.data, .float .f64 x.x.ev.value, .string x.x.stream, .int .i64 x.x.version, .int .i64 x.x.position, .int .i64 x.x.time] 92)
      refine hK2 _ _ (keepsOS hkk (by simp)) (KeepT.only hkk (fun i hi => ⟨by rcases hT3 i hi with q | q <;> omega, by simp⟩)) ⟨pv, acc, nx, h1.only0 hkk, Nat.le_trans h2 hkk.size, h3, h4⟩ ⟨W.heap.size, pv, .int .i64 nx, .bool true, by omega, Blk.new W _ _, (h1.only0 hkk).b5, fun q => ?_, rfl⟩
      have := (h1.nown _ q).2
      omega
    case body =>
      rintro ly pre x a' W hly hlo ⟨pv, acc, nx, hB, hz, ha, hRun⟩ ⟨Bx, pv', u1, u2, hBx, hX, hP5, hne, rfl⟩ hlt
      have hpe : pv' = pv := by
        have e : some (Obj.cells #[pv', u1, u2] 57) = some (Obj.cells #[pv, .int .i64 nx, .bool true] 57) := hP5.symm.trans hB.b5
        injection e with e
        injection e with e
        exact Option.some.inj (show some pv' = some pv from congrArg (fun a : Array Value => a[0]?) e)
      subst hpe
      obtain ⟨Ap, cp, hpv, hap1, hap2⟩ := own_form hB.own
      subst hpv
      unfold maxLen at hap2
      have hKx := hK.out x.x x.mem
      have hKC := Lib.hid (fun W => position_any x.x W)
      have hSt : Hid (∀ rest, bwdGo StoredR.position f n ((pre ++ [x]).map (·.x) ++ rest) [] f = if f < StoredR.position x.x then bwdGo StoredR.position f n rest acc nx else if (acc.length : Int) = n then ⟨acc, nx, false⟩ else bwdGo StoredR.position f n rest (acc ++ [x.x]) (max (StoredR.position x.x) 0 - 1)) := fun rest => by
        rw [List.map_append, List.append_assoc]
        exact hRun.out _
      have D0 := Within.cell (S := []) (show W.cell? ⟨w.heap.size, 0, none⟩ = some (.func (.func 143) #[] #[]) from hB.b0.cell 0) (by simp)
      have D1 := Within.cell (S := []) (show W.cell? ⟨w.heap.size + 1, 0, none⟩ = some (.int .i64 f) from hB.b1.cell 0) (by simp)
      have X0 := Within.cell (S := []) (show W.cell? ⟨Bx, 0, none⟩ = some (.int .i64 x.x.ev.id) from hX.cell 0) (by simp)
      have X1 := Within.cell (S := []) (show W.cell? ⟨Bx, 1, none⟩ = some (.string x.x.ev.type) from hX.cell 1) (by simp)
      have X2 := Within.cell (S := []) (show W.cell? ⟨Bx, 2, none⟩ = some (.string x.x.ev.data) from hX.cell 2) (by simp)
      have X3 := Within.cell (S := []) (show W.cell? ⟨Bx, 3, none⟩ = some (.float .f64 x.x.ev.value) from hX.cell 3) (by simp)
      have X4 := Within.cell (S := []) (show W.cell? ⟨Bx, 4, none⟩ = some (.string x.x.stream) from hX.cell 4) (by simp)
      have X5 := Within.cell (S := []) (show W.cell? ⟨Bx, 5, none⟩ = some (.int .i64 x.x.version) from hX.cell 5) (by simp)
      have X6 := Within.cell (S := []) (show W.cell? ⟨Bx, 6, none⟩ = some (.int .i64 x.x.position) from hX.cell 6) (by simp)
      have X7 := Within.cell (S := []) (show W.cell? ⟨Bx, 7, none⟩ = some (.int .i64 x.x.time) from hX.cell 7) (by simp)
      have hsf := stF
      have HB := Lib.hid hB
      have HX := Lib.hid hX
      clear hB hX hP5 hRun
      gi_wp2_with fail
      refine wpIn_region_in [] [0, 1, 3] [2, 4, 5] [] (by rintro ⟨a, w, h⟩; exact h) (by kernel_rfl) (by kernel_rfl) (by kernel_rfl) (by intro c d u a w h; cases d <;> exact h) ?_
      show wpQuiet _ _ _ _ [_, _, _] _
      repeat (go_big_quiet_step (fail))
      refine wpQuiet_nil ?_
      clear D0 D1 X0 X1 X2 X3 X4 X5 X6 X7
      show wpList _ _ _ [_] _ _
      go_wp2_with (go_at_call 143; refine (hKC.out _).mono ?_; rintro e w3 ⟨rfl, k3⟩)
      have o3 := (Only.refl [] W).drew.trans k3
      refine check_of (S := []) o3 ?_
      show wpList _ _ _ [_] _ _
      go_wp2_with fail
      refine check_of (S := []) o3 ?_
      show wpList _ _ _ [_] _ _
      go_wp2_with fail
      refine check_last (S := []) o3 (fun _ _ q => q) ?_
      have hB3 := HB.out.only0 o3
      have hX3 := o3.blk HX.out (by simp)
      have hz3 := o3.size
      by_cases h1 : f < StoredR.position x.x
      · have hN : Hid (∀ rest, bwdGo StoredR.position f n ((pre ++ [x]).map (·.x) ++ rest) [] f = bwdGo StoredR.position f n rest acc nx) := fun rest => by rw [hSt.out, if_pos h1]
        have h1b : decide (StoredR.position x.x > f) = true := decide_eq_true h1
        gi_wp2
        exact ⟨keepsOS o3 (by simp), KeepT.only o3 (fun i hi => ⟨by rcases hT3 i hi with q | q <;> omega, by simp⟩), _, acc, nx, hB3, by omega, by simp; omega, hN⟩
      · have h1b : decide (StoredR.position x.x > f) = false := decide_eq_false h1
        have P5 : ∀ i, w3.cell? ⟨w.heap.size + 1 + 1 + 1 + 1 + 1, i, none⟩ = #[Value.slice Ap acc.length cp, .int .i64 nx, .bool true][i]? := fun i => hB3.b5.cell i
        have F5 : ∀ i, w3.frozen? ⟨w.heap.size + 1 + 1 + 1 + 1 + 1, i, none⟩ = false := fun i => hB3.b5.free i
        have P2 : w3.cell? ⟨w.heap.size + 1 + 1, 0, none⟩ = some (.int .i64 n) := hB3.b2.cell 0
        by_cases h2 : (acc.length : Int) = n
        · have h2b : ((acc.length : Int) == n) = true := by simpa using h2
          have hN : Hid (∀ rest, bwdGo StoredR.position f n ((pre ++ [x]).map (·.x) ++ rest) [] f = ⟨acc, nx, false⟩) := fun rest => by rw [hSt.out, if_neg h1, if_pos h2]
          have P3 : ∀ i, w3.cell? ⟨w.heap.size + 1 + 1 + 1, i, none⟩ = #[Value.slice none 0 0, .int .i64 0, .bool false][i]? := fun i => hB3.b3.cell i
          have F3 : ∀ i, w3.frozen? ⟨w.heap.size + 1 + 1 + 1, i, none⟩ = false := fun i => hB3.b3.free i
          have P4 : ∀ i, w3.cell? ⟨w.heap.size + 1 + 1 + 1 + 1, i, none⟩ = #[Value.int .i64 0][i]? := fun i => hB3.b4.cell i
          have F4 : ∀ i, w3.frozen? ⟨w.heap.size + 1 + 1 + 1 + 1, i, none⟩ = false := fun i => hB3.b4.free i
          clear h2
          gi_wp2
          have koE : Only [w.heap.size + 1 + 1 + 1, w.heap.size + 1 + 1 + 1 + 1, w.heap.size + 1 + 1 + 1 + 1 + 1] w3 (((((w3.setCell ⟨w.heap.size + 1 + 1 + 1 + 1 + 1, 2, none⟩ (.bool false)).setCell ⟨w.heap.size + 1 + 1 + 1, 0, none⟩ (.slice Ap acc.length cp)).setCell ⟨w.heap.size + 1 + 1 + 1, 1, none⟩ (.int .i64 nx)).setCell ⟨w.heap.size + 1 + 1 + 1, 2, none⟩ (.bool false)).setCell ⟨w.heap.size + 1 + 1 + 1 + 1, 0, none⟩ (.int .i64 0)) := by
            iterate 5 (refine Only.setCell ?_ (.inl (by simp)) _)
            exact Only.refl _ _
          have q1 := ((Only.refl [w.heap.size + 1 + 1 + 1 + 1 + 1] w3).setCell (p := ⟨w.heap.size + 1 + 1 + 1 + 1 + 1, 2, none⟩) (.inl (by simp)) (.bool false)).blk hB3.b3 (by simp)
          have q2 := ((q1.set 0 (.slice Ap acc.length cp)).set 1 (.int .i64 nx)).set 2 (.bool false)
          have q3 := ((Only.refl [w.heap.size + 1 + 1 + 1 + 1] _).setCell (p := ⟨w.heap.size + 1 + 1 + 1 + 1, 0, none⟩) (.inl (by simp)) (.int .i64 0)).blk q2 (by simp)
          have r1 : Only [w.heap.size + 1 + 1 + 1, w.heap.size + 1 + 1 + 1 + 1 + 1] w3 ((((w3.setCell ⟨w.heap.size + 1 + 1 + 1 + 1 + 1, 2, none⟩ (.bool false)).setCell ⟨w.heap.size + 1 + 1 + 1, 0, none⟩ (.slice Ap acc.length cp)).setCell ⟨w.heap.size + 1 + 1 + 1, 1, none⟩ (.int .i64 nx)).setCell ⟨w.heap.size + 1 + 1 + 1, 2, none⟩ (.bool false)) := by
            iterate 4 (refine Only.setCell ?_ (.inl (by simp)) _)
            exact Only.refl _ _
          have r2 := (r1.blk hB3.b4 (by simp)).set 0 (.int .i64 0)
          refine ⟨keepsOS (o3.of_nil.trans koE) (fun g hg => ?_), rfl, .slice Ap acc.length cp, acc, nx, ⟨q3, r2, own_only hB3.own koE (fun g hg => ?_), below_only hB3.below koE (fun g hg => ?_)⟩, hN⟩
          · simp only [List.mem_cons, List.not_mem_nil, or_false] at hg
            rcases hg with rfl | rfl | rfl
            · exact ⟨_, _, HB.out.b3⟩
            · exact ⟨_, _, HB.out.b4⟩
            · exact ⟨_, _, HB.out.b5⟩
          · have := (hB3.nown g hg).1
            simp
            omega
          · simp at hg
            omega
        · have h2b : ((acc.length : Int) == n) = false := by rw [beq_eq_false_iff_ne]; exact h2
          have hN : Hid (∀ rest, bwdGo StoredR.position f n ((pre ++ [x]).map (·.x) ++ rest) [] f = bwdGo StoredR.position f n rest (acc ++ [x.x]) (max (StoredR.position x.x) 0 - 1)) := fun rest => by rw [hSt.out, if_neg h1, if_neg h2]
          have hal : acc.length + 1 ≤ 1000001 := by omega
          obtain ⟨So, hSo⟩ : ∃ So, So = (Value.slice Ap acc.length cp).ownBlock.toList := ⟨_, rfl⟩
          have hSn : ∀ g ∈ So, w.heap.size + 7 ≤ g ∧ g < w3.heap.size := fun g hg => hB3.nown g (by rw [hSo] at hg; simpa using hg)
          have nB : Bx ∉ So := fun q => hne (by rw [hSo] at q; simpa using q)
          have n5 : w.heap.size + 1 + 1 + 1 + 1 + 1 ∉ So := fun q => by have := (hSn _ q).1; omega
          have n0 : w.heap.size ∉ So := fun q => by have := (hSn _ q).1; omega
          obtain ⟨So5, hSo5⟩ : ∃ So5, So5 = (w.heap.size + 1 + 1 + 1 + 1 + 1) :: So := ⟨_, rfl⟩
          have h55 : w.heap.size + 1 + 1 + 1 + 1 + 1 ∈ So5 := by rw [hSo5]; simp
          have hSub : ∀ g ∈ So, g ∈ So5 := fun g hg => by rw [hSo5]; exact List.mem_cons_of_mem _ hg
          have hS5 : ∀ g ∈ So5, (g = w.heap.size + 5 ∨ w.heap.size + 7 ≤ g) ∧ g < w3.heap.size := fun g hg => by
            rw [hSo5] at hg
            rcases List.mem_cons.1 hg with e | e
            · have := hB3.b5.lt
              omega
            · have := hSn g e
              omega
          have n05 : w.heap.size ∉ So5 := fun q => by have := (hS5 _ q).1; omega
          have nB5 : Bx ∉ So5 := fun q => by
            rw [hSo5] at q
            rcases List.mem_cons.1 q with e | e
            · omega
            · exact nB e
          have D0 := Within.cell (S := So5) (show w3.cell? ⟨w.heap.size, 0, none⟩ = some (.func (.func 143) #[] #[]) from hB3.b0.cell 0) n05
          have X0 := Within.cell (S := So5) (show w3.cell? ⟨Bx, 0, none⟩ = some (.int .i64 x.x.ev.id) from hX3.cell 0) nB5
          have X1 := Within.cell (S := So5) (show w3.cell? ⟨Bx, 1, none⟩ = some (.string x.x.ev.type) from hX3.cell 1) nB5
          have X2 := Within.cell (S := So5) (show w3.cell? ⟨Bx, 2, none⟩ = some (.string x.x.ev.data) from hX3.cell 2) nB5
          have X3 := Within.cell (S := So5) (show w3.cell? ⟨Bx, 3, none⟩ = some (.float .f64 x.x.ev.value) from hX3.cell 3) nB5
          have X4 := Within.cell (S := So5) (show w3.cell? ⟨Bx, 4, none⟩ = some (.string x.x.stream) from hX3.cell 4) nB5
          have X5 := Within.cell (S := So5) (show w3.cell? ⟨Bx, 5, none⟩ = some (.int .i64 x.x.version) from hX3.cell 5) nB5
          have X6 := Within.cell (S := So5) (show w3.cell? ⟨Bx, 6, none⟩ = some (.int .i64 x.x.position) from hX3.cell 6) nB5
          have X7 := Within.cell (S := So5) (show w3.cell? ⟨Bx, 7, none⟩ = some (.int .i64 x.x.time) from hX3.cell 7) nB5
          have hwx := IntWalk.i64_in (max (StoredR.position x.x) 0 - 1) ⟨by omega, by omega⟩
          have HX3 := Lib.hid hX3
          have PD : w3.drew.cell? ⟨w.heap.size + 1 + 1 + 1 + 1 + 1, 0, none⟩ = some (.slice Ap acc.length cp) := P5 0
          have PDA : ∀ o, (w3.drew.alloc o).cell? ⟨w.heap.size + 1 + 1 + 1 + 1 + 1, 0, none⟩ = some (.slice Ap acc.length cp) := fun o => (((Only.refl [] w3).drew.alloc o).blk hB3.b5 (by simp)).cell 0
          clear h2 hX3
          gi_wp2_with fail
          refine wpIn_region_g (C := fun W => ∃ p : Within So5 w3, W = p.W) [([0, 2, 5, 6], [(1, 3)], [4]), ([10], [], [7]), ([8, 9], [], [11])] [12, 13] (by rintro ⟨a, w, h⟩; exact h) (by kernel_rfl) (by kernel_rfl) (by kernel_rfl) (by intro c d u a w h; cases d <;> exact h) ⟨⟨_, (Only.refl _ _).drew⟩, rfl⟩ ?_
          refine gFirstF ?_
          show wpQuiet _ _ _ _ [_, _, _, _] _
          repeat (go_big_quiet_step (fail))
          refine wpQuiet_nil ?_
          clear D0 X0 X1 X2 X3 X4 X5 X6 X7
          refine fork_intro (fun a0 a1 W => ∃ (g : Nat), a1 = (a0.put (some 24) (.slice Ap acc.length cp)).put (some 26) (.slice (some ⟨g, 0, none⟩) 1 1) ∧ Only [] w3 W ∧ Slc W 8 (.slice (some ⟨g, 0, none⟩) 1 1) 1 x.x.cells) ?_ ?_ ?_
          · show wpList _ _ _ [_] _ _
            go_wp2_with fail
            refine check_of (S := So5) (Only.refl So5 w3).drew ?_
            show wpList _ _ _ [_] _ _
            go_wp2_with fail
            exact check_of (S := So5) ((Only.refl So5 w3).drew.alloc _) ⟨w3.drew.heap.size, rfl, (Only.refl [] w3).drew.alloc _, slc_new1 (size := 8) (cs := x.x.cells) rfl⟩
          · show wpList _ _ _ [_] _ _
            go_wp2_with fail
            refine check_of (S := So5) ((Only.refl So5 w3).drew.alloc _) ?_
            show wpList _ _ _ [_] _ _
            go_wp2_with fail
            exact check_of (S := So5) ((Only.refl So5 w3).drew.alloc _) ⟨w3.drew.heap.size, rfl, (Only.refl [] w3).drew.alloc _, slc_new1 (size := 8) (cs := x.x.cells) rfl⟩
          · rintro _ Wg ⟨g, rfl, hWg, hs1⟩
            obtain ⟨A4, c4', w4, hr4, hown4, hO4, hf4⟩ := run_app (P := Tryz.prog) 28 28 w.heap.size 92 (.agg #[.int .i64 0, .string ⟨#[]⟩, .string ⟨#[]⟩, .float .f64 0, .string ⟨#[]⟩, .int .i64 0, .int .i64 0, .int .i64 0]) 8 88 Tryz.underlying28 infoSt rfl (by decide) (own_only hB3.own hWg (by simp)) hs1 (by simpa using stored_one [x.x]) (by omega) (by unfold maxLen; omega) (by have := hB3.below.size; have := hWg.size; omega)
            have hlx : (acc ++ [x.x]).length = acc.length + 1 := by simp
            have ho4 : w4.ownsRow w.heap.size 92 8 (.slice A4 (acc.length + 1) c4') (acc ++ [x.x]).length ((acc ++ [x.x]).flatMap StoredR.cells) := by
              rw [hlx]
              simpa using hown4
            have ho24 : Only So w3 w4 := (hWg.of_nil).trans (by rw [hSo]; exact hO4)
            have HR4 := Lib.hid hr4
            clear hr4 hown4 hs1
            show wpList _ _ _ [_] _ _
            refine Lib.wpList_append_run _ rfl (.tmp 24) (.tmp 26) 28 28 rfl _ _ rfl rfl _ _ HR4.out ?_
            refine wpList_nil ?_
            refine check_of (S := So5) (ho24.mono hSub) ?_
            refine gNext ?_
            show wpQuiet _ _ _ _ [_] _
            go_frame
            repeat (go_big_quiet_step (fail))
            refine wpQuiet_nil ?_
            show wpList _ _ _ [_] _ _
            go_wp2_with (go_at_call 143; refine (hKC.out _).mono ?_; rintro e w5 ⟨rfl, k5⟩)
            have ho25 : Only So w3 w5 := ho24.trans k5.of_nil
            refine check_of (S := So5) (ho25.mono hSub) ?_
            refine gNext ?_
            show wpQuiet _ _ _ _ [_, _] _
            repeat (go_big_quiet_step (fail))
            refine wpQuiet_nil ?_
            have P5 : ∀ i, w5.cell? ⟨w.heap.size + 1 + 1 + 1 + 1 + 1, i, none⟩ = #[Value.slice Ap acc.length cp, .int .i64 nx, .bool true][i]? := fun i => (ho25.blk hB3.b5 n5).cell i
            have F5 : ∀ i, w5.frozen? ⟨w.heap.size + 1 + 1 + 1 + 1 + 1, i, none⟩ = false := fun i => (ho25.blk hB3.b5 n5).free i
            show wpList _ _ _ [_] _ _
            go_wp2_with fail
            refine check_of (S := So5) ((ho25.mono hSub).setCell (.inl h55) _) ?_
            refine gEnd ?_
            show wpList _ _ _ [_, _] _ _
            go_wp2_with fail
            have koE : Only [w.heap.size + 1 + 1 + 1 + 1 + 1] w5 ((w5.setCell ⟨w.heap.size + 1 + 1 + 1 + 1 + 1, 0, none⟩ (.slice A4 (acc.length + 1) c4')).setCell ⟨w.heap.size + 1 + 1 + 1 + 1 + 1, 1, none⟩ (.int .i64 (max (StoredR.position x.x) 0 - 1))) := ((Only.refl _ _).setCell (.inl (by simp)) _).setCell (.inl (by simp)) _
            have kT : Only So5 w3 ((w5.setCell ⟨w.heap.size + 1 + 1 + 1 + 1 + 1, 0, none⟩ (.slice A4 (acc.length + 1) c4')).setCell ⟨w.heap.size + 1 + 1 + 1 + 1 + 1, 1, none⟩ (.int .i64 (max (StoredR.position x.x) 0 - 1))) := (ho25.mono hSub).trans (koE.mono (fun g hg => by rw [List.mem_singleton.1 hg]; exact h55))
            have hno : ∀ i, i < w.heap.size + 7 → i ≠ w.heap.size + 5 → i ∉ So5 := fun i h1 h2 q => by
              have := (hS5 i q).1
              omega
            obtain ⟨av, hb6⟩ := hB3.b6
            refine ⟨keepsOS (S := So5) (o3.of_nil.trans kT) (fun g hg => ?_), KeepT.only (S := So5) (o3.of_nil.trans kT) (fun i hi => ⟨by rcases hT3 i hi with q | q <;> omega, by rcases hT3 i hi with q | q; (exact hno i (by omega) (by omega)); (exact hno i (by omega) (by omega))⟩),
              .slice A4 (acc.length + 1) c4', acc ++ [x.x], max (StoredR.position x.x) 0 - 1, ⟨below_only hB3.below kT (fun g hg => by have := (hS5 g hg).1; omega), kT.blk hB3.b0 (hno _ (by omega) (by omega)), kT.blk hB3.b1 (hno _ (by omega) (by omega)), kT.blk hB3.b2 (hno _ (by omega) (by omega)), kT.blk hB3.b3 (hno _ (by omega) (by omega)), kT.blk hB3.b4 (hno _ (by omega) (by omega)), ((ho25.blk hB3.b5 n5).set 0 _).set 1 _, ⟨av, kT.blk hb6 (hno _ (by omega) (by omega))⟩, own_only (own_only ho4 k5 (by simp)) koE (fun g hg => ?_)⟩, by have := kT.size; omega, by simp; omega, hN⟩
            · rw [hSo5] at hg
              rcases List.mem_cons.1 hg with e | e
              · rw [e]
                exact ⟨_, _, HB.out.b5⟩
              · rw [hSo] at e
                obtain ⟨cur, hcur⟩ := own_type HB.out.own (g := g) (by simpa using e)
                exact ⟨_, _, hcur⟩
            · obtain ⟨cur, hcur⟩ := own_type ho4 hg
              simp only [List.mem_singleton]
              exact hcur.other (ho24.blk hB3.b5 n5) (by decide)
    case done =>
      rintro D ys W hD hys ⟨pv, acc, nx, hB, hz, ha, hRun⟩ hK3
      obtain ⟨Ap, cp, hpv, hap1, hap2⟩ := own_form hB.own
      subst hpv
      have hfin : R = ⟨acc, nx, true⟩ := by
        rw [HR.out, ← hys, ← List.append_nil (ys.map (·.x))]
        exact hRun.out []
      have P5 : ∀ i, W.cell? ⟨w.heap.size + 1 + 1 + 1 + 1 + 1, i, none⟩ = #[Value.slice Ap acc.length cp, .int .i64 nx, .bool true][i]? := fun i => hB.b5.cell i
      have P3 : ∀ i, W.cell? ⟨w.heap.size + 1 + 1 + 1, i, none⟩ = #[Value.slice none 0 0, .int .i64 0, .bool false][i]? := fun i => hB.b3.cell i
      have F3 : ∀ i, W.frozen? ⟨w.heap.size + 1 + 1 + 1, i, none⟩ = false := fun i => hB.b3.free i
      have P4 : ∀ i, W.cell? ⟨w.heap.size + 1 + 1 + 1 + 1, i, none⟩ = #[Value.int .i64 0][i]? := fun i => hB.b4.cell i
      have F4 : ∀ i, W.frozen? ⟨w.heap.size + 1 + 1 + 1 + 1, i, none⟩ = false := fun i => hB.b4.free i
      have HFin := Lib.hid hfin
      clear hfin hRun hys
      gi_wp2
      have koE : Only [w.heap.size + 1 + 1 + 1, w.heap.size + 1 + 1 + 1 + 1] W ((((W.setCell ⟨w.heap.size + 1 + 1 + 1, 0, none⟩ (.slice Ap acc.length cp)).setCell ⟨w.heap.size + 1 + 1 + 1, 1, none⟩ (.int .i64 nx)).setCell ⟨w.heap.size + 1 + 1 + 1, 2, none⟩ (.bool true)).setCell ⟨w.heap.size + 1 + 1 + 1 + 1, 0, none⟩ (.int .i64 0)) := by
        iterate 4 (refine Only.setCell ?_ (.inl (by simp)) _)
        exact Only.refl _ _
      have q2 := ((hB.b3.set 0 (.slice Ap acc.length cp)).set 1 (.int .i64 nx)).set 2 (.bool true)
      have he3 := ((Only.refl [w.heap.size + 1 + 1 + 1 + 1] _).setCell (p := ⟨w.heap.size + 1 + 1 + 1 + 1, 0, none⟩) (.inl (by simp)) (.int .i64 0)).blk q2 (by simp)
      have r1 : Only [w.heap.size + 1 + 1 + 1] W (((W.setCell ⟨w.heap.size + 1 + 1 + 1, 0, none⟩ (.slice Ap acc.length cp)).setCell ⟨w.heap.size + 1 + 1 + 1, 1, none⟩ (.int .i64 nx)).setCell ⟨w.heap.size + 1 + 1 + 1, 2, none⟩ (.bool true)) := by
        iterate 3 (refine Only.setCell ?_ (.inl (by simp)) _)
        exact Only.refl _ _
      have he4 := (r1.blk hB.b4 (by simp)).set 0 (.int .i64 0)
      have hoe := own_only hB.own koE (fun g hg => by
        have := (hB.nown g hg).1
        simp
        omega)
      have hbe := below_only hB.below koE (fun g hg => by simp at hg; omega)
      have hKe := (koE.block D (Array.getElem?_eq_some_iff.1 hK3).1 (by simp; omega)).trans hK3
      have kD : Only [D] ((((W.setCell ⟨w.heap.size + 1 + 1 + 1, 0, none⟩ (.slice Ap acc.length cp)).setCell ⟨w.heap.size + 1 + 1 + 1, 1, none⟩ (.int .i64 nx)).setCell ⟨w.heap.size + 1 + 1 + 1, 2, none⟩ (.bool true)).setCell ⟨w.heap.size + 1 + 1 + 1 + 1, 0, none⟩ (.int .i64 0)) ((((((W.setCell ⟨w.heap.size + 1 + 1 + 1, 0, none⟩ (.slice Ap acc.length cp)).setCell ⟨w.heap.size + 1 + 1 + 1, 1, none⟩ (.int .i64 nx)).setCell ⟨w.heap.size + 1 + 1 + 1, 2, none⟩ (.bool true)).setCell ⟨w.heap.size + 1 + 1 + 1 + 1, 0, none⟩ (.int .i64 0))).putObj D (.deferred none)) := only_grownBy (grownBy_putObj' _ D (.deferred none)) (fun r e => by cases e; simp)
      refine ⟨by simp, .inl ⟨_, _, rfl, run_takeDeferred hKe, ?_⟩⟩
      have c3 := fun i => (kD.blk he3 (by simp; omega)).cell i
      have c4 := fun i => (kD.blk he4 (by simp; omega)).cell i
      refine ⟨.tuple #[.agg #[.slice Ap acc.length cp, .int .i64 nx, .bool true], .int .i64 0], ?_, .slice Ap acc.length cp, by rw [HFin.out], ?_, Only.of_below (below_only hbe kD (fun g hg => by simp at hg; omega)) (Nat.le_refl _)⟩
      · simp [results, Tryz.f114, go_sem, c3, c4]
      · rw [HFin.out]
        exact own_only hoe kD (fun g hg => by
          obtain ⟨cur, hcur⟩ := own_type hoe hg
          intro q
          have e1 := List.mem_singleton.1 q
          rw [e1] at hcur
          rw [show (((((W.setCell ⟨w.heap.size + 1 + 1 + 1, 0, none⟩ (.slice Ap acc.length cp)).setCell ⟨w.heap.size + 1 + 1 + 1, 1, none⟩ (.int .i64 nx)).setCell ⟨w.heap.size + 1 + 1 + 1, 2, none⟩ (.bool true)).setCell ⟨w.heap.size + 1 + 1 + 1 + 1, 0, none⟩ (.int .i64 0))).heap[D]? = _ from hcur] at hKe
          cases hKe)
    case stop =>
      rintro D c pre W hD hpre ⟨rfl, pv, acc, nx, ⟨g3, g4, hown, hbel⟩, hRun⟩ hK3
      obtain ⟨Ap, cp, hpv, hap1, hap2⟩ := own_form hown
      subst hpv
      have hfin : R = ⟨acc, nx, false⟩ := by
        obtain ⟨rest, hr⟩ := hpre
        rw [HR.out, ← hr]
        exact hRun.out rest
      have HFin := Lib.hid hfin
      clear hfin hRun hpre
      gi_wp2
      have he3 := g3
      have he4 := g4
      have hoe := hown
      have hbe := hbel
      have hKe := hK3
      have kD : Only [D] W (W.putObj D (.deferred none)) := only_grownBy (grownBy_putObj' _ D (.deferred none)) (fun r e => by cases e; simp)
      refine ⟨by simp, .inl ⟨_, _, rfl, run_takeDeferred hKe, ?_⟩⟩
      have c3 := fun i => (kD.blk he3 (by simp; omega)).cell i
      have c4 := fun i => (kD.blk he4 (by simp; omega)).cell i
      refine ⟨.tuple #[.agg #[.slice Ap acc.length cp, .int .i64 nx, .bool false], .int .i64 0], ?_, .slice Ap acc.length cp, by rw [HFin.out], ?_, Only.of_below (below_only hbe kD (fun g hg => by simp at hg; omega)) (Nat.le_refl _)⟩
      · simp [results, Tryz.f114, go_sem, c3, c4]
      · rw [HFin.out]
        exact own_only hoe kD (fun g hg => by
          obtain ⟨cur, hcur⟩ := own_type hoe hg
          intro q
          have e1 := List.mem_singleton.1 q
          rw [e1] at hcur
          rw [show W.heap[D]? = _ from hcur] at hKe
          cases hKe)
set_option maxRecDepth 100000 in
set_option maxHeartbeats 4000000 in
theorem backwardV_any {w : World} {v : Value} {l : List StoredR} {f n : Int} (hl : Slc w 8 v l.length (l.flatMap StoredR.cells)) (hb : l.length ≤ 1000000) (hk : ∀ s ∈ l, 0 ≤ StoredR.version s ∧ StoredR.version s ≤ 1000000000) :
    Calls Tryz.prog 114 #[.func (.func 115) #[] #[], v, .int .i64 f, .int .i64 n] w (PageOut w StoredR.version l f n (pageBy StoredR.version l f n true)) := by
  cases hw : wrongP f n with
  | true =>
    obtain ⟨A, cap, rfl, hnc, hcm, hel⟩ := hl.openE StoredR.cells (fun _ => rfl)
    have HW := Lib.hid hw
    have HV := Lib.hid (fun W => vwrong_any f n W)
    rw [hw] at HV
    clear hel hw
    have hR : pageBy StoredR.version l f n true = (PageR.zero, 1) := by unfold pageBy; rw [HW.out]; rfl
    rw [hR]
    clear hR
    go_enter Tryz.func114, Tryz.ntmps114
    go_wp2_with (go_at_call 144; refine (HV.out _).mono ?_; rintro e w1 ⟨rfl, rfl⟩)
    refine bodyPost_ret (v := .tuple #[.agg #[.slice none 0 0, .int .i64 0, .bool false], .int .i64 1]) (by simp [results, Tryz.results114, go_sem]) rfl ⟨_, rfl, World.ownsRow_nil _ _ _ _, ?_⟩
    iterate 5 (refine Only.alloc ?_ _)
    exact Only.refl [] w
  | false =>
    obtain ⟨A, cap, rfl, hnc, hcm, hel⟩ := hl.openE StoredR.cells (fun _ => rfl)
    have HW := Lib.hid hw
    have HV := Lib.hid (fun W => vwrong_any f n W)
    rw [hw] at HV
    have hn : 1 ≤ n ∧ n ≤ 100 := by simp [wrongP] at hw; omega
    clear hw
    have hR : pageBy StoredR.version l f n true = (bwdGo StoredR.version f n l.reverse [] f, 0) := by unfold pageBy; rw [HW.out]; rfl
    rw [hR]
    clear hR
    obtain ⟨R, hR⟩ : ∃ R, R = bwdGo StoredR.version f n l.reverse [] f := ⟨_, rfl⟩
    rw [← hR]
    have HR := Lib.hid hR
    clear hR
    refine (callsIn_wide (n := 3)).1 ?_
    refine callsIn_of_wp_marks Tryz.func114 rfl trivial ?_ rfl
    simp only [Tryz.ntmps114, List.size_toArray, List.length_cons, List.length_nil, Nat.reduceAdd, Nat.reduceSub, Array.replicate_succ, Array.replicate_zero, List.push_toArray, List.append_toArray, List.nil_append, List.cons_append]
    gi_wp2_with (first
      | (refine ⟨trivial, ?_⟩; gi_at_call 144; refine (callsIn_wide.2 (HV.out _)).mono ?_; rintro e w1 ⟨rfl, rfl⟩)
      | (refine ⟨trivial, ?_⟩; gi_at_call 145; refine (back_in Fence.wide _ trivial rfl _ _ _ _).mono ?_; rintro e w2 ⟨rfl, rfl⟩))
    obtain ⟨W2, hW2⟩ : ∃ W2, W2 = ((((((w.alloc (.cells #[.func (.func 115) #[] #[]] 213)).alloc (.cells #[.int .i64 f] 3)).alloc (.cells #[.int .i64 n] 3)).alloc (.cells #[.slice none 0 0, .int .i64 0, .bool false] 57)).alloc (.cells #[.int .i64 0] 32)).alloc (.cells #[.slice none 0 0, .int .i64 f, .bool true] 57)).alloc (.cells #[.slice A l.length cap] 28) := ⟨_, rfl⟩
    rw [← hW2]
    have hz2 : W2.heap.size = w.heap.size + 7 := by rw [hW2]; simp
    have hO2 : Only [] w W2 := by
      rw [hW2]
      iterate 7 (refine Only.alloc ?_ _)
      exact Only.refl [] w
    have hB2 : BwAt w W2 (.func (.func 115) #[] #[]) (.slice none 0 0) f n [] f := by
      have g0 := Blk.new w 213 #[.func (.func 115) #[] #[]]
      have g1 := Blk.new (w.alloc (.cells #[.func (.func 115) #[] #[]] 213)) 3 #[.int .i64 f]
      have g2 := Blk.new ((w.alloc (.cells #[.func (.func 115) #[] #[]] 213)).alloc (.cells #[.int .i64 f] 3)) 3 #[.int .i64 n]
      have g3 := Blk.new (((w.alloc (.cells #[.func (.func 115) #[] #[]] 213)).alloc (.cells #[.int .i64 f] 3)).alloc (.cells #[.int .i64 n] 3)) 57 #[.slice none 0 0, .int .i64 0, .bool false]
      have g4 := Blk.new ((((w.alloc (.cells #[.func (.func 115) #[] #[]] 213)).alloc (.cells #[.int .i64 f] 3)).alloc (.cells #[.int .i64 n] 3)).alloc (.cells #[.slice none 0 0, .int .i64 0, .bool false] 57)) 32 #[.int .i64 0]
      have g5 := Blk.new (((((w.alloc (.cells #[.func (.func 115) #[] #[]] 213)).alloc (.cells #[.int .i64 f] 3)).alloc (.cells #[.int .i64 n] 3)).alloc (.cells #[.slice none 0 0, .int .i64 0, .bool false] 57)).alloc (.cells #[.int .i64 0] 32)) 57 #[.slice none 0 0, .int .i64 f, .bool true]
      simp only [World.size_alloc] at g0 g1 g2 g3 g4 g5
      refine ⟨hO2.toBelow, ?_, ?_, ?_, ?_, ?_, ?_, ⟨.slice A l.length cap, ?_⟩, World.ownsRow_nil _ _ _ _⟩
      · rw [hW2]; exact (((((((Only.refl [] _).alloc _).alloc _).alloc _).alloc _).alloc _).alloc _).blk g0 (by simp)
      · rw [hW2]; exact ((((((Only.refl [] _).alloc _).alloc _).alloc _).alloc _).alloc _).blk g1 (by simp)
      · rw [hW2]; exact (((((Only.refl [] _).alloc _).alloc _).alloc _).alloc _).blk g2 (by simp)
      · rw [hW2]; exact ((((Only.refl [] _).alloc _).alloc _).alloc _).blk g3 (by simp)
      · rw [hW2]; exact (((Only.refl [] _).alloc _).alloc _).blk g4 (by simp)
      · rw [hW2]; exact ((Only.refl [] _).alloc (.cells #[.slice A l.length cap] 28)).blk g5 (by simp)
      · have g6 := Blk.new ((((((w.alloc (.cells #[.func (.func 115) #[] #[]] 213)).alloc (.cells #[.int .i64 f] 3)).alloc (.cells #[.int .i64 n] 3)).alloc (.cells #[.slice none 0 0, .int .i64 0, .bool false] 57)).alloc (.cells #[.int .i64 0] 32)).alloc (.cells #[.slice none 0 0, .int .i64 f, .bool true] 57)) 28 #[.slice A l.length cap]
        simp only [World.size_alloc] at g6
        rw [hW2]
        exact g6
    obtain ⟨T, hT1, hT2, hT3⟩ : ∃ T : List Nat, w.heap.size + 6 ∈ T ∧ (∀ g, (Value.slice A l.length cap).ownBlock = some g → g ∈ T ∨ l.length = 0) ∧ ∀ i ∈ T, i = w.heap.size + 6 ∨ i < w.heap.size := by
      by_cases h0 : l.length = 0
      · exact ⟨[w.heap.size + 6], by simp, fun g _ => .inr h0, fun i hi => .inl (by simpa using hi)⟩
      · obtain ⟨b0, o0, hA, hb0, _⟩ := hel 0 (by omega)
        subst hA
        refine ⟨[w.heap.size + 6, b0], by simp, fun g hg => .inl ?_, fun i hi => ?_⟩
        · cases hg
          simp
        · simp at hi
          rcases hi with rfl | rfl
          · exact .inl rfl
          · exact .inr hb0
    have hbx : W2.cell? ⟨w.heap.size + 6, 0, none⟩ = some (.slice A l.length cap) := by
      rw [hW2]
      have := Blk.new ((((((w.alloc (.cells #[.func (.func 115) #[] #[]] 213)).alloc (.cells #[.int .i64 f] 3)).alloc (.cells #[.int .i64 n] 3)).alloc (.cells #[.slice none 0 0, .int .i64 0, .bool false] 57)).alloc (.cells #[.int .i64 0] 32)).alloc (.cells #[.slice none 0 0, .int .i64 f, .bool true] 57)) 28 #[.slice A l.length cap]
      simp only [World.size_alloc] at this
      exact this.cell 0
    have hsl2 := hl.only0 hO2
    have hK := Lib.hid hk
    clear hW2 hk hl hel hnc hcm HV
    refine wpIn_rangeFunc_ownH rfl (by omega) (gf := 172) (lb := #[.pointer (some ⟨w.heap.size + 6, 0, none⟩)]) rfl trivial (enters_of Tryz.func172 (by kernel_rfl) rfl)
      (bk_stops2 Fence.wide _ trivial rfl (by omega) T (w.heap.size + 6) A cap l hb W2 hT1 (fun i hi => by rcases hT3 i hi with q | q <;> omega) hbx hsl2 hT2) (fun {A B C} h1 h2 => KeepT.trans h1 h2) (KeepT.put (fun i hi => by rcases hT3 i hi with q | q <;> omega)) (Below.refl _ _) (fun _ => rfl)
      (fun pre W => ∃ pv acc nx, BwAt w W (.func (.func 115) #[] #[]) pv f n acc nx ∧ W2.heap.size ≤ W.heap.size ∧ acc.length ≤ pre.length ∧ Hid (∀ rest, bwdGo StoredR.version f n (pre.map (·.x) ++ rest) [] f = bwdGo StoredR.version f n rest acc nx))
      (fun c pre W => c = .ret ∧ ∃ pv acc nx, (Blk W (w.heap.size + 3) 57 #[pv, .int .i64 nx, .bool false] ∧ Blk W (w.heap.size + 4) 32 #[.int .i64 0] ∧ W.ownsRow w.heap.size 92 8 pv acc.length (acc.flatMap StoredR.cells) ∧ Below w.heap.size w W) ∧ Hid (∀ rest, bwdGo StoredR.version f n (pre.map (·.x) ++ rest) [] f = ⟨acc, nx, false⟩))
      ?hI ?hIx
      ⟨.slice none 0 0, [], f, hB2, Nat.le_refl _, Nat.le_refl _, fun rest => rfl⟩
      (fun x a' W => ∃ (Bx : Nat) (pv u1 u2 : Value), w.heap.size + 7 ≤ Bx ∧ Blk W Bx 92 #[.int .i64 x.x.ev.id, .string x.x.ev.type, .string x.x.ev.data, .float .f64 x.x.ev.value, .string x.x.stream, .int .i64 x.x.version, .int .i64 x.x.position, .int .i64 x.x.time] ∧ Blk W (w.heap.size + 5) 57 #[pv, u1, u2] ∧ pv.ownBlock ≠ some Bx ∧ a' = { tmps := #[.func (.func 115) #[] #[], .slice A l.length cap, .int .i64 f, .int .i64 n, .pointer (some ⟨w.heap.size, 0, none⟩), undef, .pointer (some ⟨w.heap.size + 1, 0, none⟩), .pointer (some ⟨w.heap.size + 1 + 1, 0, none⟩), .pointer (some ⟨w.heap.size + 1 + 1 + 1, 0, none⟩), .pointer (some ⟨w.heap.size + 1 + 1 + 1 + 1, 0, none⟩), .pointer (some ⟨w.heap.size + 1 + 1 + 1 + 1 + 1, 0, none⟩), undef, .pointer (some ⟨Bx, 0, none⟩), .int .i64 f, .int .i64 n, .bool false, undef, .int .i64 f, .agg #[.slice none 0 0, .int .i64 f, .bool true], .slice A l.length cap, .func (.func 172) #[] #[.pointer (some ⟨w.heap.size + 1 + 1 + 1 + 1 + 1 + 1, 0, none⟩)], .int .i64 x.i, .agg #[.int .i64 x.x.ev.id, .string x.x.ev.type, .string x.x.ev.data, .float .f64 x.x.ev.value, .string x.x.stream, .int .i64 x.x.version, .int .i64 x.x.position, .int .i64 x.x.time], undef, undef, undef, undef, undef, undef, undef, undef, undef, undef, undef, undef, undef, undef, undef, undef, undef, undef, undef, undef, undef, undef, undef, undef, undef, undef, undef], defers := [] })
      ?hAx ?assign ?body ?done ?stop
    case hI =>
      rintro pre W W' row ⟨pv, acc, nx, h1, h2, h3, h4⟩ hg hr
      exact ⟨pv, acc, nx, h1.grown hg (fun r e => (hr r e).2) (fun r e => by have := (hr r e).1; omega), Nat.le_trans h2 hg.size, h3, h4⟩
    case hIx =>
      rintro c pre W W' row ⟨rfl, pv, acc, nx, ⟨h1, h2, h3, h4⟩, h5⟩ hg hr
      have ko : Only row.toList W W' := only_grownBy hg (fun r e => by simp [e])
      have hc := fun r e => (hr r e).2
      refine ⟨rfl, pv, acc, nx, ⟨ko.blk h1 (not_cells hc h1), ko.blk h2 (not_cells hc h2), own_only h3 ko (fun g q => ?_), ?_⟩, h5⟩
      · obtain ⟨cur, hcur⟩ := own_type h3 q
        exact not_cells hc hcur
      · exact h4.trans ⟨ko.os, ko.tape, ko.output, ko.size, fun i hi => ko.block i (by have := h4.size; omega) (fun q => by have := (hr i (by simpa using q)).1; omega)⟩
    case hAx =>
      rintro x a' s W W' row ⟨Bx, pv, u1, u2, h1, h2, h3, h4, h5⟩ hg hr
      have ko : Only row.toList W W' := only_grownBy hg (fun r e => by simp [e])
      have hc := fun r e => (hr r e).2
      exact ⟨Bx, pv, u1, u2, h1, ko.blk h2 (not_cells hc h2), ko.blk h3 (not_cells hc h3), h4, h5⟩
    case assign =>
      rintro ly pre x W K ⟨pv, acc, nx, h1, h2, h3, h4⟩ hK2
      have hsf := stF
      unfold bkV
      gi_wp2
      have hkk := (Only.refl [] W).alloc (.cells #[.int .i64 x.x.ev.id, .string x.x.ev.type, .string x.x.ev.data, .float .f64 x.x.ev.value, .string x.x.stream, .int .i64 x.x.version, .int .i64 x.x.position, .int .i64 x.x.time] 92)
      refine hK2 _ _ (keepsOS hkk (by simp)) (KeepT.only hkk (fun i hi => ⟨by rcases hT3 i hi with q | q <;> omega, by simp⟩)) ⟨pv, acc, nx, h1.only0 hkk, Nat.le_trans h2 hkk.size, h3, h4⟩ ⟨W.heap.size, pv, .int .i64 nx, .bool true, by omega, Blk.new W _ _, (h1.only0 hkk).b5, fun q => ?_, rfl⟩
      have := (h1.nown _ q).2
      omega
    case body =>
      rintro ly pre x a' W hly hlo ⟨pv, acc, nx, hB, hz, ha, hRun⟩ ⟨Bx, pv', u1, u2, hBx, hX, hP5, hne, rfl⟩ hlt
      have hpe : pv' = pv := by
        have e : some (Obj.cells #[pv', u1, u2] 57) = some (Obj.cells #[pv, .int .i64 nx, .bool true] 57) := hP5.symm.trans hB.b5
        injection e with e
        injection e with e
        exact Option.some.inj (show some pv' = some pv from congrArg (fun a : Array Value => a[0]?) e)
      subst hpe
      obtain ⟨Ap, cp, hpv, hap1, hap2⟩ := own_form hB.own
      subst hpv
      unfold maxLen at hap2
      have hKx := hK.out x.x x.mem
      have hKC := Lib.hid (fun W => version_any x.x W)
      have hSt : Hid (∀ rest, bwdGo StoredR.version f n ((pre ++ [x]).map (·.x) ++ rest) [] f = if f < StoredR.version x.x then bwdGo StoredR.version f n rest acc nx else if (acc.length : Int) = n then ⟨acc, nx, false⟩ else bwdGo StoredR.version f n rest (acc ++ [x.x]) (max (StoredR.version x.x) 0 - 1)) := fun rest => by
        rw [List.map_append, List.append_assoc]
        exact hRun.out _
      have D0 := Within.cell (S := []) (show W.cell? ⟨w.heap.size, 0, none⟩ = some (.func (.func 115) #[] #[]) from hB.b0.cell 0) (by simp)
      have D1 := Within.cell (S := []) (show W.cell? ⟨w.heap.size + 1, 0, none⟩ = some (.int .i64 f) from hB.b1.cell 0) (by simp)
      have X0 := Within.cell (S := []) (show W.cell? ⟨Bx, 0, none⟩ = some (.int .i64 x.x.ev.id) from hX.cell 0) (by simp)
      have X1 := Within.cell (S := []) (show W.cell? ⟨Bx, 1, none⟩ = some (.string x.x.ev.type) from hX.cell 1) (by simp)
      have X2 := Within.cell (S := []) (show W.cell? ⟨Bx, 2, none⟩ = some (.string x.x.ev.data) from hX.cell 2) (by simp)
      have X3 := Within.cell (S := []) (show W.cell? ⟨Bx, 3, none⟩ = some (.float .f64 x.x.ev.value) from hX.cell 3) (by simp)
      have X4 := Within.cell (S := []) (show W.cell? ⟨Bx, 4, none⟩ = some (.string x.x.stream) from hX.cell 4) (by simp)
      have X5 := Within.cell (S := []) (show W.cell? ⟨Bx, 5, none⟩ = some (.int .i64 x.x.version) from hX.cell 5) (by simp)
      have X6 := Within.cell (S := []) (show W.cell? ⟨Bx, 6, none⟩ = some (.int .i64 x.x.position) from hX.cell 6) (by simp)
      have X7 := Within.cell (S := []) (show W.cell? ⟨Bx, 7, none⟩ = some (.int .i64 x.x.time) from hX.cell 7) (by simp)
      have hsf := stF
      have HB := Lib.hid hB
      have HX := Lib.hid hX
      clear hB hX hP5 hRun
      gi_wp2_with fail
      refine wpIn_region_in [] [0, 1, 3] [2, 4, 5] [] (by rintro ⟨a, w, h⟩; exact h) (by kernel_rfl) (by kernel_rfl) (by kernel_rfl) (by intro c d u a w h; cases d <;> exact h) ?_
      show wpQuiet _ _ _ _ [_, _, _] _
      repeat (go_big_quiet_step (fail))
      refine wpQuiet_nil ?_
      clear D0 D1 X0 X1 X2 X3 X4 X5 X6 X7
      show wpList _ _ _ [_] _ _
      go_wp2_with (go_at_call 115; refine (hKC.out _).mono ?_; rintro e w3 ⟨rfl, k3⟩)
      have o3 := (Only.refl [] W).drew.trans k3
      refine check_of (S := []) o3 ?_
      show wpList _ _ _ [_] _ _
      go_wp2_with fail
      refine check_of (S := []) o3 ?_
      show wpList _ _ _ [_] _ _
      go_wp2_with fail
      refine check_last (S := []) o3 (fun _ _ q => q) ?_
      have hB3 := HB.out.only0 o3
      have hX3 := o3.blk HX.out (by simp)
      have hz3 := o3.size
      by_cases h1 : f < StoredR.version x.x
      · have hN : Hid (∀ rest, bwdGo StoredR.version f n ((pre ++ [x]).map (·.x) ++ rest) [] f = bwdGo StoredR.version f n rest acc nx) := fun rest => by rw [hSt.out, if_pos h1]
        have h1b : decide (StoredR.version x.x > f) = true := decide_eq_true h1
        gi_wp2
        exact ⟨keepsOS o3 (by simp), KeepT.only o3 (fun i hi => ⟨by rcases hT3 i hi with q | q <;> omega, by simp⟩), _, acc, nx, hB3, by omega, by simp; omega, hN⟩
      · have h1b : decide (StoredR.version x.x > f) = false := decide_eq_false h1
        have P5 : ∀ i, w3.cell? ⟨w.heap.size + 1 + 1 + 1 + 1 + 1, i, none⟩ = #[Value.slice Ap acc.length cp, .int .i64 nx, .bool true][i]? := fun i => hB3.b5.cell i
        have F5 : ∀ i, w3.frozen? ⟨w.heap.size + 1 + 1 + 1 + 1 + 1, i, none⟩ = false := fun i => hB3.b5.free i
        have P2 : w3.cell? ⟨w.heap.size + 1 + 1, 0, none⟩ = some (.int .i64 n) := hB3.b2.cell 0
        by_cases h2 : (acc.length : Int) = n
        · have h2b : ((acc.length : Int) == n) = true := by simpa using h2
          have hN : Hid (∀ rest, bwdGo StoredR.version f n ((pre ++ [x]).map (·.x) ++ rest) [] f = ⟨acc, nx, false⟩) := fun rest => by rw [hSt.out, if_neg h1, if_pos h2]
          have P3 : ∀ i, w3.cell? ⟨w.heap.size + 1 + 1 + 1, i, none⟩ = #[Value.slice none 0 0, .int .i64 0, .bool false][i]? := fun i => hB3.b3.cell i
          have F3 : ∀ i, w3.frozen? ⟨w.heap.size + 1 + 1 + 1, i, none⟩ = false := fun i => hB3.b3.free i
          have P4 : ∀ i, w3.cell? ⟨w.heap.size + 1 + 1 + 1 + 1, i, none⟩ = #[Value.int .i64 0][i]? := fun i => hB3.b4.cell i
          have F4 : ∀ i, w3.frozen? ⟨w.heap.size + 1 + 1 + 1 + 1, i, none⟩ = false := fun i => hB3.b4.free i
          clear h2
          gi_wp2
          have koE : Only [w.heap.size + 1 + 1 + 1, w.heap.size + 1 + 1 + 1 + 1, w.heap.size + 1 + 1 + 1 + 1 + 1] w3 (((((w3.setCell ⟨w.heap.size + 1 + 1 + 1 + 1 + 1, 2, none⟩ (.bool false)).setCell ⟨w.heap.size + 1 + 1 + 1, 0, none⟩ (.slice Ap acc.length cp)).setCell ⟨w.heap.size + 1 + 1 + 1, 1, none⟩ (.int .i64 nx)).setCell ⟨w.heap.size + 1 + 1 + 1, 2, none⟩ (.bool false)).setCell ⟨w.heap.size + 1 + 1 + 1 + 1, 0, none⟩ (.int .i64 0)) := by
            iterate 5 (refine Only.setCell ?_ (.inl (by simp)) _)
            exact Only.refl _ _
          have q1 := ((Only.refl [w.heap.size + 1 + 1 + 1 + 1 + 1] w3).setCell (p := ⟨w.heap.size + 1 + 1 + 1 + 1 + 1, 2, none⟩) (.inl (by simp)) (.bool false)).blk hB3.b3 (by simp)
          have q2 := ((q1.set 0 (.slice Ap acc.length cp)).set 1 (.int .i64 nx)).set 2 (.bool false)
          have q3 := ((Only.refl [w.heap.size + 1 + 1 + 1 + 1] _).setCell (p := ⟨w.heap.size + 1 + 1 + 1 + 1, 0, none⟩) (.inl (by simp)) (.int .i64 0)).blk q2 (by simp)
          have r1 : Only [w.heap.size + 1 + 1 + 1, w.heap.size + 1 + 1 + 1 + 1 + 1] w3 ((((w3.setCell ⟨w.heap.size + 1 + 1 + 1 + 1 + 1, 2, none⟩ (.bool false)).setCell ⟨w.heap.size + 1 + 1 + 1, 0, none⟩ (.slice Ap acc.length cp)).setCell ⟨w.heap.size + 1 + 1 + 1, 1, none⟩ (.int .i64 nx)).setCell ⟨w.heap.size + 1 + 1 + 1, 2, none⟩ (.bool false)) := by
            iterate 4 (refine Only.setCell ?_ (.inl (by simp)) _)
            exact Only.refl _ _
          have r2 := (r1.blk hB3.b4 (by simp)).set 0 (.int .i64 0)
          refine ⟨keepsOS (o3.of_nil.trans koE) (fun g hg => ?_), rfl, .slice Ap acc.length cp, acc, nx, ⟨q3, r2, own_only hB3.own koE (fun g hg => ?_), below_only hB3.below koE (fun g hg => ?_)⟩, hN⟩
          · simp only [List.mem_cons, List.not_mem_nil, or_false] at hg
            rcases hg with rfl | rfl | rfl
            · exact ⟨_, _, HB.out.b3⟩
            · exact ⟨_, _, HB.out.b4⟩
            · exact ⟨_, _, HB.out.b5⟩
          · have := (hB3.nown g hg).1
            simp
            omega
          · simp at hg
            omega
        · have h2b : ((acc.length : Int) == n) = false := by rw [beq_eq_false_iff_ne]; exact h2
          have hN : Hid (∀ rest, bwdGo StoredR.version f n ((pre ++ [x]).map (·.x) ++ rest) [] f = bwdGo StoredR.version f n rest (acc ++ [x.x]) (max (StoredR.version x.x) 0 - 1)) := fun rest => by rw [hSt.out, if_neg h1, if_neg h2]
          have hal : acc.length + 1 ≤ 1000001 := by omega
          obtain ⟨So, hSo⟩ : ∃ So, So = (Value.slice Ap acc.length cp).ownBlock.toList := ⟨_, rfl⟩
          have hSn : ∀ g ∈ So, w.heap.size + 7 ≤ g ∧ g < w3.heap.size := fun g hg => hB3.nown g (by rw [hSo] at hg; simpa using hg)
          have nB : Bx ∉ So := fun q => hne (by rw [hSo] at q; simpa using q)
          have n5 : w.heap.size + 1 + 1 + 1 + 1 + 1 ∉ So := fun q => by have := (hSn _ q).1; omega
          have n0 : w.heap.size ∉ So := fun q => by have := (hSn _ q).1; omega
          obtain ⟨So5, hSo5⟩ : ∃ So5, So5 = (w.heap.size + 1 + 1 + 1 + 1 + 1) :: So := ⟨_, rfl⟩
          have h55 : w.heap.size + 1 + 1 + 1 + 1 + 1 ∈ So5 := by rw [hSo5]; simp
          have hSub : ∀ g ∈ So, g ∈ So5 := fun g hg => by rw [hSo5]; exact List.mem_cons_of_mem _ hg
          have hS5 : ∀ g ∈ So5, (g = w.heap.size + 5 ∨ w.heap.size + 7 ≤ g) ∧ g < w3.heap.size := fun g hg => by
            rw [hSo5] at hg
            rcases List.mem_cons.1 hg with e | e
            · have := hB3.b5.lt
              omega
            · have := hSn g e
              omega
          have n05 : w.heap.size ∉ So5 := fun q => by have := (hS5 _ q).1; omega
          have nB5 : Bx ∉ So5 := fun q => by
            rw [hSo5] at q
            rcases List.mem_cons.1 q with e | e
            · omega
            · exact nB e
          have D0 := Within.cell (S := So5) (show w3.cell? ⟨w.heap.size, 0, none⟩ = some (.func (.func 115) #[] #[]) from hB3.b0.cell 0) n05
          have X0 := Within.cell (S := So5) (show w3.cell? ⟨Bx, 0, none⟩ = some (.int .i64 x.x.ev.id) from hX3.cell 0) nB5
          have X1 := Within.cell (S := So5) (show w3.cell? ⟨Bx, 1, none⟩ = some (.string x.x.ev.type) from hX3.cell 1) nB5
          have X2 := Within.cell (S := So5) (show w3.cell? ⟨Bx, 2, none⟩ = some (.string x.x.ev.data) from hX3.cell 2) nB5
          have X3 := Within.cell (S := So5) (show w3.cell? ⟨Bx, 3, none⟩ = some (.float .f64 x.x.ev.value) from hX3.cell 3) nB5
          have X4 := Within.cell (S := So5) (show w3.cell? ⟨Bx, 4, none⟩ = some (.string x.x.stream) from hX3.cell 4) nB5
          have X5 := Within.cell (S := So5) (show w3.cell? ⟨Bx, 5, none⟩ = some (.int .i64 x.x.version) from hX3.cell 5) nB5
          have X6 := Within.cell (S := So5) (show w3.cell? ⟨Bx, 6, none⟩ = some (.int .i64 x.x.position) from hX3.cell 6) nB5
          have X7 := Within.cell (S := So5) (show w3.cell? ⟨Bx, 7, none⟩ = some (.int .i64 x.x.time) from hX3.cell 7) nB5
          have hwx := IntWalk.i64_in (max (StoredR.version x.x) 0 - 1) ⟨by omega, by omega⟩
          have HX3 := Lib.hid hX3
          have PD : w3.drew.cell? ⟨w.heap.size + 1 + 1 + 1 + 1 + 1, 0, none⟩ = some (.slice Ap acc.length cp) := P5 0
          have PDA : ∀ o, (w3.drew.alloc o).cell? ⟨w.heap.size + 1 + 1 + 1 + 1 + 1, 0, none⟩ = some (.slice Ap acc.length cp) := fun o => (((Only.refl [] w3).drew.alloc o).blk hB3.b5 (by simp)).cell 0
          clear h2 hX3
          gi_wp2_with fail
          refine wpIn_region_g (C := fun W => ∃ p : Within So5 w3, W = p.W) [([0, 2, 5, 6], [(1, 3)], [4]), ([10], [], [7]), ([8, 9], [], [11])] [12, 13] (by rintro ⟨a, w, h⟩; exact h) (by kernel_rfl) (by kernel_rfl) (by kernel_rfl) (by intro c d u a w h; cases d <;> exact h) ⟨⟨_, (Only.refl _ _).drew⟩, rfl⟩ ?_
          refine gFirstF ?_
          show wpQuiet _ _ _ _ [_, _, _, _] _
          repeat (go_big_quiet_step (fail))
          refine wpQuiet_nil ?_
          clear D0 X0 X1 X2 X3 X4 X5 X6 X7
          refine fork_intro (fun a0 a1 W => ∃ (g : Nat), a1 = (a0.put (some 24) (.slice Ap acc.length cp)).put (some 26) (.slice (some ⟨g, 0, none⟩) 1 1) ∧ Only [] w3 W ∧ Slc W 8 (.slice (some ⟨g, 0, none⟩) 1 1) 1 x.x.cells) ?_ ?_ ?_
          · show wpList _ _ _ [_] _ _
            go_wp2_with fail
            refine check_of (S := So5) (Only.refl So5 w3).drew ?_
            show wpList _ _ _ [_] _ _
            go_wp2_with fail
            exact check_of (S := So5) ((Only.refl So5 w3).drew.alloc _) ⟨w3.drew.heap.size, rfl, (Only.refl [] w3).drew.alloc _, slc_new1 (size := 8) (cs := x.x.cells) rfl⟩
          · show wpList _ _ _ [_] _ _
            go_wp2_with fail
            refine check_of (S := So5) ((Only.refl So5 w3).drew.alloc _) ?_
            show wpList _ _ _ [_] _ _
            go_wp2_with fail
            exact check_of (S := So5) ((Only.refl So5 w3).drew.alloc _) ⟨w3.drew.heap.size, rfl, (Only.refl [] w3).drew.alloc _, slc_new1 (size := 8) (cs := x.x.cells) rfl⟩
          · rintro _ Wg ⟨g, rfl, hWg, hs1⟩
            obtain ⟨A4, c4', w4, hr4, hown4, hO4, hf4⟩ := run_app (P := Tryz.prog) 28 28 w.heap.size 92 (.agg #[.int .i64 0, .string ⟨#[]⟩, .string ⟨#[]⟩, .float .f64 0, .string ⟨#[]⟩, .int .i64 0, .int .i64 0, .int .i64 0]) 8 88 Tryz.underlying28 infoSt rfl (by decide) (own_only hB3.own hWg (by simp)) hs1 (by simpa using stored_one [x.x]) (by omega) (by unfold maxLen; omega) (by have := hB3.below.size; have := hWg.size; omega)
            have hlx : (acc ++ [x.x]).length = acc.length + 1 := by simp
            have ho4 : w4.ownsRow w.heap.size 92 8 (.slice A4 (acc.length + 1) c4') (acc ++ [x.x]).length ((acc ++ [x.x]).flatMap StoredR.cells) := by
              rw [hlx]
              simpa using hown4
            have ho24 : Only So w3 w4 := (hWg.of_nil).trans (by rw [hSo]; exact hO4)
            have HR4 := Lib.hid hr4
            clear hr4 hown4 hs1
            show wpList _ _ _ [_] _ _
            refine Lib.wpList_append_run _ rfl (.tmp 24) (.tmp 26) 28 28 rfl _ _ rfl rfl _ _ HR4.out ?_
            refine wpList_nil ?_
            refine check_of (S := So5) (ho24.mono hSub) ?_
            refine gNext ?_
            show wpQuiet _ _ _ _ [_] _
            go_frame
            repeat (go_big_quiet_step (fail))
            refine wpQuiet_nil ?_
            show wpList _ _ _ [_] _ _
            go_wp2_with (go_at_call 115; refine (hKC.out _).mono ?_; rintro e w5 ⟨rfl, k5⟩)
            have ho25 : Only So w3 w5 := ho24.trans k5.of_nil
            refine check_of (S := So5) (ho25.mono hSub) ?_
            refine gNext ?_
            show wpQuiet _ _ _ _ [_, _] _
            repeat (go_big_quiet_step (fail))
            refine wpQuiet_nil ?_
            have P5 : ∀ i, w5.cell? ⟨w.heap.size + 1 + 1 + 1 + 1 + 1, i, none⟩ = #[Value.slice Ap acc.length cp, .int .i64 nx, .bool true][i]? := fun i => (ho25.blk hB3.b5 n5).cell i
            have F5 : ∀ i, w5.frozen? ⟨w.heap.size + 1 + 1 + 1 + 1 + 1, i, none⟩ = false := fun i => (ho25.blk hB3.b5 n5).free i
            show wpList _ _ _ [_] _ _
            go_wp2_with fail
            refine check_of (S := So5) ((ho25.mono hSub).setCell (.inl h55) _) ?_
            refine gEnd ?_
            show wpList _ _ _ [_, _] _ _
            go_wp2_with fail
            have koE : Only [w.heap.size + 1 + 1 + 1 + 1 + 1] w5 ((w5.setCell ⟨w.heap.size + 1 + 1 + 1 + 1 + 1, 0, none⟩ (.slice A4 (acc.length + 1) c4')).setCell ⟨w.heap.size + 1 + 1 + 1 + 1 + 1, 1, none⟩ (.int .i64 (max (StoredR.version x.x) 0 - 1))) := ((Only.refl _ _).setCell (.inl (by simp)) _).setCell (.inl (by simp)) _
            have kT : Only So5 w3 ((w5.setCell ⟨w.heap.size + 1 + 1 + 1 + 1 + 1, 0, none⟩ (.slice A4 (acc.length + 1) c4')).setCell ⟨w.heap.size + 1 + 1 + 1 + 1 + 1, 1, none⟩ (.int .i64 (max (StoredR.version x.x) 0 - 1))) := (ho25.mono hSub).trans (koE.mono (fun g hg => by rw [List.mem_singleton.1 hg]; exact h55))
            have hno : ∀ i, i < w.heap.size + 7 → i ≠ w.heap.size + 5 → i ∉ So5 := fun i h1 h2 q => by
              have := (hS5 i q).1
              omega
            obtain ⟨av, hb6⟩ := hB3.b6
            refine ⟨keepsOS (S := So5) (o3.of_nil.trans kT) (fun g hg => ?_), KeepT.only (S := So5) (o3.of_nil.trans kT) (fun i hi => ⟨by rcases hT3 i hi with q | q <;> omega, by rcases hT3 i hi with q | q; (exact hno i (by omega) (by omega)); (exact hno i (by omega) (by omega))⟩),
              .slice A4 (acc.length + 1) c4', acc ++ [x.x], max (StoredR.version x.x) 0 - 1, ⟨below_only hB3.below kT (fun g hg => by have := (hS5 g hg).1; omega), kT.blk hB3.b0 (hno _ (by omega) (by omega)), kT.blk hB3.b1 (hno _ (by omega) (by omega)), kT.blk hB3.b2 (hno _ (by omega) (by omega)), kT.blk hB3.b3 (hno _ (by omega) (by omega)), kT.blk hB3.b4 (hno _ (by omega) (by omega)), ((ho25.blk hB3.b5 n5).set 0 _).set 1 _, ⟨av, kT.blk hb6 (hno _ (by omega) (by omega))⟩, own_only (own_only ho4 k5 (by simp)) koE (fun g hg => ?_)⟩, by have := kT.size; omega, by simp; omega, hN⟩
            · rw [hSo5] at hg
              rcases List.mem_cons.1 hg with e | e
              · rw [e]
                exact ⟨_, _, HB.out.b5⟩
              · rw [hSo] at e
                obtain ⟨cur, hcur⟩ := own_type HB.out.own (g := g) (by simpa using e)
                exact ⟨_, _, hcur⟩
            · obtain ⟨cur, hcur⟩ := own_type ho4 hg
              simp only [List.mem_singleton]
              exact hcur.other (ho24.blk hB3.b5 n5) (by decide)
    case done =>
      rintro D ys W hD hys ⟨pv, acc, nx, hB, hz, ha, hRun⟩ hK3
      obtain ⟨Ap, cp, hpv, hap1, hap2⟩ := own_form hB.own
      subst hpv
      have hfin : R = ⟨acc, nx, true⟩ := by
        rw [HR.out, ← hys, ← List.append_nil (ys.map (·.x))]
        exact hRun.out []
      have P5 : ∀ i, W.cell? ⟨w.heap.size + 1 + 1 + 1 + 1 + 1, i, none⟩ = #[Value.slice Ap acc.length cp, .int .i64 nx, .bool true][i]? := fun i => hB.b5.cell i
      have P3 : ∀ i, W.cell? ⟨w.heap.size + 1 + 1 + 1, i, none⟩ = #[Value.slice none 0 0, .int .i64 0, .bool false][i]? := fun i => hB.b3.cell i
      have F3 : ∀ i, W.frozen? ⟨w.heap.size + 1 + 1 + 1, i, none⟩ = false := fun i => hB.b3.free i
      have P4 : ∀ i, W.cell? ⟨w.heap.size + 1 + 1 + 1 + 1, i, none⟩ = #[Value.int .i64 0][i]? := fun i => hB.b4.cell i
      have F4 : ∀ i, W.frozen? ⟨w.heap.size + 1 + 1 + 1 + 1, i, none⟩ = false := fun i => hB.b4.free i
      have HFin := Lib.hid hfin
      clear hfin hRun hys
      gi_wp2
      have koE : Only [w.heap.size + 1 + 1 + 1, w.heap.size + 1 + 1 + 1 + 1] W ((((W.setCell ⟨w.heap.size + 1 + 1 + 1, 0, none⟩ (.slice Ap acc.length cp)).setCell ⟨w.heap.size + 1 + 1 + 1, 1, none⟩ (.int .i64 nx)).setCell ⟨w.heap.size + 1 + 1 + 1, 2, none⟩ (.bool true)).setCell ⟨w.heap.size + 1 + 1 + 1 + 1, 0, none⟩ (.int .i64 0)) := by
        iterate 4 (refine Only.setCell ?_ (.inl (by simp)) _)
        exact Only.refl _ _
      have q2 := ((hB.b3.set 0 (.slice Ap acc.length cp)).set 1 (.int .i64 nx)).set 2 (.bool true)
      have he3 := ((Only.refl [w.heap.size + 1 + 1 + 1 + 1] _).setCell (p := ⟨w.heap.size + 1 + 1 + 1 + 1, 0, none⟩) (.inl (by simp)) (.int .i64 0)).blk q2 (by simp)
      have r1 : Only [w.heap.size + 1 + 1 + 1] W (((W.setCell ⟨w.heap.size + 1 + 1 + 1, 0, none⟩ (.slice Ap acc.length cp)).setCell ⟨w.heap.size + 1 + 1 + 1, 1, none⟩ (.int .i64 nx)).setCell ⟨w.heap.size + 1 + 1 + 1, 2, none⟩ (.bool true)) := by
        iterate 3 (refine Only.setCell ?_ (.inl (by simp)) _)
        exact Only.refl _ _
      have he4 := (r1.blk hB.b4 (by simp)).set 0 (.int .i64 0)
      have hoe := own_only hB.own koE (fun g hg => by
        have := (hB.nown g hg).1
        simp
        omega)
      have hbe := below_only hB.below koE (fun g hg => by simp at hg; omega)
      have hKe := (koE.block D (Array.getElem?_eq_some_iff.1 hK3).1 (by simp; omega)).trans hK3
      have kD : Only [D] ((((W.setCell ⟨w.heap.size + 1 + 1 + 1, 0, none⟩ (.slice Ap acc.length cp)).setCell ⟨w.heap.size + 1 + 1 + 1, 1, none⟩ (.int .i64 nx)).setCell ⟨w.heap.size + 1 + 1 + 1, 2, none⟩ (.bool true)).setCell ⟨w.heap.size + 1 + 1 + 1 + 1, 0, none⟩ (.int .i64 0)) ((((((W.setCell ⟨w.heap.size + 1 + 1 + 1, 0, none⟩ (.slice Ap acc.length cp)).setCell ⟨w.heap.size + 1 + 1 + 1, 1, none⟩ (.int .i64 nx)).setCell ⟨w.heap.size + 1 + 1 + 1, 2, none⟩ (.bool true)).setCell ⟨w.heap.size + 1 + 1 + 1 + 1, 0, none⟩ (.int .i64 0))).putObj D (.deferred none)) := only_grownBy (grownBy_putObj' _ D (.deferred none)) (fun r e => by cases e; simp)
      refine ⟨by simp, .inl ⟨_, _, rfl, run_takeDeferred hKe, ?_⟩⟩
      have c3 := fun i => (kD.blk he3 (by simp; omega)).cell i
      have c4 := fun i => (kD.blk he4 (by simp; omega)).cell i
      refine ⟨.tuple #[.agg #[.slice Ap acc.length cp, .int .i64 nx, .bool true], .int .i64 0], ?_, .slice Ap acc.length cp, by rw [HFin.out], ?_, Only.of_below (below_only hbe kD (fun g hg => by simp at hg; omega)) (Nat.le_refl _)⟩
      · simp [results, Tryz.f114, go_sem, c3, c4]
      · rw [HFin.out]
        exact own_only hoe kD (fun g hg => by
          obtain ⟨cur, hcur⟩ := own_type hoe hg
          intro q
          have e1 := List.mem_singleton.1 q
          rw [e1] at hcur
          rw [show (((((W.setCell ⟨w.heap.size + 1 + 1 + 1, 0, none⟩ (.slice Ap acc.length cp)).setCell ⟨w.heap.size + 1 + 1 + 1, 1, none⟩ (.int .i64 nx)).setCell ⟨w.heap.size + 1 + 1 + 1, 2, none⟩ (.bool true)).setCell ⟨w.heap.size + 1 + 1 + 1 + 1, 0, none⟩ (.int .i64 0))).heap[D]? = _ from hcur] at hKe
          cases hKe)
    case stop =>
      rintro D c pre W hD hpre ⟨rfl, pv, acc, nx, ⟨g3, g4, hown, hbel⟩, hRun⟩ hK3
      obtain ⟨Ap, cp, hpv, hap1, hap2⟩ := own_form hown
      subst hpv
      have hfin : R = ⟨acc, nx, false⟩ := by
        obtain ⟨rest, hr⟩ := hpre
        rw [HR.out, ← hr]
        exact hRun.out rest
      have HFin := Lib.hid hfin
      clear hfin hRun hpre
      gi_wp2
      have he3 := g3
      have he4 := g4
      have hoe := hown
      have hbe := hbel
      have hKe := hK3
      have kD : Only [D] W (W.putObj D (.deferred none)) := only_grownBy (grownBy_putObj' _ D (.deferred none)) (fun r e => by cases e; simp)
      refine ⟨by simp, .inl ⟨_, _, rfl, run_takeDeferred hKe, ?_⟩⟩
      have c3 := fun i => (kD.blk he3 (by simp; omega)).cell i
      have c4 := fun i => (kD.blk he4 (by simp; omega)).cell i
      refine ⟨.tuple #[.agg #[.slice Ap acc.length cp, .int .i64 nx, .bool false], .int .i64 0], ?_, .slice Ap acc.length cp, by rw [HFin.out], ?_, Only.of_below (below_only hbe kD (fun g hg => by simp at hg; omega)) (Nat.le_refl _)⟩
      · simp [results, Tryz.f114, go_sem, c3, c4]
      · rw [HFin.out]
        exact own_only hoe kD (fun g hg => by
          obtain ⟨cur, hcur⟩ := own_type hoe hg
          intro q
          have e1 := List.mem_singleton.1 q
          rw [e1] at hcur
          rw [show W.heap[D]? = _ from hcur] at hKe
          cases hKe)
end Go.Proofs.YteinoiicnmemhaaGreatDoor
/- Contracts: Read and All, backward. -/
set_option linter.unusedVariables false
set_option linter.unusedSimpArgs false
namespace Go.Proofs.YteinoiicnmemhaaGreatDoor
open Go.RowKit
theorem readOk_is (n : ByteArray) (f k : Int) : (nameOk n && decide (0 ≤ f) && decide (1 ≤ k) && decide (k ≤ 100)) = MS.readOk n f k := rfl
section
variable {w : World} {M : List Nat} {sb mb N : Nat} {av : Value} {pf : ByteArray → Value} {s : MS}
set_option maxRecDepth 100000 in
set_option maxHeartbeats 4000000 in
theorem readB_any (h : StAt w M sb mb av pf s) (hs : s.Ok N) (hN : N ≤ 100000) (n : ByteArray) (hn : n.size ≤ maxLen) (f k : Int) (hv : ∀ e ∈ s.seenL n, 0 ≤ e.version ∧ e.version ≤ 1000000000) :
    Calls Tryz.prog 80 #[.pointer (some ⟨sb, 0, none⟩), .string n, .int .i64 f, .int .i64 k, .bool true] w (PageRet w (s.readP n f k true)) := by
  obtain ⟨A, cap, hpv, hcm, hf⟩ := findv h n
  have HF := Lib.hid hf
  have HS := Lib.hid (fun W => stream_any n W hn)
  have hx := hs.xok n
  have hal := hs.all
  have hlb : (s.seenL n).length ≤ 1000000 := by
    unfold MS.seenL
    have := hx.few
    split
    · simp
    · simp; omega
  unfold maxLen at hcm
  have hfew := hx.few
  clear hf hpv hx
  cases hok : MS.readOk n f k with
  | false =>
    have hR : s.readP n f k true = (PageR.zero, 1) := by unfold MS.readP; rw [readOk_is, if_pos hok]
    rw [hR]
    clear hR
    cases hnm : nameOk n with
    | false =>
      rw [hnm] at HS
      clear hok hnm
      go_enter Tryz.func80, Tryz.ntmps80
      go_wp2_with (go_at_call 52; refine (HS.out _).mono ?_; rintro e w' ⟨rfl, rfl⟩)
      exact bodyPost_ret (v := .tuple #[.agg #[.slice none 0 0, .int .i64 0, .bool false], .int .i64 1]) (by simp [results, Tryz.results80, go_sem]) rfl ⟨_, rfl, World.ownsRow_nil _ _ _ _, (Only.refl [] w).alloc _⟩
    | true =>
      rw [hnm] at HS
      simp only [MS.readOk, hnm, Bool.true_and, Bool.and_eq_false_iff, decide_eq_false_iff_not] at hok
      clear hnm
      by_cases h1 : f < 0
      · clear hok
        go_enter Tryz.func80, Tryz.ntmps80
        go_wp2_with (go_at_call 52; refine (HS.out _).mono ?_; rintro e w' ⟨rfl, rfl⟩)
        exact bodyPost_ret (v := .tuple #[.agg #[.slice none 0 0, .int .i64 0, .bool false], .int .i64 1]) (by simp [results, Tryz.results80, go_sem]) rfl ⟨_, rfl, World.ownsRow_nil _ _ _ _, (Only.refl [] w).alloc _⟩
      · by_cases h2 : k < 1
        · clear hok
          go_enter Tryz.func80, Tryz.ntmps80
          go_wp2_with (go_at_call 52; refine (HS.out _).mono ?_; rintro e w' ⟨rfl, rfl⟩)
          exact bodyPost_ret (v := .tuple #[.agg #[.slice none 0 0, .int .i64 0, .bool false], .int .i64 1]) (by simp [results, Tryz.results80, go_sem]) rfl ⟨_, rfl, World.ownsRow_nil _ _ _ _, (Only.refl [] w).alloc _⟩
        · have h3 : k > 100 := by omega
          clear hok
          go_enter Tryz.func80, Tryz.ntmps80
          go_wp2_with (go_at_call 52; refine (HS.out _).mono ?_; rintro e w' ⟨rfl, rfl⟩)
          exact bodyPost_ret (v := .tuple #[.agg #[.slice none 0 0, .int .i64 0, .bool false], .int .i64 1]) (by simp [results, Tryz.results80, go_sem]) rfl ⟨_, rfl, World.ownsRow_nil _ _ _ _, (Only.refl [] w).alloc _⟩
  | true =>
    simp only [MS.readOk, Bool.and_eq_true, decide_eq_true_eq] at hok
    obtain ⟨⟨⟨hnm, h1⟩, h2⟩, h3⟩ := hok
    rw [hnm] at HS
    have hok : MS.readOk n f k = true := by simp [MS.readOk, hnm, h1, h2, h3]
    cases hd : (s.find n).deleted with
    | true =>
      have hR : s.readP n f k true = (PageR.zero, 23) := by unfold MS.readP; rw [readOk_is, if_neg (by rw [hok]; decide), if_pos hd]
      rw [hR]
      rw [hd] at HF
      clear hR hok hnm hd
      go_enter Tryz.func80, Tryz.ntmps80
      go_wp2_with (first
        | (go_at_call 52; refine (HS.out _).mono ?_; rintro e w' ⟨rfl, rfl⟩)
        | (go_at_call 21; refine (HF.out _ ((Only.refl _ _).alloc _)).mono ?_; rintro e w1 ⟨rfl, ho1⟩
           have hf1 := fun o i => (((Only.refl [] w1).alloc o).blk (ho1.blk (Blk.new w 57 _) (by simp)) (by simp)).free i
           have hc1 := fun o i => (((Only.refl [] w1).alloc o).blk (ho1.blk (Blk.new w 57 _) (by simp)) (by simp)).cell i))
      refine bodyPost_ret (v := .tuple #[.agg #[.slice none 0 0, .int .i64 0, .bool false], .int .i64 23]) (by simp [results, Tryz.results80, go_sem, hc1]) rfl ⟨_, rfl, World.ownsRow_nil _ _ _ _, ?hw⟩
      case hw =>
        iterate 3 (refine Only.setCell ?_ (.inr (Nat.le_refl _)) _)
        exact (((Only.refl [] w).alloc _).trans ho1).alloc _
    | false =>
      rw [hd] at HF
      by_cases h0 : (s.find n).places.length = 0
      · have hR : s.readP n f k true = (PageR.zero, 8) := by unfold MS.readP; rw [readOk_is, if_neg (by rw [hok]; decide), if_neg (by rw [hd]; decide), if_pos h0]
        rw [hR]
        rw [h0] at HF
        clear hR hok hnm hd h0
        go_enter Tryz.func80, Tryz.ntmps80
        go_wp2_with (first
          | (go_at_call 52; refine (HS.out _).mono ?_; rintro e w' ⟨rfl, rfl⟩)
          | (go_at_call 21; refine (HF.out _ ((Only.refl _ _).alloc _)).mono ?_; rintro e w1 ⟨rfl, ho1⟩
             have hf1 := fun o i => (((Only.refl [] w1).alloc o).blk (ho1.blk (Blk.new w 57 _) (by simp)) (by simp)).free i
             have hc1 := fun o i => (((Only.refl [] w1).alloc o).blk (ho1.blk (Blk.new w 57 _) (by simp)) (by simp)).cell i))
        refine bodyPost_ret (v := .tuple #[.agg #[.slice none 0 0, .int .i64 0, .bool false], .int .i64 8]) (by simp [results, Tryz.results80, go_sem, hc1]) rfl ⟨_, rfl, World.ownsRow_nil _ _ _ _, ?hw⟩
        case hw =>
          iterate 3 (refine Only.setCell ?_ (.inr (Nat.le_refl _)) _)
          exact (((Only.refl [] w).alloc _).trans ho1).alloc _
      · have hR : s.readP n f k true = pageBy StoredR.version (s.seenL n) f k true := by unfold MS.readP; rw [readOk_is, if_neg (by rw [hok]; decide), if_neg (by rw [hd]; decide), if_neg h0]
        rw [hR]
        have h0b : (((s.find n).places.length : Int) == 0) = false := by rw [beq_eq_false_iff_ne]; omega
        have HSn := Lib.hid (fun (W : World) (hw : Only [] w W) => seenL_any (h.only0 hw) hs hN n)
        have HFw := Lib.hid (fun (W : World) (v : Value) (hl : Slc W 8 v (s.seenL n).length ((s.seenL n).flatMap StoredR.cells)) => backwardV_any (f := f) (n := k) hl hlb hv)
        obtain ⟨r, hr⟩ : ∃ r, r = pageBy StoredR.version (s.seenL n) f k true := ⟨_, rfl⟩
        rw [← hr] at HFw ⊢
        obtain ⟨⟨revs, rnx, rend⟩, rerr⟩ := r
        clear hR hok hnm hd h0 hlb hv hr
        go_enter Tryz.func80, Tryz.ntmps80
        go_wp2_with (first
          | (go_at_call 52; refine (HS.out _).mono ?_; rintro e w' ⟨rfl, rfl⟩)
          | (go_at_call 21; refine (HF.out _ ((Only.refl _ _).alloc _)).mono ?_; rintro e w1 ⟨rfl, ho1⟩)
          | (go_at_call 116; refine (HSn.out _ ((((Only.refl _ _).alloc _).trans ho1).alloc _)).mono ?_; rintro e w2 ⟨v2, rfl, hown2, ho2⟩)
          | (go_at_call 114; refine (HFw.out _ _ (Slc.of_own hown2).1).mono ?_; rintro e w3 ⟨v3, rfl, hown3, ho3⟩; obtain ⟨A3, cap3, rfl, _, _⟩ := own_form hown3
             have hp := ho3.blk (ho2.blk (((Only.refl [] w1).alloc _).blk (ho1.blk (Blk.new w 57 _) (by simp)) (by simp)) (by simp)) (by simp)
             have hpc := fun i => hp.cell i
             have hpf := fun i => hp.free i))
        have hsz : w.heap.size < w2.heap.size := by have q1 := ho1.size; have q2 := ho2.size; simp at q1 q2; omega
        refine bodyPost_ret (v := .tuple #[.agg #[.slice A3 revs.length cap3, .int .i64 rnx, .bool rend], .int .i64 rerr]) (by simp [results, Tryz.results80, go_sem, hpc]) rfl ⟨_, rfl, ?own, ?hw⟩
        case own =>
          refine own_only (own_base hown3 (by omega)) (S := [w.heap.size]) ?_ (fun g hg => by have := (hown3.lt g hg).1; simp; omega)
          iterate 3 (refine Only.setCell ?_ (.inl (by simp)) _)
          exact Only.refl _ _
        case hw =>
          iterate 3 (refine Only.setCell ?_ (.inr (Nat.le_refl _)) _)
          exact (((((Only.refl [] w).alloc _).trans ho1).alloc _).trans ho2).trans ho3
end
set_option maxRecDepth 100000 in
set_option maxHeartbeats 1000000 in
theorem backward_any {w : World} {v : Value} {l : List StoredR} {f n : Int} (hl : Slc w 8 v l.length (l.flatMap StoredR.cells)) (hb : l.length ≤ 1000000) (hk : ∀ s ∈ l, 0 ≤ s.position ∧ s.position ≤ 1000000000) :
    Calls Tryz.prog 112 #[v, .int .i64 f, .int .i64 n] w (PageRet w (pageBy StoredR.position l f n true)) := by
  have HFw := Lib.hid (fun (W : World) (hW : Only [] w W) => backwardP_any (f := f) (n := n) (hl.only0 hW) hb hk)
  obtain ⟨r, hr⟩ : ∃ r, r = pageBy StoredR.position l f n true := ⟨_, rfl⟩
  rw [← hr] at HFw ⊢
  obtain ⟨⟨revs, rnx, rend⟩, rerr⟩ := r
  clear hr hl hk
  go_enter Tryz.func112, Tryz.ntmps112
  go_wp2_with (go_at_call 114; refine (HFw.out _ ((Only.refl _ _).alloc _)).mono ?_; rintro e w3 ⟨v3, rfl, hown3, ho3⟩; obtain ⟨A3, cap3, rfl, _, _⟩ := own_form hown3
               have hp := ho3.blk (Blk.new w 57 _) (by simp)
               have hpc := fun i => hp.cell i
               have hpf := fun i => hp.free i)
  have hsz : w.heap.size < w3.heap.size := by have q1 := ho3.size; simp at q1; omega
  refine bodyPost_ret (v := .tuple #[.agg #[.slice A3 revs.length cap3, .int .i64 rnx, .bool rend], .int .i64 rerr]) (by simp [results, Tryz.results112, go_sem, hpc]) rfl ⟨_, rfl, ?own, ?hw⟩
  case own =>
    refine own_only (own_base hown3 (by simp)) (S := [w.heap.size]) ?_ (fun g hg => by have := (hown3.lt g hg).1; simp at this ⊢; omega)
    iterate 3 (refine Only.setCell ?_ (.inl (by simp)) _)
    exact Only.refl _ _
  case hw =>
    iterate 3 (refine Only.setCell ?_ (.inr (Nat.le_refl _)) _)
    exact ((Only.refl [] w).alloc _).trans ho3
section
variable {a w : World} {R E : List Nat} {sb mb N : Nat} {s : MS}
set_option maxRecDepth 100000 in
set_option maxHeartbeats 2000000 in
theorem has_allB (h : HasS a w R E sb mb s N) (hN : N ≤ 100000) (f n : Int) :
    Calls Tryz.prog 79 #[.pointer (some ⟨sb, 0, none⟩), .int .i64 f, .int .i64 n, .bool true] w (PageRet w (pageBy StoredR.position s.seenAll f n true)) := by
  have hlen : s.all.length ≤ 1000000 := by have := h.ok.all; omega
  have hsl : s.seenAll.length ≤ 1000000 := by
    have : s.seenAll.length ≤ s.all.length := List.length_filter_le _ _
    omega
  have hfil : s.all.filter (fun x => !(!s.seenAt x.position)) = s.seenAll := by
    unfold MS.seenAll
    congr 1
    funext x
    simp
  have hpos : ∀ e ∈ s.seenAll, 0 ≤ e.position ∧ e.position ≤ 1000000000 := fun e he => by
    obtain ⟨i, hi, rfl⟩ := List.mem_iff_getElem.1 (List.mem_filter.1 he).1
    rw [h.inv.pos i hi]
    omega
  obtain ⟨W0, hW0⟩ : ∃ W0, W0 = (w.alloc (.cells #[.pointer (some ⟨sb, 0, none⟩)] 25)).alloc (.cells #[.slice none 0 0, .int .i64 0, .bool false] 57) := ⟨_, rfl⟩
  have hO0 : Only [] w W0 := by rw [hW0]; exact ((Only.refl [] w).alloc _).alloc _
  have hb1 : Blk W0 w.heap.size 25 #[.pointer (some ⟨sb, 0, none⟩)] := by rw [hW0]; exact ((Only.refl [] _).alloc _).blk (Blk.new w _ _) (by simp)
  have hb2 : Blk W0 (w.heap.size + 1) 57 #[.slice none 0 0, .int .i64 0, .bool false] := by
    rw [hW0]
    have := Blk.new (w.alloc (.cells #[.pointer (some ⟨sb, 0, none⟩)] 25)) 57 #[.slice none 0 0, .int .i64 0, .bool false]
    simpa using this
  have hsz0 : W0.heap.size = w.heap.size + 2 := by rw [hW0]; simp
  have hc0 := hb1.cell 0
  have h0 := h.keep hO0
  have HE := Lib.hid (has_every h0 hN)
  have HFo := Lib.hid (fun (W : World) (v : Value) (hl : Slc W 8 v s.seenAll.length (s.seenAll.flatMap StoredR.cells)) => backward_any (f := f) (n := n) hl hsl hpos)
  obtain ⟨r, hr⟩ : ∃ r, r = pageBy StoredR.position s.seenAll f n true := ⟨_, rfl⟩
  rw [← hr] at HFo ⊢
  obtain ⟨⟨revs, rnx, rend⟩, rerr⟩ := r
  clear hr hpos
  have HW := Lib.hid hW0
  clear hW0
  go_enter Tryz.func79, Tryz.ntmps79
  go_wp2_with fail
  rw [← HW.out]
  refine HE.out.mono ?_
  rintro e w1 ⟨v1, rfl, hown1, ho1⟩
  have h1 := h0.ownR ho1 hown1
  have hlt1 := hown1.lt
  obtain ⟨V1, hV1⟩ : ∃ V1, V1 = v1.ownBlock.toList := ⟨_, rfl⟩
  have hge : ∀ g ∈ V1, W0.heap.size ≤ g := fun g hg => (hlt1 g (by rw [hV1] at hg; simpa using hg)).1
  have n1 : w.heap.size ∉ V1 := fun q => by have := hge _ q; omega
  have n2 : w.heap.size + 1 ∉ V1 := fun q => by have := hge _ q; omega
  have hJ : Judges V1 w1 (.pointer (some ⟨w.heap.size, 0, none⟩)) (fun x => !s.seenAt x.position) := fun W hW x =>
    all1_any (h1.turn hW (fun g hg => by rw [hV1] at hg; simp at hg ⊢; exact .inl hg)) hN (hW.blk (ho1.blk hb1 (by simp)) n1) x
  rw [hV1] at hJ
  have hD := deleteSt_any hown1 hlen hJ
  rw [hfil, ← hV1] at hD
  have HD := Lib.hid hD
  have hb3 := ho1.blk hb2 (by simp)
  clear hD hJ h1 HE h0 hc0 hb1 hlt1 hown1
  go_wp2_with fail
  refine HD.out.mono ?_
  rintro e w2 ⟨v2, rfl, hown2, ho2⟩
  have hb4 := ho2.blk hb3 n2
  have hs2 := (Slc.of_own hown2).1
  have HF2 := Lib.hid (HFo.out w2 v2 hs2)
  clear hs2
  go_wp2_with (go_at_call 112; refine HF2.out.mono ?_; rintro e w3 ⟨v3, rfl, hown3, ho3⟩; obtain ⟨A3, cap3, rfl, _, _⟩ := own_form hown3
               have hp := ho3.blk hb4 (by simp)
               have hpc := fun i => hp.cell i
               have hpf := fun i => hp.free i)
  have z1 := ho1.size
  have z2 := ho2.size
  refine bodyPost_ret (v := .tuple #[.agg #[.slice A3 revs.length cap3, .int .i64 rnx, .bool rend], .int .i64 rerr]) (by simp [results, Tryz.results79, go_sem, hpc]) rfl ⟨_, rfl, ?own, ?hw⟩
  case own =>
    refine own_only (own_base hown3 (by omega)) (S := [w.heap.size + 1]) ?_ (fun g hg => by have := (hown3.lt g hg).1; simp; omega)
    iterate 3 (refine Only.setCell ?_ (.inl (by simp)) _)
    exact Only.refl _ _
  case hw =>
    iterate 3 (refine Only.setCell ?_ (.inr (by simp)) _)
    exact ((hO0.trans ho1).step ho2 (fun g hg => .inr (by have := hge g hg; omega))).trans ho3
end
end Go.Proofs.YteinoiicnmemhaaGreatDoor
/- Contracts of library functions at this dump, laid by the kit's tools in plain words: each is one application of a theorem of the kit's shelf. -/
namespace Go.Proofs
open Go.Shelf
def Tryz.keys36_ren : Go.Shelf.Ren := ⟨fun | 7 => 36 | 10 => 75 | n => n, fun | 23 => 70 | 26 => 9 | 3 => 75 | 28 => 100 | 0 => 0 | 27 => 99 | 33 => 103 | 4 => 4 | n => n, fun | n => n⟩
theorem Tryz.keys36 : Go.Proofs.SlLaysZ.n7 Tryz.prog Tryz.keys36_ren := {
  mixed := by kernel_rfl
  f7 := ⟨Tryz.f36.name, by decide, Tryz.func36.trans (congrArg some (by kernel_rfl))⟩
  f10 := ⟨Tryz.f75.name, by decide, Tryz.func75.trans (congrArg some (by kernel_rfl))⟩
  t0 := Tryz.underlying0
  a0 := Tryz.isAgg0
  z0 := Tryz.sizeOf0
  v0 := Tryz.zeroValue0
  t4 := Tryz.underlying4
  a4 := Tryz.isAgg4
  z4 := Tryz.sizeOf4
  v4 := Tryz.zeroValue4
  t23 := Tryz.underlying70
  a23 := Tryz.isAgg70
  z23 := Tryz.sizeOf70
  v23 := Tryz.zeroValue70
  t26 := Tryz.underlying9
  a26 := Tryz.isAgg9
  z26 := Tryz.sizeOf9
  v26 := Tryz.zeroValue9
  t27 := Tryz.underlying99
  a27 := Tryz.isAgg99
  z27 := Tryz.sizeOf99
  v27 := Tryz.zeroValue99
  t28 := Tryz.underlying100
  a28 := Tryz.isAgg100
  z28 := Tryz.sizeOf100
  v28 := Tryz.zeroValue100
  t33 := Tryz.underlying103
  a33 := Tryz.isAgg103
  z33 := Tryz.sizeOf103
  v33 := Tryz.zeroValue103 }
def Tryz.sorted203_ren : Go.Shelf.Ren := ⟨fun | 6 => 203 | 8 => 35 | 9 => 224 | 11 => 74 | 13 => 234 | 12 => 233 | 23 => 248 | 24 => 249 | 14 => 239 | 15 => 240 | 16 => 241 | 17 => 242 | 18 => 243 | 19 => 244 | 20 => 245 | 21 => 246 | 22 => 247 | 25 => 254 | 26 => 255 | 27 => 256 | 28 => 257 | 29 => 258 | 30 => 259 | 31 => 264 | n => n, fun | 26 => 9 | 28 => 100 | 24 => 96 | 0 => 0 | 3 => 3 | 37 => 263 | 48 => 296 | 50 => 139 | 4 => 4 | 40 => 310 | 39 => 309 | 45 => 204 | 5 => 5 | 9 => 9 | 51 => 321 | 55 => 324 | 57 => 329 | 58 => 237 | 33 => 103 | n => n, fun | n => n⟩
theorem Tryz.sorted203 : Go.Proofs.SlLaysZ.n6 Tryz.prog Tryz.sorted203_ren := {
  mixed := by kernel_rfl
  f6 := ⟨Tryz.f203.name, by decide, Tryz.func203.trans (congrArg some (by kernel_rfl))⟩
  f8 := ⟨Tryz.f35.name, by decide, Tryz.func35.trans (congrArg some (by kernel_rfl))⟩
  f11 := ⟨Tryz.f74.name, by decide, Tryz.func74.trans (congrArg some (by kernel_rfl))⟩
  t0 := Tryz.underlying0
  a0 := Tryz.isAgg0
  z0 := Tryz.sizeOf0
  v0 := Tryz.zeroValue0
  t24 := Tryz.underlying96
  a24 := Tryz.isAgg96
  z24 := Tryz.sizeOf96
  v24 := Tryz.zeroValue96
  t26 := Tryz.underlying9
  a26 := Tryz.isAgg9
  z26 := Tryz.sizeOf9
  v26 := Tryz.zeroValue9
  t28 := Tryz.underlying100
  a28 := Tryz.isAgg100
  z28 := Tryz.sizeOf100
  v28 := Tryz.zeroValue100
  i26 := by kernel_rfl }
def Tryz.sort224_ren : Go.Shelf.Ren := ⟨fun | 6 => 224 | 8 => 234 | 9 => 233 | 19 => 248 | 20 => 249 | 21 => 239 | 22 => 240 | 23 => 241 | 24 => 242 | 25 => 243 | 26 => 244 | 27 => 245 | 28 => 246 | 29 => 247 | 36 => 254 | 31 => 255 | 32 => 256 | 37 => 257 | 38 => 258 | 39 => 259 | 41 => 264 | n => n, fun | 27 => 96 | 29 => 9 | 3 => 3 | 32 => 263 | 26 => 96 | 0 => 0 | 44 => 296 | 46 => 139 | 4 => 4 | 36 => 310 | 35 => 309 | 41 => 204 | 5 => 5 | 9 => 9 | 53 => 321 | 57 => 324 | 63 => 329 | 64 => 237 | n => n, fun | n => n⟩
theorem Tryz.sort224 : Go.Proofs.SlLaysM.n6 Tryz.prog Tryz.sort224_ren := {
  mixed := by kernel_rfl
  f6 := ⟨Tryz.f224.name, by decide, Tryz.func224.trans (congrArg some (by kernel_rfl))⟩
  f8 := Tryz.func234.trans (congrArg some (by kernel_rfl))
  f9 := ⟨Tryz.f233.name, by decide, Tryz.func233.trans (congrArg some (by kernel_rfl))⟩
  f19 := Tryz.func248.trans (congrArg some (by kernel_rfl))
  f20 := Tryz.func249.trans (congrArg some (by kernel_rfl))
  f21 := ⟨Tryz.f239.name, by decide, Tryz.func239.trans (congrArg some (by kernel_rfl))⟩
  f22 := ⟨Tryz.f240.name, by decide, Tryz.func240.trans (congrArg some (by kernel_rfl))⟩
  f23 := ⟨Tryz.f241.name, by decide, Tryz.func241.trans (congrArg some (by kernel_rfl))⟩
  f24 := ⟨Tryz.f242.name, by decide, Tryz.func242.trans (congrArg some (by kernel_rfl))⟩
  f25 := ⟨Tryz.f243.name, by decide, Tryz.func243.trans (congrArg some (by kernel_rfl))⟩
  f26 := ⟨Tryz.f244.name, by decide, Tryz.func244.trans (congrArg some (by kernel_rfl))⟩
  f27 := ⟨Tryz.f245.name, by decide, Tryz.func245.trans (congrArg some (by kernel_rfl))⟩
  f28 := ⟨Tryz.f246.name, by decide, Tryz.func246.trans (congrArg some (by kernel_rfl))⟩
  f29 := ⟨Tryz.f247.name, by decide, Tryz.func247.trans (congrArg some (by kernel_rfl))⟩
  f31 := Tryz.func255.trans (congrArg some (by kernel_rfl))
  f32 := Tryz.func256.trans (congrArg some (by kernel_rfl))
  f36 := ⟨Tryz.f254.name, by decide, Tryz.func254.trans (congrArg some (by kernel_rfl))⟩
  f37 := ⟨Tryz.f257.name, by decide, Tryz.func257.trans (congrArg some (by kernel_rfl))⟩
  f38 := ⟨Tryz.f258.name, by decide, Tryz.func258.trans (congrArg some (by kernel_rfl))⟩
  f39 := ⟨Tryz.f259.name, by decide, Tryz.func259.trans (congrArg some (by kernel_rfl))⟩
  f41 := ⟨Tryz.f264.name, by decide, Tryz.func264.trans (congrArg some (by kernel_rfl))⟩
  t0 := Tryz.underlying0
  a0 := Tryz.isAgg0
  z0 := Tryz.sizeOf0
  v0 := Tryz.zeroValue0
  t3 := Tryz.underlying3
  a3 := Tryz.isAgg3
  z3 := Tryz.sizeOf3
  v3 := Tryz.zeroValue3
  t4 := Tryz.underlying4
  a4 := Tryz.isAgg4
  z4 := Tryz.sizeOf4
  v4 := Tryz.zeroValue4
  t5 := Tryz.underlying5
  a5 := Tryz.isAgg5
  z5 := Tryz.sizeOf5
  v5 := Tryz.zeroValue5
  t9 := Tryz.underlying9
  a9 := Tryz.isAgg9
  z9 := Tryz.sizeOf9
  v9 := Tryz.zeroValue9
  t26 := Tryz.underlying96
  a26 := Tryz.isAgg96
  z26 := Tryz.sizeOf96
  v26 := Tryz.zeroValue96
  t27 := Tryz.underlying96
  a27 := Tryz.isAgg96
  z27 := Tryz.sizeOf96
  v27 := Tryz.zeroValue96
  t29 := Tryz.underlying9
  a29 := Tryz.isAgg9
  z29 := Tryz.sizeOf9
  v29 := Tryz.zeroValue9
  t32 := Tryz.underlying263
  a32 := Tryz.isAgg263
  z32 := Tryz.sizeOf263
  v32 := Tryz.zeroValue263
  t35 := Tryz.underlying309
  a35 := Tryz.isAgg309
  z35 := Tryz.sizeOf309
  v35 := Tryz.zeroValue309
  t36 := Tryz.underlying310
  a36 := Tryz.isAgg310
  z36 := Tryz.sizeOf310
  v36 := Tryz.zeroValue310
  t41 := Tryz.underlying204
  a41 := Tryz.isAgg204
  z41 := Tryz.sizeOf204
  v41 := Tryz.zeroValue204
  t44 := Tryz.underlying296
  a44 := Tryz.isAgg296
  z44 := Tryz.sizeOf296
  v44 := Tryz.zeroValue296
  t46 := Tryz.underlying139
  a46 := Tryz.isAgg139
  z46 := Tryz.sizeOf139
  v46 := Tryz.zeroValue139
  t53 := Tryz.underlying321
  a53 := Tryz.isAgg321
  z53 := Tryz.sizeOf321
  v53 := Tryz.zeroValue321
  t57 := Tryz.underlying324
  a57 := Tryz.isAgg324
  z57 := Tryz.sizeOf324
  v57 := Tryz.zeroValue324
  t63 := Tryz.underlying329
  a63 := Tryz.isAgg329
  z63 := Tryz.sizeOf329
  v63 := Tryz.zeroValue329
  t64 := Tryz.underlying237
  a64 := Tryz.isAgg237
  z64 := Tryz.sizeOf237
  v64 := Tryz.zeroValue237 }
def Tryz.keys204_ren : Go.Shelf.Ren := ⟨fun | 7 => 204 | 10 => 225 | n => n, fun | 23 => 166 | 26 => 9 | 3 => 225 | 28 => 100 | 0 => 0 | 27 => 99 | 33 => 103 | 4 => 4 | n => n, fun | n => n⟩
theorem Tryz.keys204 : Go.Proofs.SlLaysZ.n7 Tryz.prog Tryz.keys204_ren := {
  mixed := by kernel_rfl
  f7 := ⟨Tryz.f204.name, by decide, Tryz.func204.trans (congrArg some (by kernel_rfl))⟩
  f10 := ⟨Tryz.f225.name, by decide, Tryz.func225.trans (congrArg some (by kernel_rfl))⟩
  t0 := Tryz.underlying0
  a0 := Tryz.isAgg0
  z0 := Tryz.sizeOf0
  v0 := Tryz.zeroValue0
  t4 := Tryz.underlying4
  a4 := Tryz.isAgg4
  z4 := Tryz.sizeOf4
  v4 := Tryz.zeroValue4
  t23 := Tryz.underlying166
  a23 := Tryz.isAgg166
  z23 := Tryz.sizeOf166
  v23 := Tryz.zeroValue166
  t26 := Tryz.underlying9
  a26 := Tryz.isAgg9
  z26 := Tryz.sizeOf9
  v26 := Tryz.zeroValue9
  t27 := Tryz.underlying99
  a27 := Tryz.isAgg99
  z27 := Tryz.sizeOf99
  v27 := Tryz.zeroValue99
  t28 := Tryz.underlying100
  a28 := Tryz.isAgg100
  z28 := Tryz.sizeOf100
  v28 := Tryz.zeroValue100
  t33 := Tryz.underlying103
  a33 := Tryz.isAgg103
  z33 := Tryz.sizeOf103
  v33 := Tryz.zeroValue103 }
def Tryz.cloneM_ren : Go.Shelf.Ren := ⟨fun | 5 => 122 | 7 => 147 | n => n, fun | 23 => 70 | 25 => 9 | 3 => 75 | 4 => 4 | 20 => 20 | n => n, fun | n => n⟩
theorem Tryz.cloneM : Go.Proofs.SlLaysW.n5 Tryz.prog Tryz.cloneM_ren := {
  mixed := by kernel_rfl
  f5 := ⟨Tryz.f122.name, by decide, Tryz.func122.trans (congrArg some (by kernel_rfl))⟩
  f7 := Tryz.func147.trans (congrArg some (by kernel_rfl))
  t4 := Tryz.underlying4
  a4 := Tryz.isAgg4
  z4 := Tryz.sizeOf4
  v4 := Tryz.zeroValue4
  t20 := Tryz.underlying20
  a20 := Tryz.isAgg20
  z20 := Tryz.sizeOf20
  v20 := Tryz.zeroValue20
  t23 := Tryz.underlying70
  a23 := Tryz.isAgg70
  z23 := Tryz.sizeOf70
  v23 := Tryz.zeroValue70 }
def Tryz.collectK_ren : Go.Shelf.Ren := ⟨fun | 8 => 35 | 11 => 74 | n => n, fun | 26 => 9 | 28 => 100 | 24 => 96 | 0 => 0 | 33 => 103 | 4 => 4 | n => n, fun | n => n⟩
theorem Tryz.collectK : Go.Proofs.SlLaysZ.n8 Tryz.prog Tryz.collectK_ren := {
  mixed := by kernel_rfl
  f8 := ⟨Tryz.f35.name, by decide, Tryz.func35.trans (congrArg some (by kernel_rfl))⟩
  f11 := ⟨Tryz.f74.name, by decide, Tryz.func74.trans (congrArg some (by kernel_rfl))⟩
  t0 := Tryz.underlying0
  a0 := Tryz.isAgg0
  z0 := Tryz.sizeOf0
  v0 := Tryz.zeroValue0
  t24 := Tryz.underlying96
  a24 := Tryz.isAgg96
  z24 := Tryz.sizeOf96
  v24 := Tryz.zeroValue96
  t26 := Tryz.underlying9
  a26 := Tryz.isAgg9
  z26 := Tryz.sizeOf9
  v26 := Tryz.zeroValue9
  t28 := Tryz.underlying100
  a28 := Tryz.isAgg100
  z28 := Tryz.sizeOf100
  v28 := Tryz.zeroValue100
  i26 := by kernel_rfl }
def Tryz.delFunc_ren : Go.Shelf.Ren := ⟨fun | 10 => 179 | 6 => 202 | n => n, fun | 22 => 96 | 23 => 9 | 25 => 103 | 3 => 3 | 4 => 4 | 0 => 0 | n => n, fun | n => n⟩
theorem Tryz.delFunc : Go.Proofs.SlLaysH.n10 Tryz.prog Tryz.delFunc_ren := {
  mixed := by kernel_rfl
  f6 := ⟨Tryz.f202.name, by decide, Tryz.func202.trans (congrArg some (by kernel_rfl))⟩
  f10 := ⟨Tryz.f179.name, by decide, Tryz.func179.trans (congrArg some (by kernel_rfl))⟩
  t0 := Tryz.underlying0
  a0 := Tryz.isAgg0
  z0 := Tryz.sizeOf0
  v0 := Tryz.zeroValue0
  t3 := Tryz.underlying3
  a3 := Tryz.isAgg3
  z3 := Tryz.sizeOf3
  v3 := Tryz.zeroValue3
  t4 := Tryz.underlying4
  a4 := Tryz.isAgg4
  z4 := Tryz.sizeOf4
  v4 := Tryz.zeroValue4
  t22 := Tryz.underlying96
  a22 := Tryz.isAgg96
  z22 := Tryz.sizeOf96
  v22 := Tryz.zeroValue96
  a23 := Tryz.isAgg9
  z23 := Tryz.sizeOf9
  t25 := Tryz.underlying103
  a25 := Tryz.isAgg103
  z25 := Tryz.sizeOf103
  v25 := Tryz.zeroValue103 }
open Go.RowKit in
open Go.RowKit in
open Go.RowKit in
open Go.RowKit in
open Go.RowKit in
open Go.RowKit in
open Go.RowKit in
def Tryz.lays103_ren : Go.Shelf.Ren := ⟨fun | 103 => 183 | 210 => 206 | 206 => 205 | n => n, fun | 9 => 9 | 4 => 4 | 24 => 256 | 3 => 3 | n => n, fun | n => n⟩
theorem Tryz.lays103 : Go.Proofs.Lays.n103 Tryz.prog Tryz.lays103_ren := {
  mixed := by kernel_rfl
  f103 := Tryz.func183.trans (congrArg some (by kernel_rfl))
  f206 := Tryz.func205.trans (congrArg some (by kernel_rfl))
  f210 := Tryz.func206.trans (congrArg some (by kernel_rfl))
  t3 := Tryz.underlying3
  a3 := Tryz.isAgg3
  z3 := Tryz.sizeOf3
  v3 := Tryz.zeroValue3
  t4 := Tryz.underlying4
  a4 := Tryz.isAgg4
  z4 := Tryz.sizeOf4
  v4 := Tryz.zeroValue4
  t9 := Tryz.underlying9
  a9 := Tryz.isAgg9
  z9 := Tryz.sizeOf9
  v9 := Tryz.zeroValue9
  t24 := Tryz.underlying256
  a24 := Tryz.isAgg256
  z24 := Tryz.sizeOf256
  v24 := Tryz.zeroValue256 }
open Go.RowKit in
theorem Tryz.strings_CutPrefix (s p : ByteArray) (w : World) :
    Calls Tryz.prog 183 #[.string s, .string p] w fun e w' => e = .returned (.tuple #[.string ⟨(Lib.trimPrefix s.data.toList p.data.toList).toArray⟩, .bool (Lib.hasPrefix s.data.toList p.data.toList)]) ∧ w' = w := Any.strings_CutPrefix Tryz.lays103 s p w
open Go.RowKit in
open Go.RowKit in
open Go.RowKit in
open Go.RowKit in
open Go.RowKit in
open Go.RowKit in
open Go.RowKit in
open Go.RowKit in
open Go.RowKit in
open Go.Lib in
open Go.Lib in
open Go.Lib in
open Go.Lib in
open Go.RowKit Go.Sort Go.Lib in
open Go.RowKit Go.Sort Go.Lib in
open Go.RowKit Go.Sort Go.Lib in
open Go.RowKit Go.Sort Go.Lib in
open Go.RowKit Go.Sort Go.Lib in
def Tryz.laysM171_ren : Go.Shelf.Ren := ⟨fun | 171 => 207 | 243 => 226 | 246 => 235 | 283 => 250 | 284 => 251 | 285 => 252 | 286 => 253 | 129 => 249 | 317 => 260 | 318 => 261 | 319 => 262 | 320 => 263 | 337 => 265 | 338 => 266 | n => n, fun | 3 => 3 | 9 => 9 | 2 => 2 | 4 => 4 | 171 => 317 | 0 => 0 | 53 => 139 | 37 => 251 | 5 => 5 | 173 => 319 | 212 => 327 | 51 => 296 | 20 => 20 | 213 => 328 | 46 => 263 | 232 => 331 | 233 => 332 | n => n, fun | 17 => 2 | 18 => 3 | 19 => 4 | n => n⟩
theorem Tryz.laysM171 : Go.Proofs.LaysM.n171 Tryz.prog Tryz.laysM171_ren := {
  mixed := by kernel_rfl
  f129 := Tryz.func249.trans (congrArg some (by kernel_rfl))
  f171 := Tryz.func207.trans (congrArg some (by kernel_rfl))
  f243 := Tryz.func226.trans (congrArg some (by kernel_rfl))
  f246 := Tryz.func235.trans (congrArg some (by kernel_rfl))
  f283 := Tryz.func250.trans (congrArg some (by kernel_rfl))
  f284 := Tryz.func251.trans (congrArg some (by kernel_rfl))
  f285 := Tryz.func252.trans (congrArg some (by kernel_rfl))
  f286 := Tryz.func253.trans (congrArg some (by kernel_rfl))
  f317 := Tryz.func260.trans (congrArg some (by kernel_rfl))
  f318 := Tryz.func261.trans (congrArg some (by kernel_rfl))
  f319 := Tryz.func262.trans (congrArg some (by kernel_rfl))
  f320 := Tryz.func263.trans (congrArg some (by kernel_rfl))
  f337 := Tryz.func265.trans (congrArg some (by kernel_rfl))
  f338 := Tryz.func266.trans (congrArg some (by kernel_rfl))
  t0 := Tryz.underlying0
  a0 := Tryz.isAgg0
  z0 := Tryz.sizeOf0
  v0 := Tryz.zeroValue0
  t2 := Tryz.underlying2
  a2 := Tryz.isAgg2
  z2 := Tryz.sizeOf2
  v2 := Tryz.zeroValue2
  t3 := Tryz.underlying3
  a3 := Tryz.isAgg3
  z3 := Tryz.sizeOf3
  v3 := Tryz.zeroValue3
  t4 := Tryz.underlying4
  a4 := Tryz.isAgg4
  z4 := Tryz.sizeOf4
  v4 := Tryz.zeroValue4
  t5 := Tryz.underlying5
  a5 := Tryz.isAgg5
  z5 := Tryz.sizeOf5
  v5 := Tryz.zeroValue5
  t9 := Tryz.underlying9
  a9 := Tryz.isAgg9
  z9 := Tryz.sizeOf9
  v9 := Tryz.zeroValue9
  t20 := Tryz.underlying20
  a20 := Tryz.isAgg20
  z20 := Tryz.sizeOf20
  v20 := Tryz.zeroValue20
  t37 := Tryz.underlying251
  a37 := Tryz.isAgg251
  z37 := Tryz.sizeOf251
  v37 := Tryz.zeroValue251
  t46 := Tryz.underlying263
  a46 := Tryz.isAgg263
  z46 := Tryz.sizeOf263
  v46 := Tryz.zeroValue263
  t51 := Tryz.underlying296
  a51 := Tryz.isAgg296
  z51 := Tryz.sizeOf296
  v51 := Tryz.zeroValue296
  t53 := Tryz.underlying139
  a53 := Tryz.isAgg139
  z53 := Tryz.sizeOf139
  v53 := Tryz.zeroValue139
  t171 := Tryz.underlying317
  a171 := Tryz.isAgg317
  z171 := Tryz.sizeOf317
  v171 := Tryz.zeroValue317
  t173 := Tryz.underlying319
  a173 := Tryz.isAgg319
  z173 := Tryz.sizeOf319
  v173 := Tryz.zeroValue319
  t212 := Tryz.underlying327
  a212 := Tryz.isAgg327
  z212 := Tryz.sizeOf327
  v212 := Tryz.zeroValue327
  t213 := Tryz.underlying328
  a213 := Tryz.isAgg328
  z213 := Tryz.sizeOf328
  t232 := Tryz.underlying331
  a232 := Tryz.isAgg331
  z232 := Tryz.sizeOf331
  v232 := Tryz.zeroValue331
  t233 := Tryz.underlying332
  a233 := Tryz.isAgg332
  z233 := Tryz.sizeOf332
  v233 := Tryz.zeroValue332
  g17 := by kernel_rfl
  g18 := by kernel_rfl
  g19 := by kernel_rfl
  i0 := by kernel_rfl
  i2 := by kernel_rfl
  i3 := by kernel_rfl
  i4 := by kernel_rfl
  i5 := by kernel_rfl
  i9 := by kernel_rfl
  i20 := by kernel_rfl
  i37 := by kernel_rfl
  i46 := by kernel_rfl
  i51 := by kernel_rfl
  i53 := by kernel_rfl
  i171 := by kernel_rfl
  i173 := by kernel_rfl
  i212 := by kernel_rfl
  i232 := by kernel_rfl
  i233 := by kernel_rfl
  m17 := by kernel_rfl
  m18 := by kernel_rfl
  m19 := by kernel_rfl }
open Go.RowKit Go.Sort Go.Lib in
theorem Tryz.strconv_Itoa (n : Int) (h0 : -9223372036854775808 ≤ n) (h1 : n ≤ 9223372036854775807) (w : World) (htab : Lib.TabIs Tryz.prog w "internal/strconv.uint64pow10" .u64 Lib.pow10Tab) :
    Calls Tryz.prog 207 #[.int .i64 n] w fun e w' => e = .returned (.string ⟨(Lib.itoa n).toArray⟩) ∧ ∃ k os, w' = grow (w.drewN k) os := Any.strconv_Itoa Tryz.laysM171 n h0 h1 w htab
open Go.RowKit Go.Sort Go.Lib in
def Tryz.laysM316_ren : Go.Shelf.Ren := ⟨fun | 316 => 153 | n => n, fun | 9 => 9 | 3 => 3 | 4 => 4 | 37 => 251 | 0 => 0 | 127 => 252 | 5 => 5 | n => n, fun | n => n⟩
theorem Tryz.laysM316 : Go.Proofs.LaysM.n316 Tryz.prog Tryz.laysM316_ren := {
  mixed := by kernel_rfl
  f316 := Tryz.func153.trans (congrArg some (by kernel_rfl))
  t0 := Tryz.underlying0
  a0 := Tryz.isAgg0
  z0 := Tryz.sizeOf0
  v0 := Tryz.zeroValue0
  t3 := Tryz.underlying3
  a3 := Tryz.isAgg3
  z3 := Tryz.sizeOf3
  v3 := Tryz.zeroValue3
  t4 := Tryz.underlying4
  a4 := Tryz.isAgg4
  z4 := Tryz.sizeOf4
  v4 := Tryz.zeroValue4
  t9 := Tryz.underlying9
  a9 := Tryz.isAgg9
  z9 := Tryz.sizeOf9
  v9 := Tryz.zeroValue9
  t37 := Tryz.underlying251
  a37 := Tryz.isAgg251
  z37 := Tryz.sizeOf251
  v37 := Tryz.zeroValue251
  t127 := Tryz.underlying252
  a127 := Tryz.isAgg252
  z127 := Tryz.sizeOf252
  v127 := Tryz.zeroValue252
  t5 := Tryz.underlying5
  a5 := Tryz.isAgg5
  z5 := Tryz.sizeOf5
  v5 := Tryz.zeroValue5
  i0 := by kernel_rfl
  i3 := by kernel_rfl
  i4 := by kernel_rfl
  i5 := by kernel_rfl
  i9 := by kernel_rfl
  i37 := by kernel_rfl
  i127 := by kernel_rfl }
open Go.RowKit in
theorem Tryz.stringslite_Clone (s : ByteArray) (w : World) (hlim : s.size ≤ 281474976710656) :
    Calls Tryz.prog 153 #[.string s] w fun e w' => e = .returned (.string s) ∧ Below w.heap.size w w' := Any.stringslite_Clone Tryz.laysM316 s w hlim
def Tryz.lays190_ren : Go.Shelf.Ren := ⟨fun | 190 => 224 | 125 => 234 | 258 => 233 | 128 => 248 | 129 => 249 | 302 => 239 | 303 => 240 | 304 => 241 | 305 => 242 | 306 => 243 | 307 => 244 | 308 => 245 | 309 => 246 | 310 => 247 | 333 => 254 | 329 => 255 | 330 => 256 | 334 => 257 | 335 => 258 | 336 => 259 | 344 => 264 | n => n, fun | 31 => 96 | 9 => 9 | 3 => 3 | 46 => 263 | 0 => 0 | 51 => 296 | 53 => 139 | 4 => 4 | 183 => 310 | 182 => 309 | 131 => 204 | 5 => 5 | 218 => 321 | 222 => 324 | 228 => 329 | 229 => 237 | n => n, fun | n => n⟩
theorem Tryz.lays190 : Go.Proofs.Lays.n190 Tryz.prog Tryz.lays190_ren := {
  mixed := by kernel_rfl
  f125 := Tryz.func234.trans (congrArg some (by kernel_rfl))
  f128 := Tryz.func248.trans (congrArg some (by kernel_rfl))
  f129 := Tryz.func249.trans (congrArg some (by kernel_rfl))
  f190 := Tryz.func224.trans (congrArg some (by kernel_rfl))
  f258 := Tryz.func233.trans (congrArg some (by kernel_rfl))
  f302 := Tryz.func239.trans (congrArg some (by kernel_rfl))
  f303 := Tryz.func240.trans (congrArg some (by kernel_rfl))
  f304 := Tryz.func241.trans (congrArg some (by kernel_rfl))
  f305 := Tryz.func242.trans (congrArg some (by kernel_rfl))
  f306 := Tryz.func243.trans (congrArg some (by kernel_rfl))
  f307 := Tryz.func244.trans (congrArg some (by kernel_rfl))
  f308 := Tryz.func245.trans (congrArg some (by kernel_rfl))
  f309 := Tryz.func246.trans (congrArg some (by kernel_rfl))
  f310 := Tryz.func247.trans (congrArg some (by kernel_rfl))
  f329 := Tryz.func255.trans (congrArg some (by kernel_rfl))
  f330 := Tryz.func256.trans (congrArg some (by kernel_rfl))
  f333 := Tryz.func254.trans (congrArg some (by kernel_rfl))
  f334 := Tryz.func257.trans (congrArg some (by kernel_rfl))
  f335 := Tryz.func258.trans (congrArg some (by kernel_rfl))
  f336 := Tryz.func259.trans (congrArg some (by kernel_rfl))
  f344 := Tryz.func264.trans (congrArg some (by kernel_rfl))
  t0 := Tryz.underlying0
  a0 := Tryz.isAgg0
  z0 := Tryz.sizeOf0
  v0 := Tryz.zeroValue0
  t3 := Tryz.underlying3
  a3 := Tryz.isAgg3
  z3 := Tryz.sizeOf3
  v3 := Tryz.zeroValue3
  t4 := Tryz.underlying4
  a4 := Tryz.isAgg4
  z4 := Tryz.sizeOf4
  v4 := Tryz.zeroValue4
  t5 := Tryz.underlying5
  a5 := Tryz.isAgg5
  z5 := Tryz.sizeOf5
  v5 := Tryz.zeroValue5
  t9 := Tryz.underlying9
  a9 := Tryz.isAgg9
  z9 := Tryz.sizeOf9
  v9 := Tryz.zeroValue9
  t31 := Tryz.underlying96
  a31 := Tryz.isAgg96
  z31 := Tryz.sizeOf96
  v31 := Tryz.zeroValue96
  t46 := Tryz.underlying263
  a46 := Tryz.isAgg263
  z46 := Tryz.sizeOf263
  v46 := Tryz.zeroValue263
  t51 := Tryz.underlying296
  a51 := Tryz.isAgg296
  z51 := Tryz.sizeOf296
  v51 := Tryz.zeroValue296
  t53 := Tryz.underlying139
  a53 := Tryz.isAgg139
  z53 := Tryz.sizeOf139
  v53 := Tryz.zeroValue139
  t131 := Tryz.underlying204
  a131 := Tryz.isAgg204
  z131 := Tryz.sizeOf204
  v131 := Tryz.zeroValue204
  t182 := Tryz.underlying309
  a182 := Tryz.isAgg309
  z182 := Tryz.sizeOf309
  v182 := Tryz.zeroValue309
  t183 := Tryz.underlying310
  a183 := Tryz.isAgg310
  z183 := Tryz.sizeOf310
  v183 := Tryz.zeroValue310
  t218 := Tryz.underlying321
  a218 := Tryz.isAgg321
  z218 := Tryz.sizeOf321
  v218 := Tryz.zeroValue321
  t222 := Tryz.underlying324
  a222 := Tryz.isAgg324
  z222 := Tryz.sizeOf324
  v222 := Tryz.zeroValue324
  t228 := Tryz.underlying329
  a228 := Tryz.isAgg329
  z228 := Tryz.sizeOf329
  v228 := Tryz.zeroValue329
  t229 := Tryz.underlying237
  a229 := Tryz.isAgg237
  z229 := Tryz.sizeOf237
  v229 := Tryz.zeroValue237 }
open Go.Sort Go.RowKit in
theorem Tryz.slices_Sort_string (blk off cap : Nat) (ss : List (List UInt8)) (w : World) (hH : Holds encStr w blk off ss.toArray) (hblk : blk < w.heap.size) (hsz : ss.length < 4611686018427387904) :
    Calls Tryz.prog 224 #[.slice (some ⟨blk, off, none⟩) ss.length cap] w fun e w' =>
      e = .returned (.tuple #[]) ∧ ∃ n os, w' = grow (putRow encStr (Sort.ahead w n) blk off (ss.mergeSort fun x y => decide (x ≤ y)).toArray) os := Any.slices_Sort_string Tryz.lays190 blk off cap ss w hH hblk hsz
open Go.RowKit Go.Lib in
def Tryz.lays99_ren : Go.Shelf.Ren := ⟨fun | 99 => 182 | 206 => 205 | n => n, fun | 9 => 9 | 4 => 4 | 3 => 3 | n => n, fun | n => n⟩
theorem Tryz.lays99 : Go.Proofs.Lays.n99 Tryz.prog Tryz.lays99_ren := {
  mixed := by kernel_rfl
  f99 := Tryz.func182.trans (congrArg some (by kernel_rfl))
  f206 := Tryz.func205.trans (congrArg some (by kernel_rfl))
  t3 := Tryz.underlying3
  a3 := Tryz.isAgg3
  z3 := Tryz.sizeOf3
  v3 := Tryz.zeroValue3
  t4 := Tryz.underlying4
  a4 := Tryz.isAgg4
  z4 := Tryz.sizeOf4
  v4 := Tryz.zeroValue4
  t9 := Tryz.underlying9
  a9 := Tryz.isAgg9
  z9 := Tryz.sizeOf9
  v9 := Tryz.zeroValue9 }
open Go.RowKit Go.Lib in
theorem Tryz.strings_HasPrefix (s p : ByteArray) (w : World) :
    Calls Tryz.prog 182 #[.string s, .string p] w fun e w' => e = .returned (.bool (Lib.hasPrefix s.data.toList p.data.toList)) ∧ w' = w := Any.strings_HasPrefix Tryz.lays99 s p w
open Go.RowKit Go.Lib in
def Tryz.lays212_ren : Go.Shelf.Ren := ⟨fun | 212 => 208 | 263 => 227 | 264 => 228 | n => n, fun | 46 => 263 | 51 => 296 | 146 => 297 | 53 => 139 | 148 => 299 | n => n, fun | n => n⟩
theorem Tryz.lays212 : Go.Proofs.Lays.n212 Tryz.prog Tryz.lays212_ren := {
  mixed := by kernel_rfl
  f212 := Tryz.func208.trans (congrArg some (by kernel_rfl))
  f263 := Tryz.func227.trans (congrArg some (by kernel_rfl))
  f264 := Tryz.func228.trans (congrArg some (by kernel_rfl))
  t46 := Tryz.underlying263
  a46 := Tryz.isAgg263
  z46 := Tryz.sizeOf263
  v46 := Tryz.zeroValue263
  t51 := Tryz.underlying296
  a51 := Tryz.isAgg296
  z51 := Tryz.sizeOf296
  v51 := Tryz.zeroValue296
  t53 := Tryz.underlying139
  a53 := Tryz.isAgg139
  z53 := Tryz.sizeOf139
  v53 := Tryz.zeroValue139
  t146 := Tryz.underlying297
  a146 := Tryz.isAgg297
  z146 := Tryz.sizeOf297
  v146 := Tryz.zeroValue297
  t148 := Tryz.underlying299
  a148 := Tryz.isAgg299
  z148 := Tryz.sizeOf299
  v148 := Tryz.zeroValue299 }
open Go.RowKit Go.Lib in
theorem Tryz.bits_Mul (x y : Nat) (hx : x < 18446744073709551616) (hy : y < 18446744073709551616) (w : World) :
    Calls Tryz.prog 208 #[.int .u64 x, .int .u64 y] w fun e w' => e = .returned (.tuple #[.int .u64 ((x * y / 18446744073709551616 : Nat) : Int), .int .u64 ((x * y % 18446744073709551616 : Nat) : Int)]) ∧ w' = w := Any.bits_Mul Tryz.lays212 x y hx hy w
open Go.RowKit Go.Lib in
open Go.RowKit Go.Lib in
open Go.RowKit Go.Lib in
open Go.RowKit Go.Lib in
open Go.RowKit Go.Lib in
open Go.RowKit Go.Lib in
open Go.RowKit Go.Lib in
def Tryz.laysNm215_ren : Go.Shelf.Ren := ⟨fun | 15 => 99 | n => n, fun | 22 => 48 | 3 => 3 | 4 => 4 | n => n, fun | n => n⟩
theorem Tryz.laysNm215 : Go.Proofs.Lays2.n15 Tryz.prog Tryz.laysNm215_ren := {
  mixed := by kernel_rfl
  f15 := Tryz.func99.trans (congrArg some (by kernel_rfl))
  t3 := Tryz.underlying3
  a3 := Tryz.isAgg3
  z3 := Tryz.sizeOf3
  v3 := Tryz.zeroValue3
  t4 := Tryz.underlying4
  a4 := Tryz.isAgg4
  z4 := Tryz.sizeOf4
  v4 := Tryz.zeroValue4
  t22 := Tryz.underlying48
  a22 := Tryz.isAgg48
  z22 := Tryz.sizeOf48
  v22 := Tryz.zeroValue48
  i3 := by kernel_rfl }
open Go.RowKit Go.Lib in
theorem Tryz.slices_Clone_int (b off n c : Nat) (zs : List Int) (w : World) (hz : n ≤ zs.length) (hbig : n * 8 ≤ 140737488355328) (hc : ∀ j, j < zs.length → w.cell? ⟨b, off + j, none⟩ = some (.int .i64 (zs.getD j 0))) :
    Calls Tryz.prog 99 #[.slice (some ⟨b, off, none⟩) n c] w fun e w' => ∃ v', e = .returned v' ∧ w'.ownsRow w.heap.size 3 1 v' n ((zs.take n).map (Value.int .i64)) ∧ v' ≠ .slice none 0 0 ∧ Below w.heap.size w w' := Any.slices_Clone_int Tryz.laysNm215 b off n c zs w hz hbig hc
open Go.RowKit Go.Lib in
theorem Tryz.slices_Clone_int_nil (n c : Nat) (w : World) :
    Calls Tryz.prog 99 #[.slice none n c] w fun e w' => e = .returned (.slice none 0 0) ∧ w' = w := Any.slices_Clone_int_nil Tryz.laysNm215 n c w
open Go.RowKit Go.Lib in
theorem Tryz.slices_Clone_int_zero (a : Addr) (c : Nat) (w : World) :
    Calls Tryz.prog 99 #[.slice (some a) 0 c] w fun e w' => ∃ v', e = .returned v' ∧ w'.ownsRow w.heap.size 3 1 v' 0 [] ∧ v' ≠ .slice none 0 0 ∧ Below w.heap.size w w' := Any.slices_Clone_int_zero Tryz.laysNm215 a c w
open Go.RowKit Go.Sort in
theorem Tryz.slices_Sort_string_none (p : Option Addr) (cap : Nat) (w : World) :
    Calls Tryz.prog 224 #[.slice p 0 cap] w fun e w' => e = .returned (.tuple #[]) ∧ w' = w := Any.slices_Sort_string_none Tryz.lays190 p cap w
open Go.RowKit Go.Lib in
open Go.RowKit Go.Lib in
open Go.RowKit Go.Lib in
open Go.RowKit Go.Lib in
def Tryz.laysSlH10_f179_ren : Go.Shelf.Ren := ⟨fun | 10 => 179 | 6 => 202 | n => n, fun | 22 => 96 | 23 => 9 | 25 => 103 | 3 => 3 | 4 => 4 | 0 => 0 | n => n, fun | n => n⟩
theorem Tryz.laysSlH10_f179 : Go.Proofs.SlLaysH.n10 Tryz.prog Tryz.laysSlH10_f179_ren := {
  mixed := by kernel_rfl
  f6 := ⟨Tryz.f202.name, by decide, Tryz.func202.trans (congrArg some (by kernel_rfl))⟩
  f10 := ⟨Tryz.f179.name, by decide, Tryz.func179.trans (congrArg some (by kernel_rfl))⟩
  t0 := Tryz.underlying0
  a0 := Tryz.isAgg0
  z0 := Tryz.sizeOf0
  v0 := Tryz.zeroValue0
  t3 := Tryz.underlying3
  a3 := Tryz.isAgg3
  z3 := Tryz.sizeOf3
  v3 := Tryz.zeroValue3
  t4 := Tryz.underlying4
  a4 := Tryz.isAgg4
  z4 := Tryz.sizeOf4
  v4 := Tryz.zeroValue4
  t22 := Tryz.underlying96
  a22 := Tryz.isAgg96
  z22 := Tryz.sizeOf96
  v22 := Tryz.zeroValue96
  a23 := Tryz.isAgg9
  z23 := Tryz.sizeOf9
  t25 := Tryz.underlying103
  a25 := Tryz.isAgg103
  z25 := Tryz.sizeOf103
  v25 := Tryz.zeroValue103 }
open Go.RowKit Go.Lib Go.Sort in
theorem Tryz.slices_DeleteFunc {α : Type} [Inhabited α] (enc : α → Value) (hO : OneCell enc) (p : α → Bool) (g : Nat) (lb : Array Value) (eg : ∀ args w, (callFunc g args).run Tryz.prog w = .ok (.enter g args) w) (zr : α) (v23 : ∀ w, (zeroValue 9).run Tryz.prog w = .ok (enc zr) w) (blk off cap : Nat) (d : Array α) (w : World) (hp : PredAt Tryz.prog g lb enc p w) (hpo : PredOver Tryz.prog g lb enc p blk off d.size w) (hH : Holds enc w blk off d) (hsz : d.size ≤ 9223372036854775807) (hcap : d.size ≤ cap) :
    Calls Tryz.prog 179 #[.slice (some ⟨blk, off, none⟩) d.size cap, .func (.func g) #[] lb] w fun e w' => e = .returned (.slice (some ⟨blk, off, none⟩) (d.toList.filter fun x => !p x).length cap) ∧ ∃ q, w' = putRow enc (Sort.ahead w q) blk off ((d.toList.filter fun x => !p x) ++ List.replicate (d.size - (d.toList.filter fun x => !p x).length) zr).toArray := AnyE.slices_DeleteFunc Tryz.laysSlH10_f179 enc hO p g lb eg zr v23 blk off cap d w hp hpo hH hsz hcap
open Go.RowKit Go.Maps Go.Sort Go.Shelf


theorem Tryz.sorts203 (m : Nat) : AnyZ.SortsIn Tryz.prog Tryz.sorted203_ren Fence.wide m :=
  ⟨fun blk off cap ss W hH hblk hsz => callsIn_wide.2 (AnyM.slices_Sort_string Tryz.sort224 blk off cap ss W hH hblk hsz),
   fun p cap W => callsIn_wide.2 (AnyM.slices_Sort_string_none Tryz.sort224 p cap W)⟩

theorem Tryz.maps_Keys_36 (mb : Option Nat) (W : World) : CallsIn Fence.wide 5 Tryz.prog 36 #[.map mb] W fun e w' => e = .returned (.func (.func 75) #[] #[.pointer (some ⟨W.heap.size, 0, none⟩)]) ∧ w' = W.alloc (.cells #[.map mb] 70) :=
  AnyZ.keys_in Tryz.keys36 Fence.wide 5 trivial rfl mb W

theorem Tryz.maps_Keys_204 (mb : Option Nat) (W : World) : CallsIn Fence.wide 5 Tryz.prog 204 #[.map mb] W fun e w' => e = .returned (.func (.func 225) #[] #[.pointer (some ⟨W.heap.size, 0, none⟩)]) ∧ w' = W.alloc (.cells #[.map mb] 166) :=
  AnyZ.keys_in Tryz.keys204 Fence.wide 5 trivial rfl mb W

set_option maxHeartbeats 1000000 in
theorem Tryz.slices_Sorted_keys_203_204 {H : Type} (b nn : Nat) (D0 : DataW H) (R : Value → Option (DataW H × List MemPlace)) (w : World) (hown : w.ownsMap Tryz.prog 9 R b nn D0) (hmax : Maps.size D0 ≤ maxLen) (hbytes : Maps.size D0 * 16 ≤ 140737488355328) :
    CallsIn Fence.wide 5 Tryz.prog 203 #[.func (.func 225) #[] #[.pointer (some ⟨w.heap.size, 0, none⟩)]] (w.alloc (.cells #[.map (some b)] 166)) fun e w' => ∃ (v : Value) (ss : List (List UInt8)), e = .returned v ∧ ss.Perm (strKeys D0) ∧
      w'.ownsRow (w.alloc (.cells #[.map (some b)] 166)).heap.size 9 1 v ss.length ((ss.mergeSort (fun x y => decide (x ≤ y))).map encStr) ∧ (v = .slice none 0 0 ↔ ss = []) ∧ Below (w.alloc (.cells #[.map (some b)] 166)).heap.size (w.alloc (.cells #[.map (some b)] 166)) w' := by
  have hbl := hown.lt
  have hseq : SeqGives Fence.wide 2 Tryz.prog 225 #[.pointer (some ⟨w.heap.size, 0, none⟩)] encStr (fun ss => ss.Perm (strKeys D0)) (Maps.size D0) (w.alloc (.cells #[.map (some b)] 166)) :=
    AnyZ.keys_gives (ρ := Tryz.keys204_ren) { Tryz.keys204 with } Fence.wide _ trivial rfl (by omega) w.heap.size b nn D0 _ (by simp) (by simp) (by
      obtain ⟨es, clock, hb, Ft, hs, hD⟩ := hown
      exact ⟨es, clock, (Below.heap_alloc _ _ b hbl).trans hb, Ft, hs, hD⟩)
  exact AnyZ.sorted_in Tryz.sorted203 Fence.wide 5 trivial trivial trivial trivial rfl (by omega) (Tryz.sorts203 _) (enters_of Tryz.func224 (by kernel_rfl) rfl) 225 #[.pointer (some ⟨w.heap.size, 0, none⟩)] trivial (enters_of Tryz.func225 (by kernel_rfl) rfl) _ _ hmax hbytes _ hseq

end Go.Proofs
/- Contracts of the small methods of simdisk: On, goes, Clone, Arm, may, Room, Restore. -/
namespace Go.Proofs.YteinoiicnmemhaaGreatDoor.J
open Go.RowKit

/-! ## slices that are only read -/
section
variable {w w' : World} {size n : Nat} {v : Value} {cs : List Value}
end

/-! ## the disk in memory -/
def DS.cells (d : DS) (mb : Nat) (kv : Value) : Array Value := #[.bool d.on, .int .i64 d.room, .map (some mb), .bool d.armed, .int .i64 d.left, kv]
/-- The disk d lies in block db, its files in the map mb. -/
structure DiskAt (w : World) (db mb : Nat) (d : DS) (kv : Value) : Prop where
  blk : Blk w db 168 (d.cells mb kv)
  map : MapIs Value.string w mb (d.fs.map fun p => (p.1, p.2.val))
  slc : Slc w 1 kv d.keep.length (ints d.keep)
  apart : ∀ g, kv.ownBlock = some g → g ≠ db ∧ g ≠ mb
  left : -9223372036854775808 ≤ d.left ∧ d.left ≤ 9223372036854775807
  room : -9223372036854775808 ≤ d.room ∧ d.room ≤ 9223372036854775807
  old : ∀ g, kv.ownBlock = some g → g < w.heap.size

theorem DiskAt.only {w w' : World} {db mb : Nat} {d : DS} {kv : Value} {S : List Nat} (h : DiskAt w db mb d kv) (k : Only S w w') (hd : db ∉ S) (hm : mb ∉ S) (hk : ∀ g, kv.ownBlock = some g → g ∉ S) : DiskAt w' db mb d kv :=
  ⟨k.blk h.blk hd, h.map.only k hm, h.slc.only k hk, h.apart, h.left, h.room, fun g hg => Nat.lt_of_lt_of_le (h.old g hg) k.size⟩
theorem DiskAt.ne {w : World} {db mb : Nat} {d : DS} {kv : Value} (h : DiskAt w db mb d kv) : mb ≠ db := h.map.ne_blk h.blk

/-! ## On -/
theorem on_any {w : World} {db mb : Nat} {d : DS} {kv : Value} (h : DiskAt w db mb d kv) :
    Calls Tryz.prog 178 #[.pointer (some ⟨db, 0, none⟩)] w fun e w' => e = .returned (.bool d.on) ∧ w = w' := by
  have c0 : w.cell? ⟨db, 0, none⟩ = some (.bool d.on) := h.blk.cell 0
  go_enter Tryz.func178, Tryz.ntmps178
  go_wp2
  go_ret
  exact ⟨rfl, rfl⟩
/-! ## goes -/
theorem goes_any {w : World} {db mb : Nat} {d : DS} {kv : Value} (h : DiskAt w db mb d kv) (hl : d.armed = true → 0 ≤ d.left) :
    Calls Tryz.prog 176 #[.pointer (some ⟨db, 0, none⟩)] w fun e w' => e = .returned (.bool d.goes) ∧ DiskAt w' db mb d.tick kv ∧ Only [db] w w' := by
  have c3 : w.cell? ⟨db, 3, none⟩ = some (.bool d.armed) := h.blk.cell 3
  have c4 : w.cell? ⟨db, 4, none⟩ = some (.int .i64 d.left) := h.blk.cell 4
  have f4 : w.frozen? ⟨db, 4, none⟩ = false := h.blk.free 4
  obtain ⟨b1, b2⟩ := h.left
  by_cases ha : d.armed = true
  · have hl0 := hl ha
    rw [ha] at c3
    have hg : d.goes = decide (d.left - 1 < 0) := by simp only [DS.goes, ha, Bool.true_and, decide_eq_decide]; omega
    have ht : d.tick = { d with left := d.left - 1 } := by simp [DS.tick, ha]
    have hfin : DiskAt (w.setCell ⟨db, 4, none⟩ (.int .i64 (d.left - 1))) db mb d.tick kv ∧ Only [db] w (w.setCell ⟨db, 4, none⟩ (.int .i64 (d.left - 1))) := by
      have ho : Only [db] w (w.setCell ⟨db, 4, none⟩ (.int .i64 (d.left - 1))) := (Only.refl _ w).setCell (.inl (by simp)) _
      refine ⟨⟨?_, ?_, ?_, ?_, ?_, ?_, fun g hg => Nat.lt_of_lt_of_le (h.old g hg) ho.size⟩, ho⟩
      · rw [ht]; exact h.blk.set 4 _
      · rw [ht]; exact h.map.only ho (by simp; exact h.ne)
      · rw [ht]; exact h.slc.only ho (fun g hg => by have := h.apart g hg; simp [this.1])
      · exact h.apart
      · rw [ht]; exact ⟨by show _ ≤ d.left - 1; omega, by show d.left - 1 ≤ _; omega⟩
      · rw [ht]; exact h.room
    have HG := Lib.hid hg
    clear hg ht ha
    go_enter Tryz.func176, Tryz.ntmps176
    go_wp2
    all_goals
      go_ret
      refine ⟨?_, hfin⟩
      rw [HG.out]
      rfl
  · have ha' : d.armed = false := by simpa using ha
    rw [ha'] at c3
    have hg : d.goes = false := by simp [DS.goes, ha']
    have ht : d.tick = d := by simp [DS.tick, ha']
    rw [ht, hg]
    clear hg ht ha ha'
    go_enter Tryz.func176, Tryz.ntmps176
    go_wp2
    go_ret
    exact ⟨rfl, h, Only.refl _ _⟩
end Go.Proofs.YteinoiicnmemhaaGreatDoor.J
/- Contracts: slices.Clone at ints, Arm, may, strings.Clone. -/
namespace Go.Proofs.YteinoiicnmemhaaGreatDoor.J
open Go.RowKit

theorem cloneInts_any {w : World} {v : Value} {n : Nat} {zs : List Int} (h : Slc w 1 v n (ints zs)) (hb : n * 8 ≤ 140737488355328) :
    Calls Tryz.prog 99 #[v] w fun e w' => ∃ v', e = .returned v' ∧ Slc w' 1 v' n (ints zs) ∧ (∀ g, v'.ownBlock = some g → w.heap.size ≤ g ∧ g < w'.heap.size) ∧ Only [] w w' := by
  obtain ⟨A, cap, rfl, hnc, hcm, hl, hc⟩ := h.cell
  have hzl : zs.length = n := by simpa [ints] using hl
  cases A with
  | none =>
    have hn : n = 0 := by
      rcases hc with h0 | ⟨b, off, h0, _⟩
      · exact h0
      · cases h0
    subst hn
    have hz : zs = [] := List.eq_nil_of_length_eq_zero hzl
    subst hz
    refine (Tryz.slices_Clone_int_nil 0 cap w).mono fun e w' ⟨he, hw⟩ => ?_
    subst hw
    exact ⟨_, he, Slc.nil _ _, by simp [Value.ownBlock], Only.refl _ _⟩
  | some a =>
    rcases hc with h0 | ⟨b, off, h0, hlt, hcell⟩
    · subst h0
      have hz : zs = [] := List.eq_nil_of_length_eq_zero hzl
      subst hz
      refine (Tryz.slices_Clone_int_zero a cap w).mono fun e w' ⟨v', he, hown, _, hbel⟩ => ?_
      obtain ⟨q1, q2⟩ := Slc.of_own hown
      exact ⟨v', he, q1, q2, Only.of_below hbel (Nat.le_refl _)⟩
    · cases h0
      refine (Tryz.slices_Clone_int b off n cap zs w (by omega) hb ?_).mono fun e w' ⟨v', he, hown, _, hbel⟩ => ?_
      · intro j hj
        rw [hcell j (by simpa [ints] using hj)]
        simp [ints, hj]
      · rw [← hzl, List.take_length] at hown
        rw [← hzl]
        obtain ⟨q1, q2⟩ := Slc.of_own hown
        exact ⟨v', he, q1, q2, Only.of_below hbel (Nat.le_refl _)⟩

theorem arm_any {w : World} {db mb : Nat} {d : DS} {kv : Value} (h : DiskAt w db mb d kv) {n : Int} (hn : -9223372036854775808 ≤ n ∧ n ≤ 9223372036854775807) {v : Value} {zs : List Int} (hs : Slc w 1 v zs.length (ints zs)) (hb : zs.length * 8 ≤ 140737488355328) :
    Calls Tryz.prog 201 #[.pointer (some ⟨db, 0, none⟩), .int .i64 n, v] w fun e w' => e = .returned (.tuple #[]) ∧ ∃ kv', DiskAt w' db mb (d.arm n zs) kv' ∧ (∀ g, kv'.ownBlock = some g → w.heap.size ≤ g) ∧ Only [db] w w' := by
  go_enter Tryz.func201, Tryz.ntmps201
  go_wp2_with (go_at_call 99; refine (cloneInts_any hs hb).mono ?_; rintro e w1 ⟨v', rfl, hs1, hf1, ho1⟩; have h1 := h.blk.of_eq (ho1.block db h.blk.lt (by simp)); have c3 : w1.cell? ⟨db, 3, none⟩ = some (.bool d.armed) := h1.cell 3; have c4 : w1.cell? ⟨db, 4, none⟩ = some (.int .i64 d.left) := h1.cell 4; have c5 : w1.cell? ⟨db, 5, none⟩ = some kv := h1.cell 5; have f3 := h1.free 3; have f4 := h1.free 4; have f5 := h1.free 5; obtain ⟨A, cap, hv', _⟩ := hs1.cell; rw [hv'])
  go_end0
  have hl := h.blk.lt
  have hml := h.map.lt
  refine ⟨rfl, v', ⟨?_, ?_, ?_, ?_, hn, h.room, fun g hg => by have := (hf1 g hg).2; simpa [World.setCell] using this⟩, fun g hg => (hf1 g hg).1, ?_⟩
  · rw [hv']
    exact ((h1.set 3 _).set 4 _).set 5 _
  · exact h.map.only ((((ho1.of_nil (S := [db])).setCell (.inl (by simp)) _).setCell (.inl (by simp)) _).setCell (.inl (by simp)) _) (by simp; exact h.ne)
  · refine hs1.only ((((Only.refl [db] w1).setCell (.inl (by simp)) _).setCell (.inl (by simp)) _).setCell (.inl (by simp)) _) ?_
    intro g hg
    have := hf1 g hg
    simp
    omega
  · intro g hg
    have := hf1 g hg
    omega
  · exact (((ho1.of_nil (S := [db])).setCell (.inl (by simp)) _).setCell (.inl (by simp)) _).setCell (.inl (by simp)) _
theorem strClone_any (s : ByteArray) (w : World) (hlim : s.size ≤ 281474976710656) :
    Calls Tryz.prog 129 #[.string s] w fun e w' => e = .returned (.string s) ∧ Only [] w w' := by
  go_enter Tryz.func129, Tryz.ntmps129
  go_wp2_with (go_at_call 153; refine (Tryz.stringslite_Clone s _ hlim).mono ?_; rintro e w' ⟨rfl, hb⟩)
  go_ret
  exact ⟨rfl, Only.of_below hb (Nat.le_refl _)⟩
end Go.Proofs.YteinoiicnmemhaaGreatDoor.J
/- Contracts: may, find. -/
namespace Go.Proofs.YteinoiicnmemhaaGreatDoor.J
open Go.RowKit

theorem mayAll_drop (l : List ByteArray) (k : Nat) (h : k < l.length) : mayAll (l.drop k) = if badName l[k] then 1 else mayAll (l.drop (k + 1)) := by
  rw [List.drop_eq_getElem_cons h]
  rfl

theorem may_off {w : World} {db mb : Nat} {d : DS} {kv v : Value} {l : List ByteArray} (h : DiskAt w db mb d kv) (ho : d.on = false) :
    Calls Tryz.prog 175 #[.pointer (some ⟨db, 0, none⟩), v] w fun e w' => e = .returned (.int .i64 (d.may l)) ∧ w = w' := by
  have hm : d.may l = 14 := by simp [DS.may, ho]
  rw [hm]
  clear hm
  go_enter Tryz.func175, Tryz.ntmps175
  go_wp2_with (go_at_call 178; refine (on_any h).mono ?_; rintro e w' ⟨rfl, rfl⟩; rw [ho])
  go_ret
  exact ⟨rfl, rfl⟩
theorem may_on {w : World} {db mb : Nat} {d : DS} {kv v : Value} {l : List ByteArray} (h : DiskAt w db mb d kv) (ho : d.on = true) (hs : Slc w 1 v l.length (strs l)) :
    Calls Tryz.prog 175 #[.pointer (some ⟨db, 0, none⟩), v] w fun e w' => e = .returned (.int .i64 (d.may l)) ∧ w = w' := by
  have hm : d.may l = mayAll l := by simp [DS.may, ho]
  rw [hm]
  clear hm
  obtain ⟨A, cap, rfl, hnc, hcm, hl, hc⟩ := hs.cell
  have hcm' : l.length ≤ 9223372036854775807 := by unfold maxLen at hcm; omega
  clear hcm hl hnc
  go_enter Tryz.func175, Tryz.ntmps175
  go_wp2_with (go_at_call 178; refine (on_any h).mono ?_; rintro e w' ⟨rfl, rfl⟩; rw [ho])
  go_loop [12] (fun i => ∃ k : Nat, k ≤ l.length ∧ i = .int .i64 k ∧ Hid (mayAll l = mayAll (l.drop k))) (fun i => l.length - (intOf i).toNat)
  case atStart => exact ⟨0, Nat.zero_le _, rfl, rfl⟩
  case round =>
    obtain ⟨k, hk, rfl, hm⟩ := hrel
    by_cases hlt : k < l.length
    · obtain ⟨b, off, rfl, _, hcell⟩ : ∃ b off, A = some ⟨b, off, none⟩ ∧ b < w.heap.size ∧ ∀ j, j < (strs l).length → w.cell? ⟨b, off + j, none⟩ = (strs l)[j]? := by
        rcases hc with h0 | h0
        · omega
        · exact h0
      obtain ⟨s, hse⟩ : ∃ s, s = l[k] := ⟨_, rfl⟩
      have hck : w.cell? ⟨b, off + k, none⟩ = some (.string s) := by
        rw [hcell k (by simpa [strs] using hlt), hse]
        simp [strs, hlt]
      have hd : Hid (mayAll (l.drop k) = if badName s then 1 else mayAll (l.drop (k + 1))) := by rw [hse]; exact mayAll_drop l k hlt
      clear hse hc hcell
      by_cases h1 : s.size < 1
      · go_wp2
        go_ret
        refine ⟨?_, rfl⟩
        rw [hm.out, hd.out, if_pos (by simp [badName, h1])]
        rfl
      · by_cases h2 : 40 < s.size
        · go_wp2
          go_ret
          refine ⟨?_, rfl⟩
          rw [hm.out, hd.out, if_pos (by simp [badName, h2])]
          rfl
        · go_wp2
          go_round
          case rel => exact ⟨k + 1, by omega, by go_num, by rw [Hid, hm.out, hd.out, if_neg (by simp only [badName, Bool.or_eq_true, decide_eq_true_eq]; omega)]⟩
          case measure => simp [intOf]; omega
    · have hkl : k = l.length := by omega
      have hz : Hid (mayAll (l.drop k) = 0) := by rw [hkl, List.drop_length]; rfl
      clear hkl
      go_wp2
      go_ret
      refine ⟨?_, rfl⟩
      rw [hm.out, hz.out]
      rfl
theorem may_any {w : World} {db mb : Nat} {d : DS} {kv v : Value} {l : List ByteArray} (h : DiskAt w db mb d kv) (hs : Slc w 1 v l.length (strs l)) :
    Calls Tryz.prog 175 #[.pointer (some ⟨db, 0, none⟩), v] w fun e w' => e = .returned (.int .i64 (d.may l)) ∧ w = w' := by
  cases ho : d.on
  · exact may_off h ho
  · exact may_on h ho hs

theorem slc_one {w : World} {g : Nat} {s : ByteArray} {e : TypeId} (h : w.heap[g]? = some (.cells #[.string s] e (0, 0))) : Slc w 1 (.slice (some ⟨g, 0, none⟩) 1 1) [s].length (strs [s]) :=
  ⟨_, _, rfl, rfl, Nat.le_refl _, by unfold maxLen; omega, fun _ => ⟨_, 0, rfl, lt_of_block h, fun j hj => by
    rw [Nat.zero_add, cell_of_row _ _ _ _ _ _ h]
    simp [strs]⟩⟩
theorem zeroFile (w : World) : (zeroValue 225).run Tryz.prog w = .ok File.zero.val w := by kernel_rfl

theorem getV {d : DS} (n : ByteArray) : (aget (d.fs.map fun p => (p.1, p.2.val)) n).getD File.zero.val = .agg #[.string (d.get n).b, .int .i64 (d.get n).lasts, .bool (d.get n).known] := by
  rw [aget_map]
  unfold DS.get
  cases aget d.fs n <;> rfl
theorem isV {d : DS} (n : ByteArray) : (aget (d.fs.map fun p => (p.1, p.2.val)) n).isSome = (aget d.fs n).isSome := by
  rw [aget_map]
  cases aget d.fs n <;> rfl

theorem find_may {w : World} {db mb : Nat} {d : DS} {kv : Value} (h : DiskAt w db mb d kv) (n : ByteArray) (hm : d.may [n] ≠ 0) :
    Calls Tryz.prog 151 #[.pointer (some ⟨db, 0, none⟩), .string n] w fun e w' => e = .returned (.tuple #[(d.find n).1.val, .int .i64 (d.find n).2]) ∧ Only [] w w' := by
  have hf : d.find n = (File.zero, d.may [n]) := by simp [DS.find, hm]
  have hA : ∀ o1 o2, DiskAt ((w.alloc o1).alloc o2) db mb d kv := fun o1 o2 => h.only (((Only.refl [] w).alloc o1).alloc o2) (by simp) (by simp) (by simp)
  have hm1 : (d.may [n] != 0) = true := by simp [hm]
  rw [hf]
  clear hf hm
  go_enter Tryz.func151, Tryz.ntmps151
  go_wp2_with (go_at_call 175; refine (may_any (l := [n]) (hA _ _) (slc_one (heap_alloc2_new _ _ _))).mono ?_; rintro e w' ⟨rfl, rfl⟩)
  refine bodyPost_ret (v := .tuple #[File.zero.val, .int .i64 (d.may [n])]) (by simp [results, Tryz.results151, go_sem, File.zero, File.val]) rfl ⟨rfl, ?_⟩
  exact ((((Only.refl [] w).alloc _).alloc _))

theorem find_any {w : World} {db mb : Nat} {d : DS} {kv : Value} (h : DiskAt w db mb d kv) (n : ByteArray) :
    Calls Tryz.prog 151 #[.pointer (some ⟨db, 0, none⟩), .string n] w fun e w' => e = .returned (.tuple #[(d.find n).1.val, .int .i64 (d.find n).2]) ∧ Only [] w w' := by
  by_cases hm : d.may [n] = 0
  case neg => exact find_may h n hm
  have hA : ∀ o1 o2, DiskAt ((w.alloc o1).alloc o2) db mb d kv := fun o1 o2 => h.only (((Only.refl [] w).alloc o1).alloc o2) (by simp) (by simp) (by simp)
  have c2 : ∀ o1 o2, ((w.alloc o1).alloc o2).cell? ⟨db, 2, none⟩ = some (.map (some mb)) := fun o1 o2 => (hA o1 o2).blk.cell 2
  have hm1 : (d.may [n] != 0) = false := by simp [hm]
  cases hi : (aget d.fs n).isSome
  · have hf : d.find n = (File.zero, 8) := by simp [DS.find, hm, hi]
    rw [hf]
    clear hf hm
    go_enter Tryz.func151, Tryz.ntmps151
    go_wp2_with (first | (go_at_call 175; refine (may_any (l := [n]) (hA _ _) (slc_one (heap_alloc2_new _ _ _))).mono ?_; rintro e w' ⟨rfl, rfl⟩) | (at_lookup; refine wpList_lookup_ok_is rfl 166 rfl keyEnc_string Tryz.underlying166 Tryz.underlying9 (zeroFile _) n rfl rfl (hA _ _).map _ _ (getV n) ((isV n).trans hi) ?_))
    refine bodyPost_ret (v := .tuple #[File.zero.val, .int .i64 8]) (by simp [results, Tryz.results151, go_sem, File.zero, File.val]) rfl ⟨rfl, ?_⟩
    exact (((Only.refl [] w).alloc _).alloc _).alloc _
  · have hf : d.find n = (d.get n, 0) := by simp [DS.find, hm, hi]
    rw [hf]
    clear hf hm
    go_enter Tryz.func151, Tryz.ntmps151
    go_wp2_with (first | (go_at_call 175; refine (may_any (l := [n]) (hA _ _) (slc_one (heap_alloc2_new _ _ _))).mono ?_; rintro e w' ⟨rfl, rfl⟩) | (at_lookup; refine wpList_lookup_ok_is rfl 166 rfl keyEnc_string Tryz.underlying166 Tryz.underlying9 (zeroFile _) n rfl rfl (hA _ _).map _ _ (getV n) ((isV n).trans hi) ?_))
    refine bodyPost_ret (v := .tuple #[(d.get n).val, .int .i64 0]) (by simp [results, Tryz.results151, go_sem, File.val]) rfl ⟨rfl, ?_⟩
    exact (((Only.refl [] w).alloc _).alloc _).alloc _
end Go.Proofs.YteinoiicnmemhaaGreatDoor.J
/- Contracts: Used, full. -/
namespace Go.Proofs.YteinoiicnmemhaaGreatDoor.J
open Go.RowKit

def fvals (l : List (ByteArray × File)) : List (ByteArray × Value) := l.map fun p => (p.1, p.2.val)
end Go.Proofs.YteinoiicnmemhaaGreatDoor.J
/- Contract: full. -/
namespace Go.Proofs.YteinoiicnmemhaaGreatDoor.J
open Go.RowKit Go.Sort

theorem DiskAt.drew {w : World} {db mb : Nat} {d : DS} {kv : Value} (h : DiskAt w db mb d kv) : DiskAt w.drew db mb d kv := h.only ((Only.refl [] w).drew) (by simp) (by simp) (by simp)
theorem DiskAt.only0 {w w' : World} {db mb : Nat} {d : DS} {kv : Value} (h : DiskAt w db mb d kv) (k : Only [] w w') : DiskAt w' db mb d kv := h.only k (by simp) (by simp) (by simp)
end Go.Proofs.YteinoiicnmemhaaGreatDoor.J
/- The sorted keys of a map with texts as keys: slices.Sorted(maps.Keys(m)); names. -/
namespace Go.Proofs.YteinoiicnmemhaaGreatDoor.J
open Go.RowKit Go.MapKept Go.Maps Go.WideMaps
open Go.WideElems (Fit rd rg pl rd_mk rg_of)

/-- How an element reads where nobody looks at it. -/
def blind (_ : Value) : Option (DataW Unit × List MemPlace) := some (.nil, [])
theorem MapIs.owns {P : Program} {k : TypeId} (hk : P.underlying k = some .string) {w : World} {b : Nat} {kv : List (ByteArray × Value)} (h : MapIs Value.string w b kv) (hn : kv.length ≤ maxLen) (hs : ∀ p ∈ kv, p.1.size ≤ maxLen) :
    ∃ D0 : DataW Unit, w.ownsMap P k blind b kv.length D0 ∧ (strKeys D0).Perm (kv.map fun p => p.1.data.toList) ∧ Maps.size D0 = kv.length := by
  obtain ⟨es, clock, hb, hst, hm⟩ := h
  have hl : es.size = kv.length := by have := congrArg List.length hm; simpa using this
  have hx : ∀ x ∈ es.toList, ∃ s : ByteArray, x.key = .string s ∧ s.size ≤ maxLen := by
    intro x hx
    have : (x.key, x.val) ∈ kv.map (fun p => (Value.string p.1, p.2)) := by rw [← hm]; exact List.mem_map.2 ⟨x, hx, rfl⟩
    obtain ⟨p, hp, e⟩ := List.mem_map.1 this
    simp only [Prod.mk.injEq] at e
    exact ⟨p.1, e.1.symm, hs p hp⟩
  have hr : ∀ x ∈ es.toList, ∀ s, x.key = .string s → s.size ≤ maxLen → rg P k blind x = (.string s.data.toList, .nil) := by
    intro x _ s e h1
    have h2 := rd_mk (R := blind) (val := x.val) (born := x.born) (keyOf_string_mk hk h1) (rfl : blind x.val = some (.nil, []))
    rw [← e] at h2
    exact rg_of h2
  refine ⟨_, ⟨es, clock, hb, ⟨by omega, hst, ?_⟩, by omega, rfl⟩, ?_, ?_⟩
  · intro x hx'
    obtain ⟨s, e, h1⟩ := hx x hx'
    refine ⟨(.string s.data.toList, .nil), ?_⟩
    have h2 := rd_mk (R := blind) (val := x.val) (born := x.born) (keyOf_string_mk hk h1) (rfl : blind x.val = some (.nil, []))
    rw [← e] at h2
    exact h2
  · refine ((WideShapes.sorted_perm _).map _).trans ?_
    have e1 : (es.toList.map (rg P k blind)).map (fun p => strOf p.1) = kv.map fun p => p.1.data.toList := by
      apply List.ext_getElem?
      intro i
      have hi := congrArg (fun l => l[i]?) hm
      simp only [List.getElem?_map] at hi ⊢
      cases h1 : es.toList[i]? with
      | none =>
        rw [h1] at hi
        cases h2 : kv[i]? with
        | none => rfl
        | some p => rw [h2] at hi; simp at hi
      | some x =>
        rw [h1] at hi
        cases h2 : kv[i]? with
        | none => rw [h2] at hi; simp at hi
        | some p =>
          rw [h2] at hi
          simp only [Option.map_some, Option.some.injEq, Prod.mk.injEq] at hi
          have hp : p.1.size ≤ maxLen := hs p (List.mem_of_getElem? h2)
          have := hr x (List.mem_of_getElem? h1) p.1 hi.1 hp
          simp [this, strOf]
    rw [e1]
  · show (List.foldr DataW.insert [] (es.toList.map (rg P k blind))).length = _
    rw [(WideShapes.sorted_perm _).length_eq]
    simp [hl]

theorem strs_sorted (l : List (List UInt8)) : (l.map encStr) = strs (l.map fun x => ⟨x.toArray⟩) := by
  simp [strs, encStr]

theorem names_own {w : World} {db mb : Nat} {d : DS} {kv : Value} {M : Nat} (h : DiskAt w db mb d kv) (hk : Fs d.fs M) :
    Calls Tryz.prog 180 #[.pointer (some ⟨db, 0, none⟩)] w fun e w' => ∃ v base, e = .returned v ∧ w'.ownsRow base 9 1 v d.names.length (strs d.names) ∧ w.heap.size ≤ base ∧ Only [] w w' := by
  have c2 : w.cell? ⟨db, 2, none⟩ = some (.map (some mb)) := h.blk.cell 2
  have hlen : (d.fs.map fun p => (p.1, p.2.val)).length = d.fs.length := by simp
  have hf := hk.few
  obtain ⟨D0, hown, hperm, hsz⟩ := MapIs.owns (P := Tryz.prog) (k := 9) Tryz.underlying9 h.map (by rw [hlen]; unfold maxLen; omega) (by
    intro p hp
    obtain ⟨q, hq, rfl⟩ := List.mem_map.1 hp
    have := hk.short q hq
    unfold maxLen
    show q.1.size ≤ _
    omega)
  have hc := fun W => callsIn_wide.1 (Tryz.maps_Keys_204 (some mb) W)
  have hs := callsIn_wide.1 (Tryz.slices_Sorted_keys_203_204 mb _ D0 blind w hown (by rw [hsz, hlen]; unfold maxLen; omega) (by rw [hsz, hlen]; omega))
  have HS := Lib.hid hs
  have HC := Lib.hid hc
  clear hs hc
  go_enter Tryz.func180, Tryz.ntmps180
  go_wp2_with (first | (go_at_call 204; refine (HC.out _).mono ?_; rintro e w' ⟨rfl, rfl⟩) | (go_at_call 203; refine (HS.out).mono ?_; rintro e w' ⟨v, ss, rfl, hS, hrow, hnil, hb⟩))
  go_ret
  have e1 : ss.mergeSort (fun x y => decide (x ≤ y)) = (d.fs.map fun p => p.1.data.toList).mergeSort (fun x y => decide (x ≤ y)) := by
    refine mergeSort_of_perm ((hS.trans hperm).trans ?_)
    rw [List.map_map]
    exact List.Perm.refl _
  have e2 : (ss.mergeSort (fun x y => decide (x ≤ y))).map encStr = strs d.names := by
    rw [strs_sorted, e1]
    rfl
  have e3 : ss.length = d.names.length := by
    have := congrArg List.length e2
    simpa [strs] using this
  rw [e2, e3] at hrow
  exact ⟨v, _, rfl, hrow, by simp, ((Only.refl [] w).alloc _).below hb (Nat.le_refl _)⟩
theorem names_any {w : World} {db mb : Nat} {d : DS} {kv : Value} {M : Nat} (h : DiskAt w db mb d kv) (hk : Fs d.fs M) :
    Calls Tryz.prog 180 #[.pointer (some ⟨db, 0, none⟩)] w fun e w' => ∃ v, e = .returned v ∧ Slc w' 1 v d.names.length (strs d.names) ∧ (∀ g, v.ownBlock = some g → w.heap.size ≤ g) ∧ Only [] w w' := by
  refine (names_own h hk).mono fun e w' ⟨v, base, he, hrow, hb, ho⟩ => ⟨v, he, (Slc.of_own hrow).1, fun g hg => ?_, ho⟩
  have := ((Slc.of_own hrow).2 g hg).1
  omega
end Go.Proofs.YteinoiicnmemhaaGreatDoor.J
/- Contract: Crash. -/
namespace Go.Proofs.YteinoiicnmemhaaGreatDoor.J
open Go.RowKit Go.Sort

theorem getV' (fs : Files) (n : ByteArray) : (aget (fs.map fun p => (p.1, p.2.val)) n).getD File.zero.val = .agg #[.string ((aget fs n).getD File.zero).b, .int .i64 ((aget fs n).getD File.zero).lasts, .bool ((aget fs n).getD File.zero).known] := by
  rw [aget_map]
  cases aget fs n <;> rfl

theorem DiskAt.files {w w' : World} {db mb : Nat} {d : DS} {kv : Value} (h : DiskAt w db mb d kv) (ho : Only [mb] w w') (fs' : Files) (hm : MapIs Value.string w' mb (fs'.map fun p => (p.1, p.2.val))) : DiskAt w' db mb { d with fs := fs' } kv :=
  ⟨ho.blk h.blk (by simp; exact fun e => h.ne e.symm), hm, h.slc.only ho (fun g hg => by simp [(h.apart g hg).2]), h.apart, h.left, h.room, fun g hg => Nat.lt_of_lt_of_le (h.old g hg) ho.size⟩
theorem crashAll_drop (fs : Files) (l : List ByteArray) (ks : List Int) (j : Nat) (h : j < l.length) : DS.crashAll fs (l.drop j) (ks.drop j) = DS.crashAll (DS.crashOne fs l[j] (max ((ks.drop j).headD 0) 0)) (l.drop (j + 1)) (ks.drop (j + 1)) := by
  rw [List.drop_eq_getElem_cons h]
  show DS.crashAll _ _ (ks.drop j).tail = _
  rw [List.tail_drop]
theorem lostAll_drop (fs : Files) (l : List ByteArray) (ks : List Int) (j : Nat) (h : j < l.length) : DS.lostAll fs (l.drop j) (ks.drop j) = (((aget fs l[j]).getD File.zero).b.size - (DS.crashFile ((aget fs l[j]).getD File.zero) (max ((ks.drop j).headD 0) 0)).lasts) + DS.lostAll (DS.crashOne fs l[j] (max ((ks.drop j).headD 0) 0)) (l.drop (j + 1)) (ks.drop (j + 1)) := by
  rw [List.drop_eq_getElem_cons h]
  show _ + DS.lostAll _ _ (ks.drop j).tail = _
  rw [List.tail_drop]

theorem crash_off {w : World} {db mb : Nat} {d : DS} {kv v : Value} (h : DiskAt w db mb d kv) (ho : d.on = false) :
    Calls Tryz.prog 177 #[.pointer (some ⟨db, 0, none⟩), v] w fun e w' => e = .returned (.int .i64 0) ∧ w = w' := by
  have c0 : w.cell? ⟨db, 0, none⟩ = some (.bool d.on) := h.blk.cell 0
  rw [ho] at c0
  go_enter Tryz.func177, Tryz.ntmps177
  go_wp2
  go_ret
  exact ⟨rfl, rfl⟩
set_option maxHeartbeats 1000000 in
set_option maxRecDepth 100000 in
theorem crash_on {w : World} {db mb : Nat} {d : DS} {kv v : Value} {keep : List Int} {M : Nat} (h : DiskAt w db mb d kv) (ho : d.on = true) (hk : Fs d.fs M) (hM : M ≤ 1125899906842624)
    (hs : Slc w 1 v keep.length (ints keep)) (hap : ∀ g, v.ownBlock = some g → (g ≠ db ∧ g ≠ mb) ∨ keep = []) :
    Calls Tryz.prog 177 #[.pointer (some ⟨db, 0, none⟩), v] w fun e w' => e = .returned (.int .i64 (DS.lostAll d.fs d.names keep)) ∧ (∃ kv', DiskAt w' db mb (d.crash keep) kv' ∧ (∀ g, kv'.ownBlock = some g → w.heap.size ≤ g)) ∧ Only [db, mb] w w' := by
  have c0 : w.cell? ⟨db, 0, none⟩ = some (.bool d.on) := h.blk.cell 0
  rw [ho] at c0
  have hf0 : FOk M d.fs := hk.fok
  obtain ⟨A1, cap1, rfl, hnc1, hcm1, hl1, hc1⟩ := hs.cell
  go_enter Tryz.func177, Tryz.ntmps177
  go_wp2_with (first | (go_at_call 201; refine (arm_any h (n := -1) (by omega) (Slc.nil _ _) (zs := []) (by simp)).mono ?_; rintro e w1 ⟨rfl, kv1, h1, hf1, ho1⟩) | (go_at_call 180; refine (names_any h1 (M := M) hk).mono ?_; rintro e w2 ⟨v2, rfl, hs2, hf2, ho2⟩; obtain ⟨A2, cap2, hv2, hnc2, hcm2, hl2, hc2⟩ := (show Slc w2 1 v2 d.names.length (strs d.names) from hs2).cell; rw [hv2]))
  have hnl : d.names.length ≤ 200 := by have := hk.few; simpa [DS.names] using this
  have hN : (d.arm (-1) []).names = d.names := rfl
  go_loopw [5, 23] (fun l i wr => ∃ (j : Nat) (lost : Int) (fs : Files), j ≤ d.names.length ∧ i = .int .i64 j ∧ l = .int .i64 lost ∧ 0 ≤ lost ∧ lost ≤ j * M ∧
      Hid (DS.lostAll d.fs d.names keep = lost + DS.lostAll fs (d.names.drop j) (keep.drop j)) ∧ Hid (DS.crashAll d.fs d.names keep = DS.crashAll fs (d.names.drop j) (keep.drop j)) ∧
      FOk M fs ∧ DiskAt wr db mb { d.arm (-1) [] with fs := fs } kv1 ∧ Only [db, mb] w2 wr) (fun _ i _ => d.names.length - (intOf i).toNat)
  case atStart => exact ⟨0, 0, d.fs, Nat.zero_le _, rfl, rfl, by omega, by simp, by unfold Hid; simp, by unfold Hid; simp, hf0, h1.only0 ho2, Only.refl _ _⟩
  case round =>
    obtain ⟨j, lost, fs, hj, rfl, rfl, hl0, hlM, hL, hC, hF, hD, hO⟩ := hrel
    by_cases hlt : j < d.names.length
    case neg =>
      have hjn : j = d.names.length := by omega
      have hl2' : Hid (DS.lostAll d.fs d.names keep = lost) := by have := hL.out; rw [hjn, List.drop_length] at this; unfold Hid; rw [this]; simp [DS.lostAll]
      have hc2' : Hid (DS.crashAll d.fs d.names keep = fs) := by have := hC.out; rw [hjn, List.drop_length] at this; unfold Hid; rw [this]; rfl
      have hW : Only [db, mb] w wr := ((ho1.mono (by simp)).trans (ho2.of_nil)).trans hO
      have f0 : wr.frozen? ⟨db, 0, none⟩ = false := hD.blk.free 0
      have e0 : wr.cell? ⟨db, 0, none⟩ = some (.bool (d.arm (-1) []).on) := hD.blk.cell 0
      clear hjn
      go_wp2
      go_ret
      have hO' : Only [db] wr (wr.setCell ⟨db, 0, none⟩ (.bool false)) := (Only.refl _ wr).setCell (.inl (by simp)) _
      refine ⟨?_, ⟨kv1, ?_, hf1⟩, hW.trans (hO'.mono (by simp))⟩
      · rw [hl2'.out]; rfl
      · have hcr : d.crash keep = { ({ d.arm (-1) [] with fs := fs } : DS) with on := false } := by
          unfold DS.crash
          rw [ho, if_pos rfl, hc2'.out]
          simp [DS.arm]
        rw [hcr]
        refine ⟨hD.blk.set 0 _, hD.map.only hO' (by simp; exact hD.ne), hD.slc.only hO' (fun g hg => by simp [(hD.apart g hg).1]), hD.apart, hD.left, hD.room, fun g hg => Nat.lt_of_lt_of_le (hD.old g hg) hO'.size⟩
    have d2 : wr.cell? ⟨db, 2, none⟩ = some (.map (some mb)) := hD.blk.cell 2
    obtain ⟨b2, off2, hA2, hb2, hc2'⟩ : ∃ b off, A2 = some ⟨b, off, none⟩ ∧ b < w2.heap.size ∧ ∀ j, j < (strs d.names).length → w2.cell? ⟨b, off + j, none⟩ = (strs d.names)[j]? := by
      rcases hc2 with h0 | h0
      · omega
      · exact h0
    subst hA2
    obtain ⟨s, hse⟩ : ∃ s, s = d.names[j] := ⟨_, rfl⟩
    have cs : wr.cell? ⟨b2, off2 + j, none⟩ = some (.string s) := by
      have hg := hf2 b2 (by rw [hv2]; rfl)
      rw [hO.cell hb2 (by have := h1.blk.lt; have := h1.map.lt; simp; omega), hc2' j (by simpa [strs] using hlt), hse]
      simp [strs, hlt]
    have hse' := Lib.hid hse
    clear hse
    obtain ⟨f, hfe⟩ : ∃ f, f = (aget fs s).getD File.zero := ⟨_, rfl⟩
    obtain ⟨hq1, hq2, hq3⟩ := hF.get s
    rw [← hfe] at hq1 hq2 hq3
    have hgv := getV' fs s
    rw [← hfe] at hgv
    have HG := Lib.hid hgv
    have HF := Lib.hid hfe
    clear hgv hfe
    obtain ⟨kk, hkk⟩ : ∃ kk, kk = max ((keep.drop j).headD 0) 0 := ⟨_, rfl⟩
    have hkk0 : 0 ≤ kk := by omega
    have hlb : lost ≤ 225179981368524800 := by
      have : (j : Int) * M ≤ 200 * 1125899906842624 := Int.mul_le_mul (by omega) (by omega) (by omega) (by omega)
      omega
    have hW : Only [db, mb] w wr := ((ho1.mono (by simp)).trans (ho2.of_nil)).trans hO
    obtain ⟨n, hn⟩ : ∃ n, n = f.lasts + min kk (f.b.size - f.lasts) := ⟨_, rfl⟩
    have hn1 : 0 ≤ n := by omega
    have hn2 : n ≤ f.b.size := by omega
    have hns : (f.b.extract 0 n.toNat).size = n.toNat := by simp; omega
    have g2 : ∀ o e os, (grow (redrawn (wr.alloc o).drew e) os).cell? ⟨db, 2, none⟩ = some (.map (some mb)) := fun o e os => cell_regrown ((World.cell?_alloc_lt wr o _ (block_lt_of_cell d2)).trans d2) e os
    have b0 : ∀ x y z t e os, (grow (redrawn (wr.alloc (.cells #[x, y, z] t)).drew e) os).cell? ⟨wr.heap.size, 0, none⟩ = some x := fun x y z t e os => cell_regrown (Blk.cell (Blk.new wr t #[x, y, z]) 0) e os
    have b1' : ∀ x y z t e os, (grow (redrawn (wr.alloc (.cells #[x, y, z] t)).drew e) os).cell? ⟨wr.heap.size, 1, none⟩ = some y := fun x y z t e os => cell_regrown (Blk.cell (Blk.new wr t #[x, y, z]) 1) e os
    have b2' : ∀ x y z t e os, (grow (redrawn (wr.alloc (.cells #[x, y, z] t)).drew e) os).cell? ⟨wr.heap.size, 2, none⟩ = some z := fun x y z t e os => cell_regrown (Blk.cell (Blk.new wr t #[x, y, z]) 2) e os
    have hMW : ∀ o e os, MapIs Value.string (grow (redrawn (wr.alloc o).drew e) os) mb (fvals fs) := fun o e os => hD.map.only (((Only.refl [] wr).alloc o).drew.trans (Only.regrown [] _ e os)) (by simp)
    have hOW : ∀ o e os, Only [mb] wr (grow (redrawn (wr.alloc o).drew e) os) := fun o e os => ((Only.refl [mb] wr).alloc o).drew.trans (Only.regrown [mb] _ e os)
    have hbW : ∀ x y z t e os, Blk (grow (redrawn (wr.alloc (.cells #[x, y, z] t)).drew e) os) wr.heap.size t #[x, y, z] := fun x y z t e os => (Only.regrown [] (wr.alloc (.cells #[x, y, z] t)) e os).blk (Blk.new wr t #[x, y, z]) (by simp)
    have hmw : wr.heap.size ∉ [mb] := by have := hD.map.lt; simp; omega
    have hjM : Hid (((j + 1 : Nat) : Int) * M = j * M + M) := by unfold Hid; rw [Int.natCast_add, Int.add_mul]; simp
    have hcf : DS.crashFile f kk = ⟨f.b.extract 0 n.toNat, n, f.known || decide (0 < n)⟩ := by simp [DS.crashFile, hn]
    have hc1' : DS.crashOne fs s kk = if (f.known || decide (0 < n)) = true then aput fs s ⟨f.b.extract 0 n.toNat, n, f.known || decide (0 < n)⟩ else adel (aput fs s ⟨f.b.extract 0 n.toNat, n, f.known || decide (0 < n)⟩) s := by
      simp only [DS.crashOne, ← HF.out, hcf]
    have hs1 : Hid (DS.lostAll d.fs d.names keep = lost + (f.b.size - n) + DS.lostAll (DS.crashOne fs s kk) (d.names.drop (j + 1)) (keep.drop (j + 1))) := by
      have e := lostAll_drop fs d.names keep j hlt
      rw [← hse'.out, ← hkk, ← HF.out, hcf] at e
      unfold Hid
      rw [hL.out, e]
      simp only []
      omega
    have hs2' : Hid (DS.crashAll d.fs d.names keep = DS.crashAll (DS.crashOne fs s kk) (d.names.drop (j + 1)) (keep.drop (j + 1))) := by
      have e := crashAll_drop fs d.names keep j hlt
      rw [← hse'.out, ← hkk] at e
      unfold Hid
      rw [hC.out, e]
    have hF' : FOk M (DS.crashOne fs s kk) := by
      have h3 : FOk M (aput fs s ⟨f.b.extract 0 n.toNat, n, f.known || decide (0 < n)⟩) := hF.put _ _ ⟨hn1, by show n ≤ ((f.b.extract 0 n.toNat).size : Int); rw [hns]; omega, by show (f.b.extract 0 n.toNat).size ≤ M; rw [hns]; omega⟩
      rw [hc1']
      split
      · exact h3
      · exact h3.del _
    have HN := Lib.hid hn
    have HC1 := Lib.hid hc1'
    clear hn hcf hc1' hns
    by_cases hjk : j < keep.length
    · obtain ⟨b1, off1, rfl, hb1, hcc1⟩ : ∃ b off, A1 = some ⟨b, off, none⟩ ∧ b < w.heap.size ∧ ∀ j, j < (ints keep).length → w.cell? ⟨b, off + j, none⟩ = (ints keep)[j]? := by
        rcases hc1 with h0 | h0
        · omega
        · exact h0
      obtain ⟨z, hz⟩ : ∃ z, z = keep[j] := ⟨_, rfl⟩
      have ck : wr.cell? ⟨b1, off1 + j, none⟩ = some (.int .i64 z) := by
        have hg := (hap b1 rfl).resolve_right (by intro q; rw [q] at hjk; simp at hjk)
        rw [hW.cell hb1 (by simp; exact hg), hcc1 j (by simpa [ints] using hjk), hz]
        simp [ints, hjk]
      have ck1 : ∀ o1, (wr.alloc o1).cell? ⟨b1, off1 + j, none⟩ = some (.int .i64 z) := fun o1 => (World.cell?_alloc_lt wr o1 _ (block_lt_of_cell ck)).trans ck
      have hkz : max z 0 = kk := by rw [hkk, hz, List.headD_eq_head?_getD, List.head?_drop]; simp [hjk]
      have HK := Lib.hid hkz
      have HKK := Lib.hid hkk
      clear hz hkz hkk
      go_wp2_with (at_lookup; refine wpList_lookup_is rfl 166 rfl keyEnc_string Tryz.underlying166 Tryz.underlying9 (zeroFile _) s rfl rfl hD.map _ HG.out ?_)
      rw [HK.out, ← HN.out]
      cases hkn : f.known
      · by_cases h0n : 0 < n
        · have HB : Hid ((f.known || decide (0 < n)) = true) := by unfold Hid; simp [hkn, h0n]
          go_region
          go_wp2
          refine wp_region_btail 6 (by kernel_rfl) (by kernel_rfl) ?_
          simp only [List.take_succ_cons, List.take_zero]
          repeat (go_big_quiet_step (fail))
          refine wpQuiet_nil ?_
          rintro _ ⟨p, rfl⟩
          simp only [List.drop_succ_cons, List.drop_zero]
          refine wpList_update_is rfl 166 rfl keyEnc_string Tryz.underlying166 Tryz.underlying9 s (.agg #[.string (f.b.extract 0 n.toNat), .int .i64 n, .bool true]) rfl rfl rfl (hMW _ p.d p.os) ?_
          intro w5 hm5 hu5
          have hO5 := (hOW _ p.d p.os).trans hu5
          have hb5 := hu5.blk (hbW _ _ _ _ p.d p.os) hmw
          have k5 := hb5.cell 2
          have d5 : w5.cell? ⟨db, 2, none⟩ = some (.map (some mb)) := (hO5.cell (block_lt_of_cell d2) (by simp; exact fun q => h.ne q.symm)).trans d2
          clear hu5
          go_wp2
          have HE : DS.crashOne fs s kk = aput fs s ⟨f.b.extract 0 n.toNat, n, true⟩ := by rw [HC1.out, HB.out, if_pos rfl]
          have HD := hD.files hO5 (DS.crashOne fs s kk) (by rw [HE, aput_map]; exact hm5)
          have HO := hO.trans (hO5.mono (S' := [db, mb]) (by simp))
          clear HE
          go_roundw
          case rel => exact ⟨j + 1, _, _, by omega, by go_num, rfl, by omega, by rw [hjM.out]; omega, hs1, hs2', hF', HD, HO⟩
          case measure => simp [intOf]; omega
        · have HB : Hid ((f.known || decide (0 < n)) = false) := by unfold Hid; rw [hkn]; simp; omega
          go_region
          go_wp2
          refine wp_region_btail 6 (by kernel_rfl) (by kernel_rfl) ?_
          simp only [List.take_succ_cons, List.take_zero]
          repeat (go_big_quiet_step (fail))
          refine wpQuiet_nil ?_
          rintro _ ⟨p, rfl⟩
          simp only [List.drop_succ_cons, List.drop_zero]
          refine wpList_update_is rfl 166 rfl keyEnc_string Tryz.underlying166 Tryz.underlying9 s (.agg #[.string (f.b.extract 0 n.toNat), .int .i64 n, .bool false]) rfl rfl rfl (hMW _ p.d p.os) ?_
          intro w5 hm5 hu5
          have hO5 := (hOW _ p.d p.os).trans hu5
          have hb5 := hu5.blk (hbW _ _ _ _ p.d p.os) hmw
          have k5 := hb5.cell 2
          have d5 : w5.cell? ⟨db, 2, none⟩ = some (.map (some mb)) := (hO5.cell (block_lt_of_cell d2) (by simp; exact fun q => h.ne q.symm)).trans d2
          clear hu5
          go_wp2_with (at_delete; refine wpList_delete_is rfl 166 9 rfl keyEnc_string Tryz.underlying166 Tryz.underlying9 s rfl rfl hm5 ?_; intro w6 hm6 hu6)
          have HE : DS.crashOne fs s kk = adel (aput fs s ⟨f.b.extract 0 n.toNat, n, false⟩) s := by rw [HC1.out, HB.out, if_neg Bool.false_ne_true]
          have HD := hD.files (hO5.trans hu6) (DS.crashOne fs s kk) (by rw [HE, adel_map, aput_map]; exact hm6)
          have HO := hO.trans ((hO5.trans hu6).mono (S' := [db, mb]) (by simp))
          clear HE
          go_roundw
          case rel => exact ⟨j + 1, _, _, by omega, by go_num, rfl, by omega, by rw [hjM.out]; omega, hs1, hs2', hF', HD, HO⟩
          case measure => simp [intOf]; omega
      · have HB : Hid ((f.known || decide (0 < n)) = true) := by unfold Hid; simp [hkn]
        go_region
        go_wp2
        refine wp_region_btail 6 (by kernel_rfl) (by kernel_rfl) ?_
        simp only [List.take_succ_cons, List.take_zero]
        repeat (go_big_quiet_step (fail))
        refine wpQuiet_nil ?_
        rintro _ ⟨p, rfl⟩
        simp only [List.drop_succ_cons, List.drop_zero]
        refine wpList_update_is rfl 166 rfl keyEnc_string Tryz.underlying166 Tryz.underlying9 s (.agg #[.string (f.b.extract 0 n.toNat), .int .i64 n, .bool true]) rfl rfl rfl (hMW _ p.d p.os) ?_
        intro w5 hm5 hu5
        have hO5 := (hOW _ p.d p.os).trans hu5
        have hb5 := hu5.blk (hbW _ _ _ _ p.d p.os) hmw
        have k5 := hb5.cell 2
        have d5 : w5.cell? ⟨db, 2, none⟩ = some (.map (some mb)) := (hO5.cell (block_lt_of_cell d2) (by simp; exact fun q => h.ne q.symm)).trans d2
        clear hu5
        go_wp2
        have HE : DS.crashOne fs s kk = aput fs s ⟨f.b.extract 0 n.toNat, n, true⟩ := by rw [HC1.out, HB.out, if_pos rfl]
        have HD := hD.files hO5 (DS.crashOne fs s kk) (by rw [HE, aput_map]; exact hm5)
        have HO := hO.trans (hO5.mono (S' := [db, mb]) (by simp))
        clear HE
        go_roundw
        case rel => exact ⟨j + 1, _, _, by omega, by go_num, rfl, by omega, by rw [hjM.out]; omega, hs1, hs2', hF', HD, HO⟩
        case measure => simp [intOf]; omega
    · have hkz : kk = 0 := by rw [hkk, List.headD_eq_head?_getD, List.head?_drop]; simp [hjk]
      have HK := Lib.hid hkz
      have HKK := Lib.hid hkk
      clear hkz hkk
      go_wp2_with (at_lookup; refine wpList_lookup_is rfl 166 rfl keyEnc_string Tryz.underlying166 Tryz.underlying9 (zeroFile _) s rfl rfl hD.map _ HG.out ?_)
      rw [show min 0 ((f.b.size : Int) - f.lasts) = min kk ((f.b.size : Int) - f.lasts) from by rw [HK.out], ← HN.out]
      cases hkn : f.known
      · by_cases h0n : 0 < n
        · have HB : Hid ((f.known || decide (0 < n)) = true) := by unfold Hid; simp [hkn, h0n]
          go_region
          go_wp2
          refine wp_region_btail 6 (by kernel_rfl) (by kernel_rfl) ?_
          simp only [List.take_succ_cons, List.take_zero]
          repeat (go_big_quiet_step (fail))
          refine wpQuiet_nil ?_
          rintro _ ⟨p, rfl⟩
          simp only [List.drop_succ_cons, List.drop_zero]
          refine wpList_update_is rfl 166 rfl keyEnc_string Tryz.underlying166 Tryz.underlying9 s (.agg #[.string (f.b.extract 0 n.toNat), .int .i64 n, .bool true]) rfl rfl rfl (hMW _ p.d p.os) ?_
          intro w5 hm5 hu5
          have hO5 := (hOW _ p.d p.os).trans hu5
          have hb5 := hu5.blk (hbW _ _ _ _ p.d p.os) hmw
          have k5 := hb5.cell 2
          have d5 : w5.cell? ⟨db, 2, none⟩ = some (.map (some mb)) := (hO5.cell (block_lt_of_cell d2) (by simp; exact fun q => h.ne q.symm)).trans d2
          clear hu5
          go_wp2
          have HE : DS.crashOne fs s kk = aput fs s ⟨f.b.extract 0 n.toNat, n, true⟩ := by rw [HC1.out, HB.out, if_pos rfl]
          have HD := hD.files hO5 (DS.crashOne fs s kk) (by rw [HE, aput_map]; exact hm5)
          have HO := hO.trans (hO5.mono (S' := [db, mb]) (by simp))
          clear HE
          go_roundw
          case rel => exact ⟨j + 1, _, _, by omega, by go_num, rfl, by omega, by rw [hjM.out]; omega, hs1, hs2', hF', HD, HO⟩
          case measure => simp [intOf]; omega
        · have HB : Hid ((f.known || decide (0 < n)) = false) := by unfold Hid; rw [hkn]; simp; omega
          go_region
          go_wp2
          refine wp_region_btail 6 (by kernel_rfl) (by kernel_rfl) ?_
          simp only [List.take_succ_cons, List.take_zero]
          repeat (go_big_quiet_step (fail))
          refine wpQuiet_nil ?_
          rintro _ ⟨p, rfl⟩
          simp only [List.drop_succ_cons, List.drop_zero]
          refine wpList_update_is rfl 166 rfl keyEnc_string Tryz.underlying166 Tryz.underlying9 s (.agg #[.string (f.b.extract 0 n.toNat), .int .i64 n, .bool false]) rfl rfl rfl (hMW _ p.d p.os) ?_
          intro w5 hm5 hu5
          have hO5 := (hOW _ p.d p.os).trans hu5
          have hb5 := hu5.blk (hbW _ _ _ _ p.d p.os) hmw
          have k5 := hb5.cell 2
          have d5 : w5.cell? ⟨db, 2, none⟩ = some (.map (some mb)) := (hO5.cell (block_lt_of_cell d2) (by simp; exact fun q => h.ne q.symm)).trans d2
          clear hu5
          go_wp2_with (at_delete; refine wpList_delete_is rfl 166 9 rfl keyEnc_string Tryz.underlying166 Tryz.underlying9 s rfl rfl hm5 ?_; intro w6 hm6 hu6)
          have HE : DS.crashOne fs s kk = adel (aput fs s ⟨f.b.extract 0 n.toNat, n, false⟩) s := by rw [HC1.out, HB.out, if_neg Bool.false_ne_true]
          have HD := hD.files (hO5.trans hu6) (DS.crashOne fs s kk) (by rw [HE, adel_map, aput_map]; exact hm6)
          have HO := hO.trans ((hO5.trans hu6).mono (S' := [db, mb]) (by simp))
          clear HE
          go_roundw
          case rel => exact ⟨j + 1, _, _, by omega, by go_num, rfl, by omega, by rw [hjM.out]; omega, hs1, hs2', hF', HD, HO⟩
          case measure => simp [intOf]; omega
      · have HB : Hid ((f.known || decide (0 < n)) = true) := by unfold Hid; simp [hkn]
        go_region
        go_wp2
        refine wp_region_btail 6 (by kernel_rfl) (by kernel_rfl) ?_
        simp only [List.take_succ_cons, List.take_zero]
        repeat (go_big_quiet_step (fail))
        refine wpQuiet_nil ?_
        rintro _ ⟨p, rfl⟩
        simp only [List.drop_succ_cons, List.drop_zero]
        refine wpList_update_is rfl 166 rfl keyEnc_string Tryz.underlying166 Tryz.underlying9 s (.agg #[.string (f.b.extract 0 n.toNat), .int .i64 n, .bool true]) rfl rfl rfl (hMW _ p.d p.os) ?_
        intro w5 hm5 hu5
        have hO5 := (hOW _ p.d p.os).trans hu5
        have hb5 := hu5.blk (hbW _ _ _ _ p.d p.os) hmw
        have k5 := hb5.cell 2
        have d5 : w5.cell? ⟨db, 2, none⟩ = some (.map (some mb)) := (hO5.cell (block_lt_of_cell d2) (by simp; exact fun q => h.ne q.symm)).trans d2
        clear hu5
        go_wp2
        have HE : DS.crashOne fs s kk = aput fs s ⟨f.b.extract 0 n.toNat, n, true⟩ := by rw [HC1.out, HB.out, if_pos rfl]
        have HD := hD.files hO5 (DS.crashOne fs s kk) (by rw [HE, aput_map]; exact hm5)
        have HO := hO.trans (hO5.mono (S' := [db, mb]) (by simp))
        clear HE
        go_roundw
        case rel => exact ⟨j + 1, _, _, by omega, by go_num, rfl, by omega, by rw [hjM.out]; omega, hs1, hs2', hF', HD, HO⟩
        case measure => simp [intOf]; omega

theorem crash_any' {w : World} {db mb : Nat} {d : DS} {kv v : Value} {keep : List Int} {M : Nat} (h : DiskAt w db mb d kv) (hk : Fs d.fs M) (hM : M ≤ 1125899906842624)
    (hs : Slc w 1 v keep.length (ints keep)) (hap : ∀ g, v.ownBlock = some g → (g ≠ db ∧ g ≠ mb) ∨ keep = []) :
    Calls Tryz.prog 177 #[.pointer (some ⟨db, 0, none⟩), v] w fun e w' => e = .returned (.int .i64 (d.lost keep)) ∧ (∃ kv', DiskAt w' db mb (d.crash keep) kv' ∧ (∀ g, kv'.ownBlock = some g → kv.ownBlock = some g ∨ w.heap.size ≤ g)) ∧ Only [db, mb] w w' := by
  cases ho : d.on
  · refine (crash_off h ho).mono fun e w' ⟨h1, h2⟩ => ?_
    subst h2
    have e1 : d.crash keep = d := by simp [DS.crash, ho]
    have e2 : d.lost keep = 0 := by simp [DS.lost, ho]
    rw [e1, e2]
    exact ⟨h1, ⟨kv, h, fun g hg => .inl hg⟩, Only.refl _ _⟩
  · refine (crash_on h ho hk hM hs hap).mono fun e w' ⟨h1, ⟨kv', h2, h3⟩, h4⟩ => ?_
    have e2 : d.lost keep = DS.lostAll d.fs d.names keep := by simp [DS.lost, ho]
    rw [e2]
    exact ⟨h1, ⟨kv', h2, fun g hg => .inr (h3 g hg)⟩, h4⟩
theorem crash_any {w : World} {db mb : Nat} {d : DS} {kv v : Value} {keep : List Int} {M : Nat} (h : DiskAt w db mb d kv) (hk : Fs d.fs M) (hM : M ≤ 1125899906842624)
    (hs : Slc w 1 v keep.length (ints keep)) (hap : ∀ g, v.ownBlock = some g → g ≠ db ∧ g ≠ mb) :
    Calls Tryz.prog 177 #[.pointer (some ⟨db, 0, none⟩), v] w fun e w' => e = .returned (.int .i64 (d.lost keep)) ∧ (∃ kv', DiskAt w' db mb (d.crash keep) kv' ∧ (∀ g, kv'.ownBlock = some g → kv.ownBlock = some g ∨ w.heap.size ≤ g)) ∧ Only [db, mb] w w' :=
  crash_any' h hk hM hs fun g hg => .inl (hap g hg)
end Go.Proofs.YteinoiicnmemhaaGreatDoor.J
/- Contracts: done, Append. -/
namespace Go.Proofs.YteinoiicnmemhaaGreatDoor.J
open Go.RowKit Go.Sort

/-- From w to w' the disk in db has become d; of the slice kept for a crash: it is the one that was, or new. -/
def Leads (db mb : Nat) (w : World) (kv : Value) (w' : World) (d : DS) : Prop :=
  ∃ kv', DiskAt w' db mb d kv' ∧ (∀ g, kv'.ownBlock = some g → kv.ownBlock = some g ∨ w.heap.size ≤ g) ∧ Only [db, mb] w w'
theorem Leads.of {db mb : Nat} {w w' : World} {kv : Value} {d : DS} (h : DiskAt w' db mb d kv) (ho : Only [db, mb] w w') : Leads db mb w kv w' d := ⟨kv, h, fun _ hg => .inl hg, ho⟩
theorem Leads.step {db mb : Nat} {w w1 w' : World} {kv kv1 : Value} {d : DS} (ho : Only [db, mb] w w1) (hk : ∀ g, kv1.ownBlock = some g → kv.ownBlock = some g ∨ w.heap.size ≤ g) (h : Leads db mb w1 kv1 w' d) : Leads db mb w kv w' d := by
  obtain ⟨kv', h1, h2, h3⟩ := h
  refine ⟨kv', h1, fun g hg => ?_, ho.trans h3⟩
  rcases h2 g hg with q | q
  · exact hk g q
  · right; have := ho.size; omega

theorem done_any {w : World} {db mb : Nat} {d : DS} {kv : Value} {M : Nat} (h : DiskAt w db mb d kv) (hk : d.Ok M) (hM : M ≤ 1125899906842624) :
    Calls Tryz.prog 152 #[.pointer (some ⟨db, 0, none⟩)] w fun e w' => e = .returned (.int .i64 d.doneE) ∧ Leads db mb w kv w' d.done := by
  cases hg : d.goes
  · have e1 : d.doneE = 0 := by simp [DS.doneE, hg]
    have e2 : d.done = d.tick := by simp [DS.done, hg]
    rw [e1, e2]
    clear e1 e2
    go_enter Tryz.func152, Tryz.ntmps152
    go_wp2_with (go_at_call 176; refine (goes_any h hk.left).mono ?_; rintro e w1 ⟨rfl, h1, ho1⟩; rw [hg])
    go_ret
    exact ⟨rfl, Leads.of h1 (ho1.mono (by simp))⟩
  · have e1 : d.doneE = 14 := by simp [DS.doneE, hg]
    have e2 : d.done = d.tick.crash d.keep := by simp [DS.done, hg]
    have hF : Fs d.tick.fs M := by rw [DS.tick_fs]; exact hk.fs
    have hleft := h.left
    rw [e1, e2]
    clear e1 e2
    have hs := h.slc
    obtain ⟨A, cap, rfl, _⟩ := hs.cell
    go_enter Tryz.func152, Tryz.ntmps152
    go_wp2_with (first | (go_at_call 176; refine (goes_any h hk.left).mono ?_; rintro e w1 ⟨rfl, h1, ho1⟩; rw [hg]; have c5 : w1.cell? ⟨db, 5, none⟩ = some (.slice A d.keep.length cap) := h1.blk.cell 5) | (go_at_call 177; refine (crash_any h1 hF hM (keep := d.keep) (by have := h1.slc; rw [DS.tick_keep] at this; exact this) h1.apart).mono ?_; rintro e w2 ⟨rfl, ⟨kv2, h2, hk2⟩, ho2⟩))
    go_ret
    refine ⟨rfl, kv2, h2, fun g hg' => ?_, (ho1.mono (by simp)).trans ho2⟩
    rcases hk2 g hg' with q | q
    · exact .inl q
    · right; have := ho1.size; omega

end Go.Proofs.YteinoiicnmemhaaGreatDoor.J
/- Contracts: Sync, Truncate, Rename, Remove. -/
namespace Go.Proofs.YteinoiicnmemhaaGreatDoor.J
open Go.RowKit Go.Sort

theorem find_err {w : World} {db mb : Nat} {d : DS} {kv : Value} (h : DiskAt w db mb d kv) (n : ByteArray) (he : (d.find n).2 ≠ 0) :
    Calls Tryz.prog 151 #[.pointer (some ⟨db, 0, none⟩), .string n] w fun e w' => e = .returned (.tuple #[.agg #[.string ⟨#[]⟩, .int .i64 0, .bool false], .int .i64 (d.find n).2]) ∧ Only [] w w' := by
  have e1 : (d.find n).1 = File.zero := by
    unfold DS.find at *
    split at he
    · split at he
      · exact absurd rfl he
      · rename_i h1 h2; simp [h1, h2]
    · rename_i h1; simp [h1]
  have := find_any h n
  rw [e1] at this
  exact this
theorem find_ok {w : World} {db mb : Nat} {d : DS} {kv : Value} (h : DiskAt w db mb d kv) (n : ByteArray) (he : (d.find n).2 = 0) :
    Calls Tryz.prog 151 #[.pointer (some ⟨db, 0, none⟩), .string n] w fun e w' => e = .returned (.tuple #[.agg #[.string (d.get n).b, .int .i64 (d.get n).lasts, .bool (d.get n).known], .int .i64 0]) ∧ Only [] w w' := by
  have := find_any h n
  rw [(DS.find_is he).2.2] at this
  exact this

/-! ## Sync -/
end Go.Proofs.YteinoiicnmemhaaGreatDoor.J
/- Contracts: Remove, Rename, Truncate. -/
namespace Go.Proofs.YteinoiicnmemhaaGreatDoor.J
open Go.RowKit Go.Sort

/-! ## Remove -/
theorem remove_err {w : World} {db mb : Nat} {d : DS} {kv : Value} (h : DiskAt w db mb d kv) (n : ByteArray) (he : (d.find n).2 ≠ 0) :
    Calls Tryz.prog 154 #[.pointer (some ⟨db, 0, none⟩), .string n] w fun e w' => e = .returned (.int .i64 (d.find n).2) ∧ Leads db mb w kv w' d := by
  have hc := find_err h n he
  have HC := Lib.hid hc
  have he1 : ((d.find n).2 != 0) = true := by simp [he]
  clear hc he
  go_enter Tryz.func154, Tryz.ntmps154
  go_wp2_with (go_at_call 151; refine HC.out.mono ?_; rintro e w1 ⟨rfl, ho1⟩)
  go_ret
  exact ⟨rfl, Leads.of ((h.only0 ho1).only0 ((Only.refl [] w1).alloc _)) (ho1.of_nil.alloc _)⟩
theorem remove_down {w : World} {db mb : Nat} {d : DS} {kv : Value} {M : Nat} (h : DiskAt w db mb d kv) (hk : d.Ok M) (hM : M ≤ 1125899906842624) (n : ByteArray) (he : (d.find n).2 = 0) (hd : d.doneE ≠ 0) :
    Calls Tryz.prog 154 #[.pointer (some ⟨db, 0, none⟩), .string n] w fun e w' => e = .returned (.int .i64 d.doneE) ∧ Leads db mb w kv w' d.done := by
  have hc := find_ok h n he
  have HC := Lib.hid hc
  have he1 : (d.doneE != 0) = true := by simp [hd]
  clear hc he hd
  go_enter Tryz.func154, Tryz.ntmps154
  go_wp2_with (first | (go_at_call 151; refine HC.out.mono ?_; rintro e w1 ⟨rfl, ho1⟩) | (go_at_call 152; refine (done_any ((h.only0 ho1).only0 ((Only.refl [] w1).alloc _)) hk hM).mono ?_; rintro e w2 ⟨rfl, h2⟩))
  go_ret
  exact ⟨rfl, Leads.step (ho1.of_nil.alloc _) (fun g hg => .inl hg) h2⟩
theorem remove_go {w : World} {db mb : Nat} {d : DS} {kv : Value} {M : Nat} (h : DiskAt w db mb d kv) (hk : d.Ok M) (hM : M ≤ 1125899906842624) (n : ByteArray) (he : (d.find n).2 = 0) (hd : d.doneE = 0) :
    Calls Tryz.prog 154 #[.pointer (some ⟨db, 0, none⟩), .string n] w fun e w' => e = .returned (.int .i64 0) ∧ Leads db mb w kv w' { d.done with fs := adel d.done.fs n } := by
  have hc := find_ok h n he
  have HC := Lib.hid hc
  clear hc he
  have hgs : (d.get n).b.size ≤ M := (hk.fs.fok.get n).2.2
  have hz : ∀ W, DiskAt W db mb d kv → Calls Tryz.prog 152 #[.pointer (some ⟨db, 0, none⟩)] W fun e w' => e = .returned (.int .i64 0) ∧ Leads db mb W kv w' d.done := fun W hW => by
    have := done_any hW hk hM
    rw [hd] at this
    exact this
  have HZ := Lib.hid hz
  clear hz hd
  go_enter Tryz.func154, Tryz.ntmps154
  go_wp2_with (first | (go_at_call 151; refine HC.out.mono ?_; rintro e w1 ⟨rfl, ho1⟩; have hb1 := fun o : Obj => (Only.refl [] w1).alloc o) | (go_at_call 152; refine (HZ.out _ ((h.only0 ho1).only0 (hb1 _))).mono ?_; rintro e w2 ⟨rfl, kv2, h2, hk2, ho2⟩; have hn1 : w1.heap.size ∉ [db, mb] := (by have q1 := (h.only0 ho1).blk.lt; have q2 := (h.only0 ho1).map.lt; simp; omega); have hbx := ho2.blk (Blk.new w1 225 #[.string (d.get n).b, .int .i64 (d.get n).lasts, .bool (d.get n).known]) hn1; have k0 := hbx.cell 0; have k1 := hbx.cell 1; have k2 := hbx.cell 2; have f0 := hbx.free 0; have f1 := hbx.free 1; have f2 := hbx.free 2; have d2 : w2.cell? ⟨db, 2, none⟩ = some (.map (some mb)) := h2.blk.cell 2)| (at_delete; refine wpList_delete_is rfl 166 9 rfl keyEnc_string Tryz.underlying166 Tryz.underlying9 n rfl rfl h2.map ?_; intro w5 hm5 hu5))
  have hw2 : Only [db, mb] w w2 := (ho1.of_nil.alloc _).trans ho2
  have hn2 : db ≠ w1.heap.size ∧ mb ≠ w1.heap.size := by simp at hn1; exact ⟨fun q => hn1.1 q.symm, fun q => hn1.2 q.symm⟩
  have hk2' : ∀ g, kv2.ownBlock = some g → g ≠ w1.heap.size := by
    intro g hg
    rcases hk2 g hg with q | q
    · have := h.old g q
      have := ho1.size
      omega
    · simp at q; omega
  have hk2f : ∀ g, kv2.ownBlock = some g → kv.ownBlock = some g ∨ w.heap.size ≤ g := by
    intro g hg
    rcases hk2 g hg with q | q
    · exact .inl q
    · right; simp at q; have := ho1.size; omega
  go_ret
  exact ⟨rfl, kv2, h2.files hu5 (adel d.done.fs n) (by rw [adel_map]; exact hm5), hk2f, hw2.trans (hu5.mono (by simp))⟩
theorem remove_any {w : World} {db mb : Nat} {d : DS} {kv : Value} {M : Nat} (h : DiskAt w db mb d kv) (hk : d.Ok M) (hM : M ≤ 1125899906842624) (n : ByteArray) :
    Calls Tryz.prog 154 #[.pointer (some ⟨db, 0, none⟩), .string n] w fun e w' => e = .returned (.int .i64 (d.remove n).1) ∧ Leads db mb w kv w' (d.remove n).2 := by
  unfold DS.remove
  by_cases he : (d.find n).2 = 0
  · rw [if_neg (by simp [he])]
    by_cases hd : d.doneE = 0
    · rw [if_neg (by simp [hd])]
      exact remove_go h hk hM n he hd
    · rw [if_pos hd]
      exact remove_down h hk hM n he hd
  · rw [if_pos he]
    exact remove_err h n he
/-! ## Truncate -/
end Go.Proofs.YteinoiicnmemhaaGreatDoor.J
/- Contracts: Rename. -/
namespace Go.Proofs.YteinoiicnmemhaaGreatDoor.J
open Go.RowKit Go.Sort

end Go.Proofs.YteinoiicnmemhaaGreatDoor.J
/- Contracts: Read, Size, Restore, Room, Unsynced, New. -/
namespace Go.Proofs.YteinoiicnmemhaaGreatDoor.J
open Go.RowKit Go.Sort

theorem size_any {w : World} {db mb : Nat} {d : DS} {kv : Value} (h : DiskAt w db mb d kv) (n : ByteArray) :
    Calls Tryz.prog 125 #[.pointer (some ⟨db, 0, none⟩), .string n] w fun e w' => e = .returned (.tuple #[.int .i64 (d.size n).1, .int .i64 (d.size n).2]) ∧ Only [] w w' := by
  have hc : Calls Tryz.prog 151 #[.pointer (some ⟨db, 0, none⟩), .string n] w fun e w' => e = .returned (.tuple #[.agg #[.string (d.find n).1.b, .int .i64 (d.find n).1.lasts, .bool (d.find n).1.known], .int .i64 (d.find n).2]) ∧ Only [] w w' := find_any h n
  have HC := Lib.hid hc
  clear hc
  go_enter Tryz.func125, Tryz.ntmps125
  go_wp2_with (go_at_call 151; refine HC.out.mono ?_; rintro e w1 ⟨rfl, ho1⟩)
  go_ret2
  exact ⟨rfl, ho1.alloc _⟩
theorem read_err {w : World} {db mb : Nat} {d : DS} {kv : Value} (h : DiskAt w db mb d kv) (n : ByteArray) (a k : Int) (he : (d.find n).2 ≠ 0) :
    Calls Tryz.prog 126 #[.pointer (some ⟨db, 0, none⟩), .string n, .int .i64 a, .int .i64 k] w fun e w' => e = .returned (.tuple #[.string ⟨#[]⟩, .int .i64 (d.find n).2]) ∧ Only [] w w' := by
  have hc := find_err h n he
  have HC := Lib.hid hc
  have he1 : ((d.find n).2 != 0) = true := by simp [he]
  clear hc he
  go_enter Tryz.func126, Tryz.ntmps126
  go_wp2_with (go_at_call 151; refine HC.out.mono ?_; rintro e w1 ⟨rfl, ho1⟩)
  go_ret2
  exact ⟨rfl, ho1.alloc _⟩
set_option maxHeartbeats 1000000 in
theorem read_range {w : World} {db mb : Nat} {d : DS} {kv : Value} (h : DiskAt w db mb d kv) (n : ByteArray) (a k : Int) (hs : (d.get n).b.size ≤ 1125899906842624) (he : (d.find n).2 = 0) (hr : a < 0 ∨ k < 0 ∨ (d.get n).b.size < a ∨ (d.get n).b.size - a < k) :
    Calls Tryz.prog 126 #[.pointer (some ⟨db, 0, none⟩), .string n, .int .i64 a, .int .i64 k] w fun e w' => e = .returned (.tuple #[.string ⟨#[]⟩, .int .i64 15]) ∧ Only [] w w' := by
  have hc := find_ok h n he
  have HC := Lib.hid hc
  clear hc he
  rcases (by omega : a < 0 ∨ (0 ≤ a ∧ k < 0) ∨ (0 ≤ a ∧ 0 ≤ k ∧ (d.get n).b.size < a) ∨ (0 ≤ a ∧ 0 ≤ k ∧ a ≤ (d.get n).b.size ∧ (d.get n).b.size - a < k)) with h1 | ⟨h1, h2⟩ | ⟨h1, h2, h3⟩ | ⟨h1, h2, h3, h4⟩ <;> clear hr
  all_goals
    go_enter Tryz.func126, Tryz.ntmps126
    go_wp2_with (go_at_call 151; refine HC.out.mono ?_; rintro e w1 ⟨rfl, ho1⟩)
    go_ret2
    exact ⟨rfl, ho1.alloc _⟩
set_option maxHeartbeats 1000000 in
theorem read_ok {w : World} {db mb : Nat} {d : DS} {kv : Value} (h : DiskAt w db mb d kv) (n : ByteArray) (a k : Int) (hs : (d.get n).b.size ≤ 1125899906842624) (he : (d.find n).2 = 0) (h1 : 0 ≤ a) (h2 : 0 ≤ k) (h3 : a ≤ (d.get n).b.size) (h4 : k ≤ (d.get n).b.size - a) :
    Calls Tryz.prog 126 #[.pointer (some ⟨db, 0, none⟩), .string n, .int .i64 a, .int .i64 k] w fun e w' => e = .returned (.tuple #[.string ((d.get n).b.extract a.toNat (a + k).toNat), .int .i64 0]) ∧ Only [] w w' := by
  have hc := find_ok h n he
  have HC := Lib.hid hc
  clear hc he
  go_enter Tryz.func126, Tryz.ntmps126
  go_wp2_with (go_at_call 151; refine HC.out.mono ?_; rintro e w1 ⟨rfl, ho1⟩)
  go_ret2
  exact ⟨rfl, ho1.alloc _⟩
theorem read_any {w : World} {db mb : Nat} {d : DS} {kv : Value} (h : DiskAt w db mb d kv) (n : ByteArray) (a k : Int) (hs : (d.get n).b.size ≤ 1125899906842624) :
    Calls Tryz.prog 126 #[.pointer (some ⟨db, 0, none⟩), .string n, .int .i64 a, .int .i64 k] w fun e w' => e = .returned (.tuple #[.string (d.read n a k).1, .int .i64 (d.read n a k).2]) ∧ Only [] w w' := by
  unfold DS.read
  by_cases he : (d.find n).2 = 0
  · rw [if_neg (by simp [he])]
    by_cases hr : a < 0 ∨ k < 0 ∨ (d.get n).b.size < a ∨ (d.get n).b.size - a < k
    · rw [if_pos hr]
      exact read_range h n a k hs he hr
    · rw [if_neg hr]
      exact read_ok h n a k hs he (by omega) (by omega) (by omega) (by omega)
  · rw [if_pos he]
    exact read_err h n a k he

theorem new_any (w : World) {room : Int} (hr : -9223372036854775808 ≤ room ∧ room ≤ 9223372036854775807) :
    Calls Tryz.prog 49 #[.int .i64 room] w fun e w' => e = .returned (.pointer (some ⟨w.heap.size + 1, 0, none⟩)) ∧ DiskAt w' (w.heap.size + 1) w.heap.size (DS.new room) (.slice none 0 0) ∧ Only [] w w' := by
  have hmm := @run_makeMap Tryz.prog
  go_enter Tryz.func49, Tryz.ntmps49
  go_wp2
  go_ret
  refine ⟨rfl, ⟨?_, ?_, ?_, ?_, ?_, hr, ?_⟩, ((Only.refl _ w).alloc _).alloc _⟩
  · exact heap_alloc2_new _ _ _
  · exact (MapIs.new Value.string w).alloc _
  · exact Slc.nil _ _
  · intro g hg; cases hg
  · simp [DS.new]
  · intro g hg; cases hg
end Go.Proofs.YteinoiicnmemhaaGreatDoor.J
/- Contracts: numbers are read from bytes (codec.In). -/
set_option linter.unusedVariables false
set_option linter.unusedSimpArgs false
namespace Go.Proofs.YteinoiicnmemhaaGreatDoor.J
open Go Go.RowKit Go.Sort
/-- An In in memory that is new since a: the bytes that are left, its error. -/
structure InAt (a w : World) (ib : Nat) (b : ByteArray) (e : Int) : Prop where
  only : Only [] a w
  ab : a.heap.size ≤ ib
  blk : Blk w ib 240 #[.string b, .int .i64 e]
theorem InAt.keep {a w w' : World} {ib : Nat} {b : ByteArray} {e : Int} (h : InAt a w ib b e) (k : Only [] w w') : InAt a w' ib b e := ⟨h.only.trans k, h.ab, k.blk h.blk (by simp)⟩
set_option maxRecDepth 100000 in
theorem inew_any {a w : World} (ha : Only [] a w) (b : ByteArray) (hb : b.size ≤ 1000000000) :
    Calls Tryz.prog 136 #[.string b] w fun e w' => ∃ ib, e = .returned (.pointer (some ⟨ib, 0, none⟩)) ∧ InAt a w' ib b 0 := by
  have HC := Lib.hid (fun W => strClone_any b W (by omega))
  go_enter Tryz.func136, Tryz.ntmps136
  go_wp2_with (go_at_call 129; refine (HC.out _).mono ?_; rintro e1 w1 ⟨rfl, ho1⟩)
  go_ret
  exact ⟨_, rfl, ⟨(ha.trans ho1).alloc _, (ha.trans ho1).size, Blk.new _ _ _⟩⟩
set_option maxRecDepth 100000 in
theorem itake_any {a w : World} {ib : Nat} {b : ByteArray} (h : InAt a w ib b 0) (n : Nat) (hn : n ≤ b.size) (hb : b.size ≤ 1000000000) :
    Calls Tryz.prog 165 #[.pointer (some ⟨ib, 0, none⟩), .int .i64 n] w fun e w' => e = .returned (.string (b.extract 0 n)) ∧ InAt a w' ib (b.extract n b.size) 0 := by
  have c0 := h.blk.cell 0
  have c1 := h.blk.cell 1
  have f0 := h.blk.free 0
  have hset := h.blk.set 0 (.string (b.extract n b.size))
  have hd : decide ((n : Int) > (b.size : Int)) = false := decide_eq_false (by omega)
  have hnew : InAt a (w.setCell ⟨ib, 0, none⟩ (.string (b.extract n b.size))) ib (b.extract n b.size) 0 := ⟨h.only.setCell (.inr h.ab) _, h.ab, hset⟩
  have HN := Lib.hid hnew
  clear hset hnew h
  go_enter Tryz.func165, Tryz.ntmps165
  go_wp2
  go_ret
  exact ⟨rfl, HN.out⟩
theorem ofBe_snoc (l : List UInt8) (c : UInt8) : ofBe (l ++ [c]) = ofBe l * 256 + c.toNat := by
  unfold ofBe
  rw [List.foldl_append]
  rfl
set_option maxRecDepth 100000 in
set_option maxHeartbeats 1000000 in
theorem low_any {w : World} (s : ByteArray) (hs : s.size ≤ 8) : Calls Tryz.prog 164 #[.string s] w fun e w' => e = .returned (.int .u64 (ofBe s.data.toList : Int)) ∧ Only [] w w' := by
  have hcv := Lib.run_convert_string_bytes (P := Tryz.prog) w 9 251 5 s Tryz.underlying9 Tryz.underlying251 Tryz.underlying5
  have hO : Only [] w (Lib.bytesWorld w 5 s) := ⟨rfl, rfl, rfl, by rw [Lib.bytesWorld_size]; omega, fun i hi _ => Lib.bytesWorld_at_old w 5 s i hi⟩
  have hcell := Lib.bytesWorld_cell w 5 s
  obtain ⟨W, hW⟩ : ∃ W, Lib.bytesWorld w 5 s = W := ⟨_, rfl⟩
  obtain ⟨cap, hcap⟩ : ∃ cap, grownCap w s.size 0 5 = cap := ⟨_, rfl⟩
  rw [hW, hcap] at hcv
  rw [hW] at hO hcell
  clear hW hcap
  have hl : s.data.toList.length = s.size := by simp
  go_enter Tryz.func164, Tryz.ntmps164
  go_wp2
  go_loopw [3, 9] (fun v i wr => ∃ k : Nat, k ≤ s.size ∧ i = .int .i64 k ∧ v = .int .u64 (ofBe (s.data.toList.take k) : Int) ∧ Only [] W wr) (fun _ i _ => s.size - (intOf i).toNat)
  case atStart => exact ⟨0, Nat.zero_le _, rfl, rfl, Only.refl _ _⟩
  case round =>
    obtain ⟨k, hk, rfl, rfl, hOk⟩ := hrel
    by_cases hlt : k < s.size
    · have hd : decide ((k : Int) < (s.size : Int)) = true := decide_eq_true (by omega)
      have hc0 := hcell k hlt
      obtain ⟨c, hc⟩ : ∃ c, s.data.toList.getD k 0 = c := ⟨_, rfl⟩
      rw [hc] at hc0
      have hcb : c.toNat < 256 := c.toNat_lt
      have hnx : ofBe (s.data.toList.take (k + 1)) = ofBe (s.data.toList.take k) * 256 + c.toNat := by
        rw [List.take_succ_eq_append_getElem (by omega), ofBe_snoc]
        congr 2
        rw [← hc]
        simp [List.getD, hlt]
      have hbd := ofBe_lt (s.data.toList.take k)
      rw [List.length_take, hl] at hbd
      have hbd2 : ofBe (s.data.toList.take k) < 72057594037927936 := Nat.lt_of_lt_of_le hbd (Nat.le_trans (Nat.pow_le_pow_right (by decide) (by omega : min k s.size ≤ 7)) (by decide))
      obtain ⟨v, hv⟩ : ∃ v, ofBe (s.data.toList.take k) = v := ⟨_, rfl⟩
      rw [hv] at hnx hbd2 ⊢
      have hor := u64_or hbd2 hcb
      have hblk : w.heap.size < W.heap.size := block_lt_of_cell hc0
      have c0 := (hOk.cell (p := ⟨w.heap.size, k, none⟩) hblk (by simp)).trans hc0
      have e1 : IntKind.u64.wrap ((v : Int) * 256) = (v : Int) * 256 := by rw [IntKind.wrap_u64]; omega
      have HN := Lib.hid hnx
      clear hnx hc hv hbd hc0 hcell
      go_wp2
      exact ⟨⟨k + 1, by omega, by simp, by rw [HN.out]; simp, hOk⟩, by simp [intOf]; omega⟩
    · have hd : decide ((k : Int) < (s.size : Int)) = false := decide_eq_false (by omega)
      rw [List.take_of_length_le (by omega)]
      clear hcell
      go_wp2
      go_ret
      exact ⟨rfl, hO.trans hOk⟩
theorem ext_list (b : ByteArray) (n : Nat) : (b.extract 0 n).data.toList = b.data.toList.take n := by simp
theorem ext_size (b : ByteArray) {n : Nat} (h : n ≤ b.size) : (b.extract 0 n).size = n := by
  have e : (b.extract 0 n).size = (b.extract 0 n).data.toList.length := by simp
  rw [e, ext_list, List.length_take]
  have : b.data.toList.length = b.size := by simp
  omega
set_option maxRecDepth 100000 in
theorem iu32_any {a w : World} {ib : Nat} {b : ByteArray} (h : InAt a w ib b 0) (hn : 4 ≤ b.size) (hb : b.size ≤ 1000000000) :
    Calls Tryz.prog 137 #[.pointer (some ⟨ib, 0, none⟩)] w fun e w' => e = .returned (.int .i64 (ofBe (b.data.toList.take 4) : Int)) ∧ InAt a w' ib (b.extract 4 b.size) 0 := by
  have ht : Calls Tryz.prog 165 #[.pointer (some ⟨ib, 0, none⟩), .int .i64 4] w fun e w' => e = .returned (.string (b.extract 0 4)) ∧ InAt a w' ib (b.extract 4 b.size) 0 := itake_any h 4 hn hb
  have hl := fun W => low_any (w := W) (b.extract 0 4) (by rw [ext_size b hn]; omega)
  rw [ext_list] at hl
  have hbd := ofBe_lt (b.data.toList.take 4)
  have hlen : (b.data.toList.take 4).length = 4 := by rw [List.length_take]; have : b.data.toList.length = b.size := by simp
                                                      omega
  rw [hlen] at hbd
  obtain ⟨x, hx⟩ : ∃ x, ofBe (b.data.toList.take 4) = x := ⟨_, rfl⟩
  obtain ⟨y, hy⟩ : ∃ y, b.extract 0 4 = y := ⟨_, rfl⟩
  rw [hx] at hl hbd ⊢
  rw [hy] at ht hl
  have hbd : x < 4294967296 := hbd
  have e1 := IntWalk.i64_in (x : Int) ⟨by omega, by omega⟩
  have HT := Lib.hid ht
  have HL := Lib.hid hl
  clear h ht hl hx hy hlen
  go_enter Tryz.func137, Tryz.ntmps137
  go_wp2_with (first
    | (go_at_call 165; refine HT.out.mono ?_; rintro e1 w1 ⟨rfl, h1⟩)
    | (go_at_call 164; refine (HL.out _).mono ?_; rintro e2 w2 ⟨rfl, ho2⟩))
  go_ret
  exact ⟨rfl, h1.keep ho2⟩
end Go.Proofs.YteinoiicnmemhaaGreatDoor.J
/- Contracts: the sum of texts (check.Sum), a length in four bytes (frame.lay), frames laid (frame.Put). -/
set_option linter.unusedVariables false
set_option linter.unusedSimpArgs false
namespace Go.Proofs.YteinoiicnmemhaaGreatDoor.J
open Go Go.RowKit Go.Sort
theorem crc8_snoc : ∀ (n x : Nat), crc8 (n + 1) x = crc1 (crc8 n x)
  | 0, _ => rfl
  | n + 1, x => by rw [crc8, crc8_snoc n (crc1 x)]; rfl
/-- All bytes of texts, one behind the other. -/
def catS (ss : List ByteArray) : List UInt8 := ss.flatMap fun s => s.data.toList
set_option maxRecDepth 100000 in
set_option maxHeartbeats 4000000 in
theorem sum_any {w : World} {v : Value} {ss : List ByteArray} (h : Slc w 1 v ss.length (strs ss)) (hn : ss.length ≤ 1000) (hs : ∀ s ∈ ss, s.size ≤ 1000000000) :
    Calls Tryz.prog 232 #[v] w fun e w' => e = .returned (.int .u32 (crc (catS ss) : Int)) ∧ Only [] w w' := by
  obtain ⟨A, cap, rfl, hc1, hc2, hcell⟩ := h.openS
  clear h
  go_enter Tryz.func232, Tryz.ntmps232
  go_wp2
  go_loopw [3, 10] (fun v i wr => ∃ k : Nat, k ≤ ss.length ∧ i = .int .i64 k ∧ v = .int .u32 (crcGo (catS (ss.take k)) 4294967295 : Int) ∧ Only [] w wr) (fun _ i _ => ss.length - (intOf i).toNat)
  case atStart => exact ⟨0, Nat.zero_le _, rfl, rfl, Only.refl _ _⟩
  case round =>
    obtain ⟨k, hk, rfl, rfl, hOk⟩ := hrel
    by_cases hlt : k < ss.length
    · have hd : decide ((k : Int) < (ss.length : Int)) = true := decide_eq_true (by omega)
      obtain ⟨b, off, rfl, hb, hc0⟩ := hcell k hlt
      have hsz := hs _ (List.getElem_mem hlt)
      have hnx : catS (ss.take (k + 1)) = catS (ss.take k) ++ ss[k].data.toList := by
        unfold catS
        rw [List.take_succ_eq_append_getElem hlt, List.flatMap_append, List.flatMap_singleton]
      obtain ⟨s, hs0⟩ : ∃ s, ss[k] = s := ⟨_, rfl⟩
      rw [hs0] at hc0 hsz hnx
      have c0 := (hOk.cell (p := ⟨b, off + k, none⟩) hb (by simp)).trans hc0
      have hl : s.data.toList.length = s.size := by simp
      have hx0 : crcGo (catS (ss.take k)) 4294967295 < 4294967296 := crcGo_lt _ (by decide)
      obtain ⟨y, hy⟩ : ∃ y, crcGo (catS (ss.take k)) 4294967295 = y := ⟨_, rfl⟩
      have hny : crcGo (catS (ss.take (k + 1))) 4294967295 = crcGo s.data.toList y := by rw [hnx, crcGo_app, hy]
      rw [hy] at hx0 ⊢
      have e9 := IntWalk.i64_in ((k : Int) + 1) ⟨by omega, by omega⟩
      have HN := Lib.hid hny
      have HC := Lib.hid hcell
      clear hny hnx hs0 hc0 hy hcell
      go_wp2
      go_loopw [3, 16] (fun v i wr => ∃ j : Nat, j ≤ s.size ∧ i = .int .i64 j ∧ v = .int .u32 (crcGo (s.data.toList.take j) y : Int) ∧ Only [] w wr) (fun _ i _ => s.size - (intOf i).toNat)
      case atStart => exact ⟨0, Nat.zero_le _, rfl, rfl, hOk⟩
      case round =>
        obtain ⟨j, hj, rfl, rfl, hOj⟩ := hrel
        by_cases hjl : j < s.size
        · have hd2 : decide ((j : Int) < (s.size : Int)) = true := decide_eq_true (by omega)
          obtain ⟨c, hc⟩ : ∃ c, s[j]'hjl = c := ⟨_, rfl⟩
          have hcb : c.toNat < 256 := c.toNat_lt
          have hnx : crcGo (s.data.toList.take (j + 1)) y = crc8 8 (crcGo (s.data.toList.take j) y ^^^ c.toNat) := by
            rw [List.take_succ_eq_append_getElem (by omega), crcGo_app]
            have : s.data.toList[j]'(by omega) = c := by rw [← hc]; simp; rfl
            rw [this]
            rfl
          have hz0 : crcGo (s.data.toList.take j) y < 4294967296 := crcGo_lt _ hx0
          obtain ⟨z, hz⟩ : ∃ z, crcGo (s.data.toList.take j) y = z := ⟨_, rfl⟩
          rw [hz] at hnx hz0 ⊢
          have hxo := u32_xor hz0 (show c.toNat < 4294967296 by omega)
          have hx1 : z ^^^ c.toNat < 4294967296 := Nat.xor_lt_two_pow (n := 32) hz0 (by omega)
          obtain ⟨q, hq⟩ : ∃ q, z ^^^ c.toNat = q := ⟨_, rfl⟩
          rw [hq] at hnx hxo hx1
          have hcj : bits .xor .u32 (z : Int) (((s[j]'hjl).toNat : Int) % 4294967296) = (q : Int) := by rw [hc, Int.emod_eq_of_lt (by omega) (by omega)]; exact hxo
          have HJ := Lib.hid hcj
          have HM := Lib.hid hnx
          have e8 := IntWalk.i64_in ((j : Int) + 1) ⟨by omega, by omega⟩
          clear hnx hq hz hc hcj hxo
          go_wp2
          go_loopw [3, 25] (fun v i wx => ∃ n : Nat, n ≤ 8 ∧ i = .int .i64 n ∧ v = .int .u32 (crc8 n q : Int) ∧ Only [] w wx) (fun _ i _ => 8 - (intOf i).toNat)
          case atStart => exact ⟨0, Nat.zero_le _, rfl, by rw [HJ.out]; rfl, hOj⟩
          case round =>
            obtain ⟨n, hn8, rfl, rfl, hOn⟩ := hrel
            by_cases hnl : n < 8
            · have hd3 : decide ((n : Int) < 8) = true := decide_eq_true (by omega)
              have hy0 : crc8 n q < 4294967296 := crc8_lt n hx1
              have hst := crc8_snoc n q
              obtain ⟨x, hx⟩ : ∃ x, crc8 n q = x := ⟨_, rfl⟩
              rw [hx] at hy0 hst ⊢
              have han := u32_and1 hy0
              have hx2 : x / 2 < 4294967296 := by omega
              have hxp := u32_xor hx2 (show 3988292384 < 4294967296 by decide)
              have hxp : bits .xor .u32 ((x : Int) / 2) 3988292384 = ((x / 2 ^^^ 3988292384 : Nat) : Int) := by rw [← hxp]; rfl
              have e7 := IntWalk.i64_in ((n : Int) + 1) ⟨by omega, by omega⟩
              by_cases hod : x % 2 = 1
              · have hst2 : crc8 (n + 1) q = x / 2 ^^^ 3988292384 := by rw [hst]; simp [crc1, hod]
                have HS := Lib.hid hst2
                have hb1 : decide (((x % 2 : Nat) : Int) = 1) = true := decide_eq_true (by omega)
                clear hst hst2 hx
                go_wp2
                exact ⟨⟨n + 1, by omega, by simp, by rw [HS.out], hOn⟩, by simp [intOf]; omega⟩
              · have hst2 : crc8 (n + 1) q = x / 2 := by rw [hst]; simp [crc1, hod]
                have HS := Lib.hid hst2
                have hb1 : decide (((x % 2 : Nat) : Int) = 1) = false := decide_eq_false (by omega)
                clear hst hst2 hx
                go_wp2
                exact ⟨⟨n + 1, by omega, by simp, by rw [HS.out]; simp, hOn⟩, by simp [intOf]; omega⟩
            · have h8 : n = 8 := by omega
              subst h8
              go_wp2
              exact ⟨⟨j + 1, by omega, by simp, by rw [HM.out], hOn⟩, by simp [intOf]; omega⟩
        · have hd2 : decide ((j : Int) < (s.size : Int)) = false := decide_eq_false (by omega)
          rw [List.take_of_length_le (by omega)]
          go_wp2
          exact ⟨⟨k + 1, by omega, by simp, by rw [HN.out], hOj⟩, by simp [intOf]; omega⟩
    · have hd : decide ((k : Int) < (ss.length : Int)) = false := decide_eq_false (by omega)
      rw [List.take_of_length_le (by omega)]
      have hx0 : crcGo (catS ss) 4294967295 < 4294967296 := crcGo_lt _ (by decide)
      have hxo := u32_xor hx0 (show 4294967295 < 4294967296 by decide)
      have hxo : bits .xor .u32 (crcGo (catS ss) 4294967295 : Int) 4294967295 = (crc (catS ss) : Int) := hxo
      go_wp2
      go_ret
      exact ⟨rfl, hOk⟩
end Go.Proofs.YteinoiicnmemhaaGreatDoor.J
/- Contracts: a length in four bytes (frame.lay), frames laid (frame.Put), a length read (frame.length). -/
set_option linter.unusedVariables false
set_option linter.unusedSimpArgs false
namespace Go.Proofs.YteinoiicnmemhaaGreatDoor.J
open Go Go.RowKit Go.Sort
theorem OutAt.new {a w : World} (ha : Only [] a w) : OutAt a (w.alloc (.cells #[.slice none 0 0, .int .i64 0] 267)) w.heap.size [] 0 :=
  ⟨ha.alloc _, ha.size, none, 0, Blk.new _ _ _, rfl, .inl ⟨rfl, rfl⟩⟩
theorem slc_newN {w : World} {e : TypeId} {n size : Nat} {cs : List Value} (hs : cs.length = n * size) (hn : n ≤ maxLen) : Slc (w.alloc (.cells cs.toArray e)) size (.slice (some ⟨w.heap.size, 0, none⟩) n n) n cs := by
  have hb := Blk.new w e cs.toArray
  refine ⟨_, n, rfl, hs, Nat.le_refl _, hn, fun _ => ⟨w.heap.size, 0, rfl, hb.lt, fun j hj => ?_⟩⟩
  rw [Nat.zero_add, hb.cell j]
  simp
set_option maxRecDepth 100000 in
theorem flay_any {w : World} (n : Nat) (hn : n < 4294967296) : Calls Tryz.prog 231 #[.int .i64 n] w fun e w' => e = .returned (.string (baL (beN 4 n))) ∧ Only [] w w' := by
  have hO : OutAt w (w.alloc (.cells #[.slice none 0 0, .int .i64 0] 267)) w.heap.size [] 0 := OutAt.new (Only.refl _ _)
  have h1 := ou32_any hO (by simp) n hn
  have H1 := Lib.hid h1
  clear h1 hO
  go_enter Tryz.func231, Tryz.ntmps231
  go_wp2_with (first
    | (go_at_call 238; refine H1.out.mono ?_; rintro e1 w1 ⟨rfl, h1⟩; have HD := Lib.hid (odone_any h1 (by simp [beN_len])); have hO1 := h1.only; clear h1)
    | (go_at_call 196; refine HD.out.mono ?_; rintro e2 w2 ⟨rfl, rfl⟩))
  go_ret
  exact ⟨rfl, hO1⟩
end Go.Proofs.YteinoiicnmemhaaGreatDoor.J
/- Contracts: a frame's length, its ends, a frame opened (frame.length, front, head, back, open). -/
set_option linter.unusedVariables false
set_option linter.unusedSimpArgs false
namespace Go.Proofs.YteinoiicnmemhaaGreatDoor.J
open Go Go.RowKit Go.Sort
set_option maxRecDepth 100000 in
theorem flength_any {w : World} (b : ByteArray) (hn : 4 ≤ b.size) (hb : b.size ≤ 1000000000) :
    Calls Tryz.prog 222 #[.string b] w fun e w' => e = .returned (.tuple #[.int .i64 (ofBe (b.data.toList.take 4) : Int), .bool (decide (ofBe (b.data.toList.take 4) ≤ 4000))]) ∧ Only [] w w' := by
  have HN := Lib.hid (inew_any (Only.refl [] w) b hb)
  have hc : ∀ x : Nat, decide ((x : Int) ≤ 4000) = decide (x ≤ 4000) := fun x => by simp only [decide_eq_decide]; omega
  obtain ⟨x, hx⟩ : ∃ x, ofBe (b.data.toList.take 4) = x := ⟨_, rfl⟩
  rw [hx]
  have HX := Lib.hid hx
  clear hx
  go_enter Tryz.func222, Tryz.ntmps222
  go_wp2_with (first
    | (go_at_call 136; refine HN.out.mono ?_; rintro e1 w1 ⟨ib, rfl, h1⟩; have hu := iu32_any h1 hn hb; rw [HX.out] at hu; have HU := Lib.hid hu; clear h1 hu)
    | (go_at_call 137; refine HU.out.mono ?_; rintro e2 w2 ⟨rfl, h2⟩; have h3 := h2.only; clear h2))
  go_ret2
  exact ⟨by simp, h3⟩
theorem ffront_any {w : World} (b : ByteArray) (hn : 4 ≤ b.size) (hb : b.size ≤ 1000000000) :
    Calls Tryz.prog 198 #[.string b] w fun e w' => e = .returned (.string (b.extract 0 4)) ∧ w' = w := by
  go_enter Tryz.func198, Tryz.ntmps198
  go_wp2
  go_ret
  exact ⟨rfl, rfl⟩
theorem fhead_any {w : World} (b : ByteArray) (n : Nat) (hn : n ≤ b.size) (hb : b.size ≤ 1000000000) :
    Calls Tryz.prog 199 #[.string b, .int .i64 n] w fun e w' => e = .returned (.string (b.extract 0 n)) ∧ w' = w := by
  go_enter Tryz.func199, Tryz.ntmps199
  go_wp2
  go_ret
  exact ⟨rfl, rfl⟩
theorem fback_any {w : World} (b : ByteArray) (hn : 4 ≤ b.size) (hb : b.size ≤ 1000000000) :
    Calls Tryz.prog 200 #[.string b] w fun e w' => e = .returned (.string (b.extract (b.size - 4) b.size)) ∧ w' = w := by
  have e1 := IntWalk.i64_in ((b.size : Int) - 4) ⟨by omega, by omega⟩
  have e2 : ((b.size : Int) - 4).toNat = b.size - 4 := by omega
  go_enter Tryz.func200, Tryz.ntmps200
  go_wp2
  go_ret
  exact ⟨rfl, rfl⟩
/-- What opening a whole frame answers. -/
def openF (b : ByteArray) : ByteArray × Int :=
  if b.extract 4 8 ≠ baL (beN 4 (crc ((b.extract 0 4).data.toList ++ (b.extract 8 (b.size - 4)).data.toList))) then (⟨#[]⟩, 7) else (b.extract 8 (b.size - 4), 0)
set_option maxRecDepth 100000 in
set_option maxHeartbeats 1000000 in
theorem fopen_any {w : World} (b : ByteArray) (hn : 12 ≤ b.size) (hb : b.size ≤ 1000000) :
    Calls Tryz.prog 223 #[.string b] w fun e w' => e = .returned (.tuple #[.string (openF b).1, .int .i64 (openF b).2]) ∧ Only [] w w' := by
  have e1 := IntWalk.i64_in ((b.size : Int) - 4) ⟨by omega, by omega⟩
  have e2 : ((b.size : Int) - 4).toNat = b.size - 4 := by omega
  have hcl := crc_lt ((b.extract 0 4).data.toList ++ (b.extract 8 (b.size - 4)).data.toList)
  have hL := fun W => flay_any (w := W) (crc ((b.extract 0 4).data.toList ++ (b.extract 8 (b.size - 4)).data.toList)) hcl
  have hct : crc (catS [b.extract 0 4, b.extract 8 (b.size - 4)]) = crc ((b.extract 0 4).data.toList ++ (b.extract 8 (b.size - 4)).data.toList) := by simp [catS]
  have hr : openF b = if b.extract 4 8 ≠ baL (beN 4 (crc ((b.extract 0 4).data.toList ++ (b.extract 8 (b.size - 4)).data.toList))) then (⟨#[]⟩, 7) else (b.extract 8 (b.size - 4), 0) := rfl
  obtain ⟨R, hR⟩ : ∃ R, openF b = R := ⟨_, rfl⟩
  rw [hR] at hr ⊢
  obtain ⟨z, hz⟩ : ∃ z, crc ((b.extract 0 4).data.toList ++ (b.extract 8 (b.size - 4)).data.toList) = z := ⟨_, rfl⟩
  rw [hz] at hcl hL hct hr
  have hwr := IntWalk.i64_in (z : Int) ⟨by omega, by omega⟩
  have hs1 : (b.extract 0 4).size = 4 := ext_size b (by omega)
  have hs2 : (b.extract 8 (b.size - 4)).size ≤ 1000000 := by rw [ByteArray.size_extract]; omega
  have HL := Lib.hid hL
  have HR := Lib.hid hr
  have HT := Lib.hid hct
  have HC := Lib.hid (fun W => strClone_any (b.extract 8 (b.size - 4)) W (by omega))
  clear hr hR hL hct hz
  go_enter Tryz.func223, Tryz.ntmps223
  go_wp2_with fail
  refine wp_region_quiet_below (by kernel_rfl) (by kernel_rfl) ?_
  repeat (go_big_quiet_step (fail))
  refine wpQuiet_nil ?_
  rintro _ ⟨p, rfl⟩
  have hO0 : Only [] w (grow (redrawn w p.d) p.os) := Only.regrown [] w p.d p.os
  obtain ⟨W, hW⟩ : ∃ W, grow (redrawn w p.d) p.os = W := ⟨_, rfl⟩
  rw [hW] at hO0 ⊢
  clear hW
  go_wp2_with fail
  refine wp_region_in [] [0, 1, 2, 3] [4, 5, 6, 7, 8] [] (by kernel_rfl) (by kernel_rfl) (by intro c d u a w h; cases d <;> exact h) ?_
  show wpQuiet _ _ _ _ [_, _, _, _] _
  repeat (go_big_quiet_step (fail))
  refine wpQuiet_nil ?_
  show wpList _ _ _ [_] _ _
  go_wp2_with fail
  refine check_of (S := []) (((Only.refl [] _).alloc _).drew) ?_
  show wpList _ _ _ [_] _ _
  go_wp2_with fail
  have hsum := sum_any (w := (W.alloc (.cells #[.string (b.extract 0 4), .string (b.extract 8 (b.size - 4))] 9)).drew) (ss := [b.extract 0 4, b.extract 8 (b.size - 4)]) ((slc_newN (w := W) (e := 9) (n := 2) (size := 1) (cs := strs [b.extract 0 4, b.extract 8 (b.size - 4)]) rfl (by simp [maxLen])).only0 (Only.refl [] _).drew) (by simp) (by simp only [List.mem_cons, List.not_mem_nil, or_false, forall_eq_or_imp, forall_eq]; omega)
  rw [HT.out] at hsum
  refine hsum.mono ?_
  clear hsum
  rintro e1 w1 ⟨rfl, k1⟩
  go_wp2_with fail
  have k2 := ((Only.refl [] W).alloc _).drew.trans k1
  clear k1
  refine check_of (S := []) k2 ?_
  show wpList _ _ _ [_] _ _
  go_wp2_with fail
  refine check_of (S := []) k2 ?_
  show wpList _ _ _ [_] _ _
  go_wp2_with fail
  refine (HL.out _).mono ?_
  rintro e3 w3 ⟨rfl, k3⟩
  go_wp2_with fail
  refine check_of (S := []) (k2.trans k3) ?_
  show wpList _ _ _ [_] _ _
  have hdec := toList_decJ (b.extract 4 8) (baL (beN 4 z))
  obtain ⟨cc, hcc⟩ : ∃ cc, baL (beN 4 z) = cc := ⟨_, rfl⟩
  rw [hcc] at hdec HR ⊢
  have k4 := hO0.trans (k2.trans k3)
  by_cases hq : b.extract 4 8 = cc
  · rw [decide_eq_true hq] at hdec
    have hRe : R = (b.extract 8 (b.size - 4), 0) := by rw [HR.out, if_neg (by simpa using hq)]
    have HE := Lib.hid hRe
    clear HR HL HT hq
    go_wp2_with fail
    refine check_last (S := []) (k2.trans k3) (fun _ _ q => q) ?_
    go_wp2_with (go_at_call 129; refine (HC.out _).mono ?_; rintro e4 w4 ⟨rfl, k5⟩)
    go_ret2
    rw [HE.out]
    exact ⟨rfl, k4.trans k5⟩
  · rw [decide_eq_false hq] at hdec
    have hRe : R = (⟨#[]⟩, 7) := by rw [HR.out, if_pos (by simpa using hq)]
    have HE := Lib.hid hRe
    clear HR HL HT hq
    go_wp2_with fail
    refine check_last (S := []) (k2.trans k3) (fun _ _ q => q) ?_
    go_wp2
    go_ret2
    rw [HE.out]
    exact ⟨rfl, k4⟩
end Go.Proofs.YteinoiicnmemhaaGreatDoor.J
/- Contracts: the first frame of a text (frame.read, frame.First). -/
set_option linter.unusedVariables false
set_option linter.unusedSimpArgs false
namespace Go.Proofs.YteinoiicnmemhaaGreatDoor.J
open Go Go.RowKit Go.Sort
/-- What reading the first frame answers, in the program's words. -/
def readF (b : ByteArray) : ByteArray × Nat × Int :=
  if b.size < 12 then (⟨#[]⟩, 0, 5)
  else if 4000 < ofBe (b.data.toList.take 4) then (⟨#[]⟩, 0, 6)
  else if b.size < ofBe (b.data.toList.take 4) + 12 then (⟨#[]⟩, 0, 5)
  else if (b.extract 0 (ofBe (b.data.toList.take 4) + 12)).extract (ofBe (b.data.toList.take 4) + 8) (ofBe (b.data.toList.take 4) + 12) ≠ b.extract 0 4 then (⟨#[]⟩, 0, 6)
  else if (openF (b.extract 0 (ofBe (b.data.toList.take 4) + 12))).2 ≠ 0 then (⟨#[]⟩, 0, (openF (b.extract 0 (ofBe (b.data.toList.take 4) + 12))).2)
  else ((openF (b.extract 0 (ofBe (b.data.toList.take 4) + 12))).1, ofBe (b.data.toList.take 4) + 12, 0)
theorem readF_first (b : ByteArray) : readF b = (baL (firstF b.data.toList).1, (firstF b.data.toList).2.1, (firstF b.data.toList).2.2) := by
  have hl : b.data.toList.length = b.size := by simp
  have hbe : ∀ {x y : ByteArray}, x = y ↔ x.data.toList = y.data.toList := fun {x y} => ⟨fun h => by rw [h], fun h => bts_inj h⟩
  unfold readF firstF
  rw [hl]
  obtain ⟨n, hn⟩ : ∃ n, ofBe (b.data.toList.take 4) = n := ⟨_, rfl⟩
  rw [hn]
  by_cases h1 : b.size < 12
  · rw [if_pos h1, if_pos h1]; rfl
  rw [if_neg h1, if_neg h1]
  by_cases h2 : 4000 < n
  · rw [if_pos h2, if_pos h2]; rfl
  rw [if_neg h2, if_neg h2]
  by_cases h3 : b.size < n + 12
  · rw [if_pos h3, if_pos h3]; rfl
  rw [if_neg h3, if_neg h3]
  have hfs : (b.extract 0 (n + 12)).size = n + 12 := ext_size b (by omega)
  have e4 : ((b.extract 0 (n + 12)).extract (n + 8) (n + 12) = b.extract 0 4) ↔ (b.data.toList.take (n + 12)).drop (n + 8) = b.data.toList.take 4 := by
    rw [hbe]
    simp [List.take_take, List.drop_take]
  have e5 : ((b.extract 0 (n + 12)).extract 4 8).data.toList = (b.data.toList.drop 4).take 4 := by
    simp [List.drop_take, List.take_take]
  have e6 : ((b.extract 0 (n + 12)).extract 0 4).data.toList = b.data.toList.take 4 := by
    simp [List.take_take]
  have e7 : ((b.extract 0 (n + 12)).extract 8 (n + 12 - 4)).data.toList = (b.data.toList.drop 8).take n := by
    simp [List.drop_take, List.take_take]
  by_cases h4 : (b.extract 0 (n + 12)).extract (n + 8) (n + 12) = b.extract 0 4
  · rw [if_neg (not_not_intro h4), if_neg (not_not_intro (e4.1 h4))]
    have e8 : openF (b.extract 0 (n + 12)) = if (b.data.toList.drop 4).take 4 ≠ beN 4 (crc (b.data.toList.take 4 ++ (b.data.toList.drop 8).take n)) then (⟨#[]⟩, 7) else (baL ((b.data.toList.drop 8).take n), 0) := by
      unfold openF
      rw [hfs, e6, e7]
      have : (b.extract 0 (n + 12)).extract 4 8 = baL (beN 4 (crc (b.data.toList.take 4 ++ (b.data.toList.drop 8).take n))) ↔ (b.data.toList.drop 4).take 4 = beN 4 (crc (b.data.toList.take 4 ++ (b.data.toList.drop 8).take n)) := by
        rw [hbe, e5, bts_baL]
      by_cases hq : (b.data.toList.drop 4).take 4 = beN 4 (crc (b.data.toList.take 4 ++ (b.data.toList.drop 8).take n))
      · rw [if_neg (not_not_intro (this.2 hq)), if_neg (not_not_intro hq)]
        have e9 : (b.extract 0 (n + 12)).extract 8 (n + 12 - 4) = baL ((b.data.toList.drop 8).take n) := hbe.2 (by rw [e7, bts_baL])
        rw [e9]
      · rw [if_pos (fun h => hq (this.1 h)), if_pos hq]
    rw [e8]
    by_cases hq : (b.data.toList.drop 4).take 4 = beN 4 (crc (b.data.toList.take 4 ++ (b.data.toList.drop 8).take n))
    · rw [if_neg (not_not_intro hq), if_neg (not_not_intro hq)]
      simp
    · rw [if_pos hq, if_pos hq]
      simp
      rfl
  · rw [if_pos h4, if_pos (fun h => h4 (e4.2 h))]
    rfl
end Go.Proofs.YteinoiicnmemhaaGreatDoor.J
/- Contracts: List. -/
namespace Go.Proofs.YteinoiicnmemhaaGreatDoor.J
open Go.RowKit Go.Sort Go.Lib Go.Shelf
/-- What the closure of List asks. -/
def notPre (p : ByteArray) (s : ByteArray) : Bool := !(p.data.toList.isPrefixOf s.data.toList)
theorem notPre_at (p : ByteArray) (B : Nat) (W : World) (hc : W.cell? ⟨B, 0, none⟩ = some (.string p)) (x : ByteArray) :
    FnGives Tryz.prog 181 #[.pointer (some ⟨B, 0, none⟩)] #[.string x] (.bool (notPre p x)) W := by
  show Calls Tryz.prog 181 #[.string x, .pointer (some ⟨B, 0, none⟩)] W _
  go_enter Tryz.func181, Tryz.ntmps181
  go_wp2_with (go_at_call 182; refine (Tryz.strings_HasPrefix x p W).mono ?_; rintro e w1 ⟨rfl, rfl⟩)
  go_ret
  exact ⟨rfl, 0, rfl⟩
theorem only_putRow (w : World) (g q : Nat) (d : Array ByteArray) : Only [g] w (putRow Value.string (Sort.ahead w q) g 0 d) :=
  ⟨rfl, rfl, rfl, by simp [putRow, mapBlock, Sort.ahead], fun k _ hk => by
    have : g ≠ k := by simp at hk; omega
    simp [putRow, mapBlock, Sort.ahead, Array.getElem?_modify, this]⟩
theorem oneStr : OneCell Value.string := fun _ => rfl
theorem zeroStr (w : World) : (zeroValue 9).run Tryz.prog w = .ok (.string ⟨#[]⟩) w := by kernel_rfl
theorem enterList1 : ∀ args w, (callFunc 181 args).run Tryz.prog w = .ok (.enter 181 args) w := enters_of Tryz.func181 (by kernel_rfl) rfl
theorem idx_nil (w : World) (lb : Array Value) : Calls Tryz.prog 202 #[.slice none 0 0, .func (.func 181) #[] lb] w fun e w' => e = .returned (.int .i64 (-1)) ∧ Only [] w w' := by
  go_enter Tryz.func202, Tryz.ntmps202
  go_wp2
  go_loop [8] (fun i => i = .int .i64 0) (fun _ => 0)
  case atStart => rfl
  case round =>
    subst hrel
    go_wp2
    go_ret
    exact ⟨rfl, Only.refl _ _⟩
theorem del_nil (w : World) (lb : Array Value) : Calls Tryz.prog 179 #[.slice none 0 0, .func (.func 181) #[] lb] w fun e w' => e = .returned (.slice none 0 0) ∧ Only [] w w' := by
  go_enter Tryz.func179, Tryz.ntmps179
  go_wp2_with (go_at_call 202; refine (idx_nil _ _).mono ?_; rintro e w1 ⟨rfl, h1⟩)
  go_ret
  exact ⟨rfl, h1⟩
theorem filter_not (p : ByteArray) (l : List ByteArray) : (l.filter fun x => !notPre p x) = l.filter (fun s => p.data.toList.isPrefixOf s.data.toList) := by
  congr 1
  funext x
  simp [notPre]
/-- DeleteFunc with List's closure, whatever the slice owned. -/
theorem del_any {w : World} {base B : Nat} {v : Value} {ns : List ByteArray} (p : ByteArray) (hown : w.ownsRow base 9 1 v ns.length (strs ns)) (hc : w.cell? ⟨B, 0, none⟩ = some (.string p)) (hB : B < base) (hl : ns.length ≤ 1000000) :
    Calls Tryz.prog 179 #[v, .func (.func 181) #[] #[.pointer (some ⟨B, 0, none⟩)]] w fun e w' => ∃ v', e = .returned v' ∧
      w'.ownsRow base 9 1 v' (ns.filter fun x => !notPre p x).length (strs (ns.filter fun x => !notPre p x)) ∧ ∃ S, Only S w w' ∧ ∀ k ∈ S, base ≤ k := by
  by_cases hv : v = .slice none 0 0
  · subst hv
    have hn : ns = [] := by
      rcases hown.2 with ⟨_, q⟩ | ⟨g, cap, cur, q, _⟩
      · simpa using q
      · cases q
    subst hn
    exact (del_nil w _).mono fun e w' ⟨h1, h2⟩ => ⟨_, h1, ⟨rfl, .inl ⟨rfl, rfl⟩⟩, [], h2, by simp⟩
  · obtain ⟨g, cap, rfl, hb, hg, hn, hm, hz, hH⟩ := holds_of_ownsRow (enc := Value.string) (zs := ns) hown hv
    have hBl : B < w.heap.size := block_lt_of_cell hc
    have := AnyE.slices_DeleteFunc Tryz.delFunc Value.string oneStr (notPre p) 181 #[.pointer (some ⟨B, 0, none⟩)] enterList1 ⟨#[]⟩ zeroStr g 0 cap ns.toArray w
      (fun W x hb' => notPre_at p B W ((hb'.cell (p := ⟨B, 0, none⟩) hBl).trans hc) x)
      (fun n os dk x _ => notPre_at p B _ (by
        unfold sortWorld
        rw [cell?_grow _ _ _ (by show B < (putRow _ _ _ _ _).heap.size; rw [size_putRow]; exact hBl), cell?_putRow_other _ _ g 0 _ _ (Or.inl (by show B ≠ g; omega))]
        exact hc) x) hH (by simp; omega) (by simpa using hn)
    rw [show ns.toArray.size = ns.length by simp] at this
    refine Calls.mono this ?_
    rintro e w' ⟨rfl, q, rfl⟩
    simp only []
    have hle : (ns.filter fun x => !notPre p x).length ≤ ns.length := List.length_filter_le _ _
    have hr := ownsRow_putRow (enc := Value.string) (q := q) (ys := (ns.filter fun x => !notPre p x) ++ List.replicate (ns.length - (ns.filter fun x => !notPre p x).length) ⟨#[]⟩) (k := (ns.filter fun x => !notPre p x).length) hown (by simp; omega) hle
    rw [List.take_left] at hr
    exact ⟨_, rfl, hr, [g], only_putRow w g q _, by simp; omega⟩
/-- List, with the power on or off. -/
theorem list_any {w : World} {db mb : Nat} {d : DS} {kv : Value} {M : Nat} (h : DiskAt w db mb d kv) (hk : Fs d.fs M) (p : ByteArray) :
    Calls Tryz.prog 155 #[.pointer (some ⟨db, 0, none⟩), .string p] w fun e w' => ∃ v, e = .returned v ∧ Slc w' 1 v (d.list p).length (strs (d.list p)) ∧ (∀ g, v.ownBlock = some g → w.heap.size ≤ g) ∧ Only [] w w' := by
  have hf := hk.few
  have hnl : d.names.length ≤ 1000000 := by have : d.names.length = d.fs.length := by simp [DS.names]
                                            omega
  have c0 : ∀ o, (w.alloc o).cell? ⟨db, 0, none⟩ = some (.bool d.on) := fun o => (World.cell?_alloc_lt w o _ h.blk.lt).trans (h.blk.cell 0)
  cases ho : d.on
  · have hl : d.list p = [] := by simp [DS.list, ho]
    rw [hl]
    go_enter Tryz.func155, Tryz.ntmps155
    go_wp2_with (go_at_call 178; refine (on_any (h.only0 ((Only.refl [] w).alloc _))).mono ?_; rintro e w1 ⟨rfl, rfl⟩; rw [ho])
    go_ret
    exact ⟨_, rfl, Slc.nil _ 1, (by intro g hg; cases hg), (Only.refl [] w).alloc _⟩
  · have hl : d.list p = d.names.filter fun x => !notPre p x := by rw [filter_not]; simp [DS.list, ho]
    rw [hl]
    go_enter Tryz.func155, Tryz.ntmps155
    go_wp2_with (first
      | (go_at_call 178; refine (on_any (h.only0 ((Only.refl [] w).alloc _))).mono ?_; rintro e w1 ⟨rfl, rfl⟩; rw [ho])
      | (go_at_call 180; refine (names_own (h.only0 ((Only.refl [] w).alloc _)) hk).mono ?_; rintro e w2 ⟨v2, base, rfl, hrow, hb2, ho2⟩; have hB : w2.cell? ⟨w.heap.size, 0, none⟩ = some (.string p) := (ho2.cell (by simp) (by simp)).trans ((Blk.new w _ _).cell 0))
      | (go_at_call 179; refine (del_any p hrow hB (by simp at hb2; omega) hnl).mono ?_; rintro e w3 ⟨v3, rfl, hr3, S, ho3, hS3⟩))
    go_ret
    simp at hb2
    obtain ⟨q1, q2⟩ := Slc.of_own hr3
    refine ⟨v3, rfl, q1, fun g hg => ?_, (((Only.refl [] w).alloc _).trans ho2).step ho3 (fun k hk => .inr ?_)⟩
    · have := (q2 g hg).1
      omega
    · have := hS3 k hk
      omega
end Go.Proofs.YteinoiicnmemhaaGreatDoor.J
/- Contracts: the walk of frame.read, frame.First. -/
set_option linter.unusedVariables false
set_option linter.unusedSimpArgs false
namespace Go.Proofs.YteinoiicnmemhaaGreatDoor.J
open Go Go.RowKit Go.Sort
set_option maxRecDepth 100000 in
set_option maxHeartbeats 2000000 in
theorem fread_any {w : World} (b : ByteArray) (hb : b.size ≤ 1000000) :
    Calls Tryz.prog 197 #[.string b, .func (.func 198) #[] #[], .func (.func 199) #[] #[], .func (.func 200) #[] #[]] w fun e w' => e = .returned (.tuple #[.string (readF b).1, .int .i64 (readF b).2.1, .int .i64 (readF b).2.2]) ∧ Only [] w w' := by
  have hr : readF b = _ := rfl
  unfold readF at hr
  obtain ⟨R, hR⟩ : ∃ R, readF b = R := ⟨_, rfl⟩
  obtain ⟨n, hn⟩ : ∃ n, ofBe (b.data.toList.take 4) = n := ⟨_, rfl⟩
  have hR2 : readF b = R := hR
  unfold readF at hR2
  rw [hn] at hR2
  rw [hR]
  clear hr hR
  by_cases h1 : b.size < 12
  · rw [if_pos h1] at hR2
    have HR := Lib.hid hR2
    have d1 : decide ((b.size : Int) < 12) = true := decide_eq_true (by omega)
    clear hR2 hn
    go_enter Tryz.func197, Tryz.ntmps197
    go_wp2
    go_ret3
    rw [← HR.out]
    exact ⟨rfl, Only.refl _ _⟩
  rw [if_neg h1] at hR2
  have d1 : decide ((b.size : Int) < 12) = false := decide_eq_false (by omega)
  have s0 : (b.extract 0 4).size = 4 := ext_size b (by omega)
  have HF := Lib.hid (fun W => ffront_any (w := W) b (by omega) (by omega))
  have hL := fun W => flength_any (w := W) (b.extract 0 4) (by omega) (by omega)
  rw [ext_list, List.take_take, Nat.min_self, hn] at hL
  have HL := Lib.hid hL
  clear hL
  by_cases h2 : 4000 < n
  · rw [if_pos h2] at hR2
    have HR := Lib.hid hR2
    have d2 : decide (n ≤ 4000) = false := decide_eq_false (by omega)
    rw [d2] at HL
    clear hR2 hn
    go_enter Tryz.func197, Tryz.ntmps197
    go_wp2_with (first
      | (go_at_call 198; refine (HF.out _).mono ?_; rintro e1 w1 ⟨rfl, rfl⟩)
      | (go_at_call 222; refine (HL.out _).mono ?_; rintro e2 w2 ⟨rfl, k2⟩))
    go_ret3
    rw [← HR.out]
    exact ⟨rfl, k2⟩
  rw [if_neg h2] at hR2
  have d2 : decide (n ≤ 4000) = true := decide_eq_true (by omega)
  rw [d2] at HL
  have e2 := IntWalk.i64_in ((n : Int) + 12) ⟨by omega, by omega⟩
  by_cases h3 : b.size < n + 12
  · rw [if_pos h3] at hR2
    have HR := Lib.hid hR2
    have d3 : decide ((b.size : Int) < (n : Int) + 12) = true := decide_eq_true (by omega)
    clear hR2 hn
    go_enter Tryz.func197, Tryz.ntmps197
    go_wp2_with (first
      | (go_at_call 198; refine (HF.out _).mono ?_; rintro e1 w1 ⟨rfl, rfl⟩)
      | (go_at_call 222; refine (HL.out _).mono ?_; rintro e2 w2 ⟨rfl, k2⟩))
    go_ret3
    rw [← HR.out]
    exact ⟨rfl, k2⟩
  rw [if_neg h3] at hR2
  have d3 : decide ((b.size : Int) < (n : Int) + 12) = false := decide_eq_false (by omega)
  have hH := fun W => fhead_any (w := W) b (n + 12) (by omega) (by omega)
  have hH : ∀ W, Calls Tryz.prog 199 #[.string b, .int .i64 ((n : Int) + 12)] W fun e w' => e = .returned (.string (b.extract 0 (n + 12))) ∧ w' = W := by
    intro W
    have := hH W
    rw [show ((n + 12 : Nat) : Int) = (n : Int) + 12 by omega] at this
    exact this
  have hfs : (b.extract 0 (n + 12)).size = n + 12 := ext_size b (by omega)
  have hB := fun W => fback_any (w := W) (b.extract 0 (n + 12)) (by omega) (by omega)
  have hO := fun W => fopen_any (w := W) (b.extract 0 (n + 12)) (by omega) (by omega)
  rw [hfs, show n + 12 - 4 = n + 8 by omega] at hB
  obtain ⟨f, hf⟩ : ∃ f, b.extract 0 (n + 12) = f := ⟨_, rfl⟩
  rw [hf] at hB hO hH hR2 hfs
  have hdec := toList_decJ (f.extract (n + 8) (n + 12)) (b.extract 0 4)
  have HH := Lib.hid hH
  have HB := Lib.hid hB
  have HO := Lib.hid hO
  clear hH hB hO hf
  by_cases h4 : f.extract (n + 8) (n + 12) = b.extract 0 4
  · rw [if_neg (not_not_intro h4)] at hR2
    rw [decide_eq_true h4] at hdec
    obtain ⟨o1, ho1⟩ : ∃ o1, (openF f).1 = o1 := ⟨_, rfl⟩
    obtain ⟨o2, ho2⟩ : ∃ o2, (openF f).2 = o2 := ⟨_, rfl⟩
    rw [ho1, ho2] at HO hR2
    by_cases h5 : o2 = 0
    · rw [if_neg (not_not_intro h5)] at hR2
      subst h5
      have HR := Lib.hid hR2
      clear hR2 hn h4 ho1 ho2
      go_enter Tryz.func197, Tryz.ntmps197
      go_wp2_with (first
        | (go_at_call 198; refine (HF.out _).mono ?_; rintro e1 w1 ⟨rfl, rfl⟩)
        | (go_at_call 222; refine (HL.out _).mono ?_; rintro e2 w2 ⟨rfl, k2⟩)
        | (go_at_call 199; refine (HH.out _).mono ?_; rintro e3 w3 ⟨rfl, rfl⟩)
        | (go_at_call 200; refine (HB.out _).mono ?_; rintro e4 w4 ⟨rfl, rfl⟩)
        | (go_at_call 223; refine (HO.out _).mono ?_; rintro e5 w5 ⟨rfl, k5⟩))
      go_ret3
      rw [← HR.out]
      exact ⟨by simp, k2.trans k5⟩
    · rw [if_pos h5] at hR2
      have HR := Lib.hid hR2
      have d5 : decide (o2 = 0) = false := decide_eq_false h5
      clear hR2 hn h4 ho1 ho2
      go_enter Tryz.func197, Tryz.ntmps197
      go_wp2_with (first
        | (go_at_call 198; refine (HF.out _).mono ?_; rintro e1 w1 ⟨rfl, rfl⟩)
        | (go_at_call 222; refine (HL.out _).mono ?_; rintro e2 w2 ⟨rfl, k2⟩)
        | (go_at_call 199; refine (HH.out _).mono ?_; rintro e3 w3 ⟨rfl, rfl⟩)
        | (go_at_call 200; refine (HB.out _).mono ?_; rintro e4 w4 ⟨rfl, rfl⟩)
        | (go_at_call 223; refine (HO.out _).mono ?_; rintro e5 w5 ⟨rfl, k5⟩))
      go_ret3
      rw [← HR.out]
      exact ⟨rfl, k2.trans k5⟩
  · rw [if_pos h4] at hR2
    rw [decide_eq_false h4] at hdec
    have HR := Lib.hid hR2
    clear hR2 hn h4
    go_enter Tryz.func197, Tryz.ntmps197
    go_wp2_with (first
      | (go_at_call 198; refine (HF.out _).mono ?_; rintro e1 w1 ⟨rfl, rfl⟩)
      | (go_at_call 222; refine (HL.out _).mono ?_; rintro e2 w2 ⟨rfl, k2⟩)
      | (go_at_call 199; refine (HH.out _).mono ?_; rintro e3 w3 ⟨rfl, rfl⟩)
      | (go_at_call 200; refine (HB.out _).mono ?_; rintro e4 w4 ⟨rfl, rfl⟩))
    go_ret3
    rw [← HR.out]
    exact ⟨rfl, k2⟩
set_option maxRecDepth 100000 in
theorem ffirst_any {w : World} (b : ByteArray) (hb : b.size ≤ 1000000) :
    Calls Tryz.prog 173 #[.string b] w fun e w' => e = .returned (.tuple #[.string (readF b).1, .int .i64 (readF b).2.1, .int .i64 (readF b).2.2]) ∧ Only [] w w' := by
  have HR := Lib.hid (fread_any (w := w) b hb)
  go_enter Tryz.func173, Tryz.ntmps173
  go_wp2_with (go_at_call 197; refine HR.out.mono ?_; rintro e1 w1 ⟨rfl, k1⟩)
  go_ret3
  exact ⟨rfl, k1⟩
end Go.Proofs.YteinoiicnmemhaaGreatDoor.J
/- Contracts: the parts of a chunk (chunk.two, right, Start, Record, Finish, Room), a frame that is too long. -/
set_option linter.unusedVariables false
set_option linter.unusedSimpArgs false
namespace Go.Proofs.YteinoiicnmemhaaGreatDoor.J
open Go Go.RowKit Go.Sort
end Go.Proofs.YteinoiicnmemhaaGreatDoor.J
/- Contracts: a chunk's begin is read (chunk.begin). -/
set_option linter.unusedVariables false
set_option linter.unusedSimpArgs false
namespace Go.Proofs.YteinoiicnmemhaaGreatDoor.J
open Go Go.RowKit Go.Sort
theorem readF_n {b : ByteArray} {n : Nat} (h : (readF b).2.1 = n) : n ≤ b.size := by
  subst h
  unfold readF
  split
  · exact Nat.zero_le _
  split
  · exact Nat.zero_le _
  split
  · exact Nat.zero_le _
  split
  · exact Nat.zero_le _
  split
  · exact Nat.zero_le _
  · dsimp only; omega
end Go.Proofs.YteinoiicnmemhaaGreatDoor.J
/- Contracts: a chunk is read (chunk.Read). -/
set_option linter.unusedVariables false
set_option linter.unusedSimpArgs false
namespace Go.Proofs.YteinoiicnmemhaaGreatDoor.J
open Go Go.RowKit Go.Sort
/-- A chunk that is being read, in memory. -/
structure RdAt (w wr : World) (g : Nat) (x : ScanR) (A : Option Addr) (cap : Nat) : Prop where
  only : Only [] w wr
  zero : Blk wr w.heap.size 232 #[.int .i64 0, .int .i64 0, .slice none 0 0, .int .i64 0, .bool false]
  lt : w.heap.size < g
  st : Blk wr g 232 #[.int .i64 x.number, .int .i64 x.size, .slice A x.bodies.length cap, .int .i64 x.good, .bool x.done]
  own : wr.ownsRow w.heap.size 9 1 (.slice A x.bodies.length cap) x.bodies.length (strs x.bodies)
theorem RdAt.keep {w wr w' : World} {g : Nat} {x : ScanR} {A : Option Addr} {cap : Nat} (h : RdAt w wr g x A cap) (k : Only [] wr w') : RdAt w w' g x A cap :=
  ⟨h.only.trans k, k.blk h.zero (by simp), h.lt, k.blk h.st (by simp), own_only h.own k (by simp)⟩
theorem RdAt.apart {w wr : World} {g : Nat} {x : ScanR} {A : Option Addr} {cap : Nat} (h : RdAt w wr g x A cap) : ∀ q, (Value.slice A x.bodies.length cap).ownBlock = some q → q ≠ w.heap.size ∧ q ≠ g := by
  intro q hq
  obtain ⟨cur, hcur⟩ := own_type h.own hq
  exact ⟨fun e => by subst e; exact (h.zero.other hcur (by decide)) rfl, fun e => by subst e; exact (h.st.other hcur (by decide)) rfl⟩
theorem RdAt.sets {w wr : World} {g : Nat} {x : ScanR} {A : Option Addr} {cap : Nat} (h : RdAt w wr g x A cap) (n : Nat) :
    RdAt w ((wr.setCell ⟨g, 4, none⟩ (.bool true)).setCell ⟨g, 3, none⟩ (.int .i64 ((x.good : Int) + (n : Int)))) g { x with done := true, good := x.good + n } A cap := by
  have e2 : (x.good : Int) + (n : Int) = ((x.good + n : Nat) : Int) := by omega
  rw [e2]
  have hge : w.heap.size ≤ g := Nat.le_of_lt h.lt
  have k1 : Only [g] wr ((wr.setCell ⟨g, 4, none⟩ (.bool true)).setCell ⟨g, 3, none⟩ (.int .i64 ((x.good + n : Nat) : Int))) := by
    iterate 2 (refine Only.setCell ?_ (.inl (by simp)) _)
    exact Only.refl _ _
  have hne : w.heap.size ∉ [g] := by have := h.lt; simp; omega
  refine ⟨?_, k1.blk h.zero hne, h.lt, (h.st.set 4 (.bool true)).set 3 (.int .i64 ((x.good + n : Nat) : Int)), own_only h.own k1 (fun q hq hm => (h.apart q hq).2 (by simpa using hm))⟩
  iterate 2 (refine Only.setCell ?_ (.inr hge) _)
  exact h.only
theorem firstF_pos {l : List UInt8} (h : (firstF l).2.2 = 0) : 12 ≤ (firstF l).2.1 := by
  unfold firstF at h ⊢
  split
  · rename_i q; rw [if_pos q] at h; simp at h
  rename_i q1; rw [if_neg q1] at h
  split
  · rename_i q; rw [if_pos q] at h; simp at h
  rename_i q2; rw [if_neg q2] at h
  split
  · rename_i q; rw [if_pos q] at h; simp at h
  rename_i q3; rw [if_neg q3] at h
  split
  · rename_i q; rw [if_pos q] at h; simp at h
  rename_i q4; rw [if_neg q4] at h
  split
  · rename_i q; rw [if_pos q] at h; simp at h
  · dsimp only; omega
theorem ext_drop (b : ByteArray) (i : Nat) : (b.extract i b.size).data.toList = b.data.toList.drop i := by
  have h : b.data.toList.length = b.size := by simp
  simp [List.drop_take]
  exact List.take_of_length_le (by simp)
end Go.Proofs.YteinoiicnmemhaaGreatDoor.J
/- Contracts: what is no chunk is not read; a log's small calls (bytes, Synced, Broken, may, told). -/
set_option linter.unusedVariables false
set_option linter.unusedSimpArgs false
namespace Go.Proofs.YteinoiicnmemhaaGreatDoor.J
open Go Go.RowKit Go.Sort
section
variable {w : World} {lb db : Nat} {pre : ByteArray} {size syn mark err : Int} {pv : Value}
end
end Go.Proofs.YteinoiicnmemhaaGreatDoor.J
/- Contracts: all frames of a text (frame.All). -/
set_option linter.unusedVariables false
set_option linter.unusedSimpArgs false
namespace Go.Proofs.YteinoiicnmemhaaGreatDoor.J
open Go Go.RowKit Go.Sort
theorem app1p {W : World} {base : Nat} {v : Value} {l : List ByteArray} (hown : W.ownsRow base 9 1 v l.length (strs l)) (hb : base ≤ W.heap.size) (hl : l.length ≤ 10000000) (x : ByteArray) :
    ∃ A cap w', (Builtin.append_ #[96, 96] 96 #[v, .slice (some ⟨W.heap.size, 0, none⟩) 1 1]).run Tryz.prog (W.alloc (.cells #[.string x] 9)) = .ok (.slice A (l.length + 1) cap) w' ∧ w'.ownsRow base 9 1 (.slice A (l ++ [x]).length cap) (l ++ [x]).length (strs (l ++ [x])) ∧ Only v.ownBlock.toList (W.alloc (.cells #[.string x] 9)) w' := by
  have hO : Only [] W (W.alloc (.cells #[.string x] 9)) := ((Only.refl [] W).alloc _)
  obtain ⟨A, cap, w', h1, h2, h3, _⟩ := run_app (P := Tryz.prog) (w := (W.alloc (.cells #[.string x] 9))) 96 96 base 9 (.string ⟨#[]⟩) 1 16 Tryz.underlying96 infoSJ rfl (by decide) (own_only hown hO (by simp)) ((slc_new1 (w := W) (e := 9) (size := 1) (cs := strs [x]) rfl)) (by intro u hu; simp [strs] at hu; subst hu; rfl) (by omega) (by unfold maxLen; omega) (Nat.le_trans hb hO.size)
  refine ⟨A, cap, w', h1, ?_, h3⟩
  have e : strs (l ++ [x]) = strs l ++ strs [x] := by simp [strs]
  rw [List.length_append, e]
  exact h2
set_option maxRecDepth 100000 in
set_option maxHeartbeats 2000000 in
theorem fall_any {w : World} (b : ByteArray) (hb : b.size ≤ 1000000) : Calls Tryz.prog 149 #[.string b] w fun e w' =>
    ∃ A cap, e = .returned (.tuple #[.slice A (LogS.frames b.data.toList).1.length cap, .int .i64 (LogS.frames b.data.toList).2]) ∧
      w'.ownsRow w.heap.size 9 1 (.slice A (LogS.frames b.data.toList).1.length cap) (LogS.frames b.data.toList).1.length (strs ((LogS.frames b.data.toList).1.map baL)) ∧ Only [] w w' := by
  have hbl : b.data.toList.length = b.size := by simp
  have hr : LogS.frames b.data.toList = LogS.framesGo b.data.toList (b.size + 1) [] 0 := by unfold LogS.frames; rw [hbl]
  obtain ⟨R, hR⟩ : ∃ R, LogS.frames b.data.toList = R := ⟨_, rfl⟩
  rw [hR] at hr ⊢
  have HR := Lib.hid hr.symm
  clear hr hR
  go_enter Tryz.func149, Tryz.ntmps149
  go_wp2
  go_loopw [4, 5] (fun o a wr => ∃ (out : List (List UInt8)) (at_ : Nat) (A : Option Addr) (cap f : Nat), o = .slice A out.length cap ∧ a = .int .i64 at_ ∧ wr.ownsRow w.heap.size 9 1 (.slice A out.length cap) out.length (strs (out.map baL)) ∧ Only [] w wr ∧ at_ ≤ b.size ∧ out.length ≤ at_ ∧ Hid (LogS.framesGo b.data.toList f out at_ = R) ∧ b.size - at_ < f) (fun _ a _ => b.size + 1 - (intOf a).toNat)
  case atStart => exact ⟨[], 0, none, 0, b.size + 1, rfl, rfl, World.ownsRow_nil _ _ _ _, Only.refl _ _, Nat.zero_le _, Nat.le_refl _, HR, by omega⟩
  case round =>
    obtain ⟨out, at_, A, cap, f, rfl, rfl, hown, hO, hg, hbg, hf, hfu⟩ := hrel
    obtain ⟨f, rfl⟩ : ∃ f', f = f' + 1 := ⟨f - 1, by omega⟩
    have hs := hf.out
    rw [LogS.framesGo] at hs
    have hF := fun W => ffirst_any (w := W) (b.extract at_ b.size) (by rw [ByteArray.size_extract]; omega)
    have hnb : (firstF (b.data.toList.drop at_)).2.1 ≤ b.size - at_ := by
      have := readF_n (b := b.extract at_ b.size) rfl
      rw [readF_first, ext_drop, ByteArray.size_extract] at this
      dsimp only at this
      omega
    have hps := firstF_pos (l := b.data.toList.drop at_)
    rw [readF_first, ext_drop] at hF
    obtain ⟨⟨B, n, e⟩, hff⟩ : ∃ q, firstF (b.data.toList.drop at_) = q := ⟨_, rfl⟩
    rw [hff] at hs hF hnb hps
    dsimp only at hs hF hnb hps
    have HF := Lib.hid hF
    clear hF hff hf hbl HR
    by_cases he : e = 0
    · subst he
      have hp12 : 12 ≤ n := hps rfl
      clear hps
      rw [if_neg (by simp)] at hs
      have HS := Lib.hid hs
      have e1 := IntWalk.i64_in ((at_ : Int) + (n : Int)) ⟨by omega, by omega⟩
      clear hs
      go_wp2_with (first
        | (go_at_call 173; refine (HF.out _).mono ?_; rintro e2 w2 ⟨rfl, k2⟩
           have hown2 := own_only hown k2 (by simp)
           have hmap : (out.map baL).length = out.length := by simp
           rw [← hmap] at hown2
           obtain ⟨A4, c4, w4, hr4, hown4, hO4⟩ := app1p hown2 (hO.trans k2).size (by simp; omega) (baL B)
           rw [hmap] at hr4 hO4
           have HR4 := Lib.hid hr4
           clear hr4)
        | (at_builtin; refine Lib.wpList_append_run _ rfl (.tmp 21) (.tmp 23) 96 96 rfl _ _ rfl rfl _ _ HR4.out ?_))
      have hge := fun g hg => (World.ownsRow.lt hown g hg).1
      have hO5 : Only [] w w4 := ((hO.trans k2).alloc _).step hO4 (fun g hg => .inr (by have h9 := hge g (by simpa using hg); exact h9))
      refine ⟨⟨out ++ [B], at_ + n, A4, c4, f, by simp, by simp, ?_, hO5, by omega, by simp; omega, HS, by omega⟩, by simp [intOf]; omega⟩
      have e4 : (out ++ [B]).length = ((out.map baL) ++ [baL B]).length := by simp
      have e5 : (out ++ [B]).map baL = out.map baL ++ [baL B] := by simp
      rw [e4, e5]
      exact hown4
    · rw [if_pos he] at hs
      subst hs
      go_wp2_with (go_at_call 173; refine (HF.out _).mono ?_; rintro e2 w2 ⟨rfl, k2⟩)
      go_ret2
      exact ⟨A, cap, rfl, own_only hown k2 (by simp), hO.trans k2⟩
end Go.Proofs.YteinoiicnmemhaaGreatDoor.J
/- Contracts: a log's calls of its disk (bytes, drop, cut). -/
set_option linter.unusedVariables false
set_option linter.unusedSimpArgs false
namespace Go.Proofs.YteinoiicnmemhaaGreatDoor.J
open Go Go.RowKit Go.Sort
section
variable {w : World} {lb db mb M : Nat} {pre : ByteArray} {size syn mark err : Int} {pv kv : Value} {d : DS}
theorem jget_any (h : Blk w lb 203 #[.pointer (some ⟨db, 0, none⟩), .string pre, .int .i64 size, pv, .int .i64 syn, .int .i64 mark, .int .i64 err]) (hd : DiskAt w db mb d kv) (n : ByteArray) (hs : (d.get n).b.size ≤ 1125899906842624) :
    Calls Tryz.prog 158 #[.pointer (some ⟨lb, 0, none⟩), .string n] w fun e w' => e = .returned (.tuple #[.string (LogS.bytes d n).1, .int .i64 (LogS.bytes d n).2]) ∧ Only [] w w' := by
  have c0 := h.cell 0
  have HS := Lib.hid (size_any hd n)
  have HB := Lib.hid h
  have HD := Lib.hid hd
  have HZ := Lib.hid hs
  obtain ⟨⟨z, e⟩, hze⟩ : ∃ q, d.size n = q := ⟨_, rfl⟩
  unfold LogS.bytes
  rw [hze] at HS ⊢
  dsimp only at HS ⊢
  clear h hd hs hze
  by_cases he : e = 0
  · subst he
    rw [if_neg (by simp)]
    go_enter Tryz.func158, Tryz.ntmps158
    go_wp2_with (first
      | (go_at_call 125; refine HS.out.mono ?_; rintro e1 w1 ⟨rfl, k1⟩; have c0' := (k1.blk HB.out (by simp)).cell 0; have HR := Lib.hid (read_any (HD.out.only k1 (by simp) (by simp) (by simp)) n 0 z HZ.out))
      | (go_at_call 126; refine HR.out.mono ?_; rintro e2 w2 ⟨rfl, k2⟩))
    go_ret2
    exact ⟨rfl, k1.trans k2⟩
  · rw [if_pos he]
    go_enter Tryz.func158, Tryz.ntmps158
    go_wp2_with (go_at_call 125; refine HS.out.mono ?_; rintro e1 w1 ⟨rfl, k1⟩)
    go_ret2
    exact ⟨rfl, k1⟩
theorem jdrop_any (h : Blk w lb 203 #[.pointer (some ⟨db, 0, none⟩), .string pre, .int .i64 size, pv, .int .i64 syn, .int .i64 mark, .int .i64 err]) (hd : DiskAt w db mb d kv) (hk : d.Ok M) (hM : M ≤ 1125899906842624) (n : ByteArray) :
    Calls Tryz.prog 130 #[.pointer (some ⟨lb, 0, none⟩), .string n] w fun e w' => e = .returned (.int .i64 (LogS.drop d n).1) ∧ Leads db mb w kv w' (LogS.drop d n).2 := by
  have c0 := h.cell 0
  have HS := Lib.hid (remove_any hd hk hM n)
  obtain ⟨⟨e, d'⟩, hze⟩ : ∃ q, d.remove n = q := ⟨_, rfl⟩
  unfold LogS.drop
  rw [hze] at HS ⊢
  dsimp only at HS ⊢
  clear h hd hk hze
  by_cases he : e = 8
  · subst he
    rw [if_neg (by simp)]
    go_enter Tryz.func130, Tryz.ntmps130
    go_wp2_with (go_at_call 154; refine HS.out.mono ?_; rintro e1 w1 ⟨rfl, k1⟩)
    go_ret
    exact ⟨rfl, k1⟩
  · rw [if_pos he]
    go_enter Tryz.func130, Tryz.ntmps130
    go_wp2_with (go_at_call 154; refine HS.out.mono ?_; rintro e1 w1 ⟨rfl, k1⟩)
    go_ret
    exact ⟨rfl, k1⟩
end
end Go.Proofs.YteinoiicnmemhaaGreatDoor.J
/- Contracts: a number's text (codec.Digits), in the Log seat (turned from XLc6). -/
set_option linter.unusedVariables false
set_option linter.unusedSimpArgs false
namespace Go.Proofs.YteinoiicnmemhaaGreatDoor.J
open Go Go.RowKit Go.Sort Go.Lib Go.Shelf
/-- The table of the powers of ten is as the program's text lays it. -/
def Tab (w : World) : Prop := Lib.TabIs Tryz.prog w "internal/strconv.uint64pow10" .u64 Lib.pow10Tab
theorem Tab.only {w w' : World} (h : Tab w) (k : Only [] w w') : Tab w' := by
  unfold Tab Lib.TabIs World.var? at *
  obtain ⟨g, hg, h2⟩ := Option.bind_eq_some_iff.1 h
  rw [hg]
  simp only [Option.bind_some]
  cases q : w.heap[g]? with
  | none => rw [q] at h2; cases h2
  | some o =>
    have hlt : g < w.heap.size := (Array.getElem?_eq_some_iff.1 q).1
    rw [k.block g hlt (by simp)]
    exact h2
theorem digits_any {w : World} (n : Int) (ht : Tab w) (h0 : -9223372036854775808 ≤ n) (h1 : n ≤ 9223372036854775807) : Calls Tryz.prog 184 #[.int .i64 n] w fun e w' => e = .returned (.string (ba (Lib.itoa n))) ∧ Only [] w w' := by
  have HI := Lib.hid (Tryz.strconv_Itoa n h0 h1 w ht)
  go_enter Tryz.func184, Tryz.ntmps184
  go_wp2_with (go_at_call 207; refine HI.out.mono ?_; rintro e w1 ⟨rfl, k, os, rfl⟩)
  go_ret
  exact ⟨rfl, Only.regrown [] w (w.drawn + k) os⟩
theorem itoa_size {n : Int} (h0 : -9223372036854775808 ≤ n) (h1 : n ≤ 9223372036854775807) : (ba (Lib.itoa n)).size ≤ 21 := by
  have e : (ba (Lib.itoa n)).size = (ba (Lib.itoa n)).data.toList.length := by simp
  rw [e, bts_ba]
  exact Lib.itoa_length_le n h0 h1
end Go.Proofs.YteinoiicnmemhaaGreatDoor.J
/- Contracts: numbers in decimal are read, in the Log seat (XLc5 with other imports). -/
set_option linter.unusedVariables false
set_option linter.unusedSimpArgs false
namespace Go.Proofs.YteinoiicnmemhaaGreatDoor.J
open Go Go.RowKit Go.Sort Go.Lib Go.Shelf
theorem all_take {s : ByteArray} {f : UInt8 → Bool} (k : Nat) (h : k < s.size) : (s.data.toList.take (k + 1)).all f = ((s.data.toList.take k).all f && f s[k]) := by
  rw [List.take_succ_eq_append_getElem (by simpa using h), List.all_append]
  simp
  rfl
theorem all_false {l : List UInt8} {f : UInt8 → Bool} {k : Nat} (h : k < l.length) (hf : f l[k] = false) : l.all f = false := by
  rw [Bool.eq_false_iff]
  intro q
  rw [List.all_eq_true] at q
  have := q l[k] (List.getElem_mem h)
  rw [hf] at this
  cases this
theorem get_toNat {s : ByteArray} {k : Nat} (h : k < s.size) (b : UInt8) : ((s[k].toNat : Int) == (b.toNat : Int)) = decide (s[k] = b) := by
  by_cases q : s[k] = b
  · rw [q]; simp
  · rw [decide_eq_false q, beq_eq_false_iff_ne]
    intro e
    exact q (UInt8.toNat_inj.1 (by omega))
def valN (l : List UInt8) : Nat := l.foldl (fun n b => 10 * n + (b.toNat - 48)) 0
theorem digit_bd {b : UInt8} (h : digitB b = true) : 48 ≤ b.toNat ∧ b.toNat ≤ 57 := by
  unfold digitB at h
  simp at h
  omega
theorem fold_same : ∀ (l : List UInt8) (n : Nat), l.all digitB = true → l.foldl (fun (n : Int) (b : UInt8) => 10 * n + ((b.toNat : Int) - 48)) (n : Int) = ((l.foldl (fun (n : Nat) (b : UInt8) => 10 * n + (b.toNat - 48)) n : Nat) : Int)
  | [], n, _ => rfl
  | b :: l, n, h => by
    rw [List.all_cons, Bool.and_eq_true] at h
    have hb := digit_bd h.1
    rw [List.foldl_cons, List.foldl_cons, ← fold_same l _ h.2]
    congr 1
    omega
theorem val10_N {l : List UInt8} (h : l.all digitB = true) : val10 l = valN l := fold_same l 0 h
theorem fold_lt : ∀ (l : List UInt8) (n m : Nat), l.all digitB = true → n < 10 ^ m → l.foldl (fun (n : Nat) (b : UInt8) => 10 * n + (b.toNat - 48)) n < 10 ^ (m + l.length)
  | [], n, m, _, h => h
  | b :: l, n, m, h, hn => by
    rw [List.all_cons, Bool.and_eq_true] at h
    have hb := digit_bd h.1
    rw [List.foldl_cons, List.length_cons, show m + (l.length + 1) = m + 1 + l.length by omega]
    refine fold_lt l _ (m + 1) h.2 ?_
    rw [Nat.pow_succ]
    omega
theorem valN_lt {l : List UInt8} (h : l.all digitB = true) : valN l < 10 ^ l.length := by
  have := fold_lt l 0 0 h (by decide)
  rw [Nat.zero_add] at this
  exact this
theorem valN_small {l : List UInt8} (h : l.all digitB = true) {k : Nat} (hk : l.length ≤ k) : valN l < 10 ^ k := Nat.lt_of_lt_of_le (valN_lt h) (Nat.pow_le_pow_right (by decide) hk)
theorem valN_snoc (l : List UInt8) (b : UInt8) : valN (l ++ [b]) = 10 * valN l + (b.toNat - 48) := by
  unfold valN
  rw [List.foldl_append]
  rfl
theorem all_takeD {s : ByteArray} {k : Nat} (h : k < s.size) : (s.data.toList.take (k + 1)).all digitB = ((s.data.toList.take k).all digitB && digitB s[k]) := all_take k h
theorem valN_take {s : ByteArray} {k : Nat} (h : k < s.size) : valN (s.data.toList.take (k + 1)) = 10 * valN (s.data.toList.take k) + (s[k].toNat - 48) := by
  rw [List.take_succ_eq_append_getElem (by simpa using h), valN_snoc]
  rfl
/-- The text behind a sign. -/
def magS (s : ByteArray) : ByteArray := ba (magB s.data.toList)
theorem magS_size (s : ByteArray) : (magS s).size ≤ s.size := by
  have e : (magS s).size = (magS s).data.toList.length := by simp
  have e2 : s.data.toList.length = s.size := by simp
  rw [e]
  unfold magS magB
  rw [bts_ba]
  split
  · rw [List.length_drop]; omega
  · omega
def numRet (s : ByteArray) : Int × Int := match numB s.data.toList with
  | some v => (v, 0)
  | none => (0, 1)
theorem numRet_bad {s : ByteArray} (h : shapeB s.data.toList = false ∨ (magB s.data.toList).all digitB = false) : numRet s = (0, 1) := by
  unfold numRet numB
  rcases h with h | h <;> rw [h] <;> simp
theorem numRet_ok {s : ByteArray} (h1 : shapeB s.data.toList = true) (h2 : (magB s.data.toList).all digitB = true) : numRet s = (if negB s.data.toList then -(valN (magB s.data.toList) : Int) else (valN (magB s.data.toList) : Int), 0) := by
  unfold numRet numB
  rw [h1, h2, val10_N h2]
  simp
theorem shape_of (s : ByteArray) : shapeB s.data.toList = !(decide ((magS s).size = 0) || decide (18 < (magS s).size) || (decide ((magS s).data.toList.head? = some 48) && (decide (1 < (magS s).size) || negB s.data.toList))) := by
  have e : (magS s).size = (magB s.data.toList).length := by
    have : (magS s).size = (magS s).data.toList.length := by simp
    rw [this]
    unfold magS
    rw [bts_ba]
  unfold shapeB
  rw [e]
  unfold magS
  rw [bts_ba]
theorem head_get {s : ByteArray} (h : 0 < s.size) : decide (s.data.toList.head? = some 48) = ((s[0].toNat : Int) == 48) := by
  have := get_toNat h 48
  have h48 : ((48 : UInt8).toNat : Int) = 48 := rfl
  rw [h48] at this
  rw [this, List.head?_eq_getElem?, List.getElem?_eq_getElem (by simpa using h)]
  by_cases q : s[0] = 48
  · rw [decide_eq_true q, decide_eq_true]
    rw [← q]
    rfl
  · rw [decide_eq_false q, decide_eq_false]
    intro e
    injection e with e
    exact q e
set_option maxRecDepth 100000 in
set_option maxHeartbeats 4000000 in
theorem number_any (s : ByteArray) (w : World) (hs : s.size ≤ 1000000) : Calls Tryz.prog 156 #[.string s] w fun e w' => e = .returned (.tuple #[.int .i64 (numRet s).1, .int .i64 (numRet s).2]) ∧ w = w' := by
  have h1 := fun W => Tryz.strings_CutPrefix s ⟨#[45]⟩ W
  obtain ⟨d, hd⟩ : ∃ d, d = magS s := ⟨_, rfl⟩
  obtain ⟨p, hp⟩ : ∃ p, p = negB s.data.toList := ⟨_, rfl⟩
  have H1 : Hid (∀ W, Calls Tryz.prog 183 #[.string s, .string ⟨#[45]⟩] W fun e w' => e = .returned (.tuple #[.string d, .bool p]) ∧ w' = W) := by rw [hd, hp]; exact h1
  have hds : d.size ≤ s.size := by rw [hd]; exact magS_size s
  have hsh := shape_of s
  rw [← hd, ← hp] at hsh
  have hbad := fun (h : (d.data.toList).all digitB = false) => numRet_bad (s := s) (.inr (by rw [hd] at h; unfold magS at h; rw [bts_ba] at h; exact h))
  have hok := fun (h1 : shapeB s.data.toList = true) (h : (d.data.toList).all digitB = true) => numRet_ok (s := s) h1 (by rw [hd] at h; unfold magS at h; rw [bts_ba] at h; exact h)
  have hok2 : shapeB s.data.toList = true → (d.data.toList).all digitB = true → numRet s = (if p then -(valN d.data.toList : Int) else (valN d.data.toList : Int), 0) := by
    intro h1 h2
    rw [hok h1 h2, hp, hd]
    unfold magS
    rw [bts_ba]
  clear h1 hd hp hok
  obtain ⟨r, hr⟩ : ∃ r, r = numRet s := ⟨_, rfl⟩
  rw [← hr] at hbad hok2 ⊢
  have hb0 : shapeB s.data.toList = false → r = (0, 1) := fun h => by rw [hr]; exact numRet_bad (.inl h)
  clear hr
  obtain ⟨r1, r2⟩ := r
  have HB := Lib.hid hbad
  have HO := Lib.hid hok2
  have HB0 := Lib.hid hb0
  clear hbad hok2 hb0
  by_cases c0 : d.size = 0
  · have := HB0.out (by rw [hsh, decide_eq_true c0]; rfl)
    obtain ⟨rfl, rfl⟩ : r1 = 0 ∧ r2 = 1 := by injection this with a b; exact ⟨a, b⟩
    clear hsh HB HO HB0 this
    go_enter Tryz.func156, Tryz.ntmps156
    go_wp2_with (go_at_call 183; refine (H1.out _).mono ?_; rintro e w1 ⟨rfl, rfl⟩)
    go_ret2
    exact ⟨rfl, rfl⟩
  · by_cases c1 : 18 < d.size
    · have := HB0.out (by rw [hsh, decide_eq_true c1]; simp)
      obtain ⟨rfl, rfl⟩ : r1 = 0 ∧ r2 = 1 := by injection this with a b; exact ⟨a, b⟩
      clear hsh HB HO HB0 this
      go_enter Tryz.func156, Tryz.ntmps156
      go_wp2_with (go_at_call 183; refine (H1.out _).mono ?_; rintro e w1 ⟨rfl, rfl⟩)
      go_ret2
      exact ⟨rfl, rfl⟩
    · have hpos : 0 < d.size := by omega
      have hh := head_get hpos
      rw [hh, decide_eq_false c0, decide_eq_false c1] at hsh
      have hb256 : (d[0].toNat : Int) < 256 := by have := d[0].toNat_lt; omega
      have x0 : ((d.size : Int) == 0) = false := by rw [beq_eq_false_iff_ne]; omega
      have x1 : decide ((18 : Int) < (d.size : Int)) = false := decide_eq_false (by omega)
      cases hz : ((d[0].toNat : Int) == 48) with
      | true =>
        by_cases m1 : 1 < d.size
        · have hrr := HB0.out (by rw [hsh]; simp_all)
          obtain ⟨rfl, rfl⟩ : r1 = 0 ∧ r2 = 1 := by injection hrr with a b; exact ⟨a, b⟩
          clear hsh HB HO HB0 hrr hh
          go_enter Tryz.func156, Tryz.ntmps156
          go_wp2_with (go_at_call 183; refine (H1.out _).mono ?_; rintro e w1 ⟨rfl, rfl⟩)
          go_ret2
          exact ⟨rfl, rfl⟩
        · cases p with
          | true =>
            have hrr := HB0.out (by rw [hsh]; simp_all)
            obtain ⟨rfl, rfl⟩ : r1 = 0 ∧ r2 = 1 := by injection hrr with a b; exact ⟨a, b⟩
            clear hsh HB HO HB0 hrr hh
            go_enter Tryz.func156, Tryz.ntmps156
            go_wp2_with (go_at_call 183; refine (H1.out _).mono ?_; rintro e w1 ⟨rfl, rfl⟩)
            go_ret2
            exact ⟨rfl, rfl⟩
          | false =>
            have HSh : Hid (shapeB s.data.toList = true) := by unfold Hid; rw [hsh]; simp_all
            clear hsh HB0 hh
            go_enter Tryz.func156, Tryz.ntmps156
            go_wp2_with (go_at_call 183; refine (H1.out _).mono ?_; rintro e w1 ⟨rfl, rfl⟩)
            go_loop [6, 36] (fun a i => ∃ k : Nat, k ≤ d.size ∧ i = .int .i64 k ∧ a = .int .i64 (valN (d.data.toList.take k) : Int) ∧ Hid ((d.data.toList.take k).all digitB = true)) (fun _ i => d.size - (intOf i).toNat)
            case atStart => exact ⟨0, Nat.zero_le _, rfl, rfl, by simp [Hid]⟩
            case round =>
              obtain ⟨k, hk, rfl, rfl, hT⟩ := hrel
              by_cases hlt : k < d.size
              · have hb2 : (d[k].toNat : Int) < 256 := by have := d[k].toNat_lt; omega
                have hall := all_takeD hlt
                have hbadk : digitB d[k] = false → r1 = 0 ∧ r2 = 1 := fun h => by
                  have := HB.out (all_false (k := k) (by simpa using hlt) h)
                  injection this with a b
                  exact ⟨a, b⟩
                by_cases q1 : (d[k].toNat : Int) < 48
                · obtain ⟨rfl, rfl⟩ := hbadk (by unfold digitB; rw [decide_eq_true q1]; rfl)
                  clear hall hbadk HB HO hT
                  go_wp2
                  go_ret2
                  exact ⟨rfl, rfl⟩
                · by_cases q2 : 57 < (d[k].toNat : Int)
                  · obtain ⟨rfl, rfl⟩ := hbadk (by unfold digitB; rw [decide_eq_true q2]; simp)
                    clear hall hbadk HB HO hT
                    go_wp2
                    go_ret2
                    exact ⟨rfl, rfl⟩
                  · have hdk : digitB d[k] = true := by unfold digitB; rw [decide_eq_false q1, decide_eq_false q2]; rfl
                    rw [hT.out, hdk] at hall
                    have hv := valN_take hlt
                    have hbd := valN_small (k := 17) hT.out (by rw [List.length_take]; omega)
                    obtain ⟨n, hn⟩ : ∃ n, n = valN (d.data.toList.take k) := ⟨_, rfl⟩
                    rw [← hn] at hv hbd ⊢
                    have hbd : n < 100000000000000000 := hbd
                    have HN : Hid ((10 * (n : Int)) + ((d[k].toNat : Int) - 48) = ((valN (d.data.toList.take (k + 1)) : Nat) : Int)) := by
                      unfold Hid
                      rw [hv]
                      omega
                    have HA := Lib.hid hall
                    have e1 := IntWalk.u8_in ((d[k].toNat : Int) - 48) ⟨by omega, by omega⟩
                    have e2 := IntWalk.i64_in ((d[k].toNat : Int) - 48) ⟨by omega, by omega⟩
                    have e3 := IntWalk.i64_in (10 * (n : Int)) ⟨by omega, by omega⟩
                    have e4 := IntWalk.i64_in (10 * (n : Int) + ((d[k].toNat : Int) - 48)) ⟨by omega, by omega⟩
                    clear hall hbadk HB HO hT hv hn hdk
                    go_wp2
                    go_round
                    case rel => exact ⟨k + 1, hlt, by go_num, by rw [← HN.out], HA⟩
                    case measure => simp [intOf]; omega
              · have hall := hT.out
                rw [List.take_of_length_le (by simp; omega)] at hall ⊢
                have hrr := HO.out HSh.out hall
                have hbd := valN_small (k := 18) hall (by simp; omega)
                obtain ⟨n, hn⟩ : ∃ n, n = valN d.data.toList := ⟨_, rfl⟩
                rw [← hn] at hrr hbd ⊢
                have hbd : n < 1000000000000000000 := hbd
                have e1 := IntWalk.i64_in (-(n : Int)) ⟨by omega, by omega⟩
                obtain ⟨rfl, rfl⟩ : r1 = _ ∧ r2 = 0 := by injection hrr with a b; exact ⟨a, b⟩
                clear hall HB HO hT hrr hn
                go_wp2
                go_ret2
                exact ⟨rfl, rfl⟩
      | false =>
        cases p with
        | true =>
          have HSh : Hid (shapeB s.data.toList = true) := by unfold Hid; rw [hsh]; simp_all
          clear hsh HB0 hh
          go_enter Tryz.func156, Tryz.ntmps156
          go_wp2_with (go_at_call 183; refine (H1.out _).mono ?_; rintro e w1 ⟨rfl, rfl⟩)
          go_loop [6, 36] (fun a i => ∃ k : Nat, k ≤ d.size ∧ i = .int .i64 k ∧ a = .int .i64 (valN (d.data.toList.take k) : Int) ∧ Hid ((d.data.toList.take k).all digitB = true)) (fun _ i => d.size - (intOf i).toNat)
          case atStart => exact ⟨0, Nat.zero_le _, rfl, rfl, by simp [Hid]⟩
          case round =>
            obtain ⟨k, hk, rfl, rfl, hT⟩ := hrel
            by_cases hlt : k < d.size
            · have hb2 : (d[k].toNat : Int) < 256 := by have := d[k].toNat_lt; omega
              have hall := all_takeD hlt
              have hbadk : digitB d[k] = false → r1 = 0 ∧ r2 = 1 := fun h => by
                have := HB.out (all_false (k := k) (by simpa using hlt) h)
                injection this with a b
                exact ⟨a, b⟩
              by_cases q1 : (d[k].toNat : Int) < 48
              · obtain ⟨rfl, rfl⟩ := hbadk (by unfold digitB; rw [decide_eq_true q1]; rfl)
                clear hall hbadk HB HO hT
                go_wp2
                go_ret2
                exact ⟨rfl, rfl⟩
              · by_cases q2 : 57 < (d[k].toNat : Int)
                · obtain ⟨rfl, rfl⟩ := hbadk (by unfold digitB; rw [decide_eq_true q2]; simp)
                  clear hall hbadk HB HO hT
                  go_wp2
                  go_ret2
                  exact ⟨rfl, rfl⟩
                · have hdk : digitB d[k] = true := by unfold digitB; rw [decide_eq_false q1, decide_eq_false q2]; rfl
                  rw [hT.out, hdk] at hall
                  have hv := valN_take hlt
                  have hbd := valN_small (k := 17) hT.out (by rw [List.length_take]; omega)
                  obtain ⟨n, hn⟩ : ∃ n, n = valN (d.data.toList.take k) := ⟨_, rfl⟩
                  rw [← hn] at hv hbd ⊢
                  have hbd : n < 100000000000000000 := hbd
                  have HN : Hid ((10 * (n : Int)) + ((d[k].toNat : Int) - 48) = ((valN (d.data.toList.take (k + 1)) : Nat) : Int)) := by
                    unfold Hid
                    rw [hv]
                    omega
                  have HA := Lib.hid hall
                  have e1 := IntWalk.u8_in ((d[k].toNat : Int) - 48) ⟨by omega, by omega⟩
                  have e2 := IntWalk.i64_in ((d[k].toNat : Int) - 48) ⟨by omega, by omega⟩
                  have e3 := IntWalk.i64_in (10 * (n : Int)) ⟨by omega, by omega⟩
                  have e4 := IntWalk.i64_in (10 * (n : Int) + ((d[k].toNat : Int) - 48)) ⟨by omega, by omega⟩
                  clear hall hbadk HB HO hT hv hn hdk
                  go_wp2
                  go_round
                  case rel => exact ⟨k + 1, hlt, by go_num, by rw [← HN.out], HA⟩
                  case measure => simp [intOf]; omega
            · have hall := hT.out
              rw [List.take_of_length_le (by simp; omega)] at hall ⊢
              have hrr := HO.out HSh.out hall
              have hbd := valN_small (k := 18) hall (by simp; omega)
              obtain ⟨n, hn⟩ : ∃ n, n = valN d.data.toList := ⟨_, rfl⟩
              rw [← hn] at hrr hbd ⊢
              have hbd : n < 1000000000000000000 := hbd
              have e1 := IntWalk.i64_in (-(n : Int)) ⟨by omega, by omega⟩
              obtain ⟨rfl, rfl⟩ : r1 = _ ∧ r2 = 0 := by injection hrr with a b; exact ⟨a, b⟩
              clear hall HB HO hT hrr hn
              go_wp2
              go_ret2
              exact ⟨rfl, rfl⟩
        | false =>
          have HSh : Hid (shapeB s.data.toList = true) := by unfold Hid; rw [hsh]; simp_all
          clear hsh HB0 hh
          go_enter Tryz.func156, Tryz.ntmps156
          go_wp2_with (go_at_call 183; refine (H1.out _).mono ?_; rintro e w1 ⟨rfl, rfl⟩)
          go_loop [6, 36] (fun a i => ∃ k : Nat, k ≤ d.size ∧ i = .int .i64 k ∧ a = .int .i64 (valN (d.data.toList.take k) : Int) ∧ Hid ((d.data.toList.take k).all digitB = true)) (fun _ i => d.size - (intOf i).toNat)
          case atStart => exact ⟨0, Nat.zero_le _, rfl, rfl, by simp [Hid]⟩
          case round =>
            obtain ⟨k, hk, rfl, rfl, hT⟩ := hrel
            by_cases hlt : k < d.size
            · have hb2 : (d[k].toNat : Int) < 256 := by have := d[k].toNat_lt; omega
              have hall := all_takeD hlt
              have hbadk : digitB d[k] = false → r1 = 0 ∧ r2 = 1 := fun h => by
                have := HB.out (all_false (k := k) (by simpa using hlt) h)
                injection this with a b
                exact ⟨a, b⟩
              by_cases q1 : (d[k].toNat : Int) < 48
              · obtain ⟨rfl, rfl⟩ := hbadk (by unfold digitB; rw [decide_eq_true q1]; rfl)
                clear hall hbadk HB HO hT
                go_wp2
                go_ret2
                exact ⟨rfl, rfl⟩
              · by_cases q2 : 57 < (d[k].toNat : Int)
                · obtain ⟨rfl, rfl⟩ := hbadk (by unfold digitB; rw [decide_eq_true q2]; simp)
                  clear hall hbadk HB HO hT
                  go_wp2
                  go_ret2
                  exact ⟨rfl, rfl⟩
                · have hdk : digitB d[k] = true := by unfold digitB; rw [decide_eq_false q1, decide_eq_false q2]; rfl
                  rw [hT.out, hdk] at hall
                  have hv := valN_take hlt
                  have hbd := valN_small (k := 17) hT.out (by rw [List.length_take]; omega)
                  obtain ⟨n, hn⟩ : ∃ n, n = valN (d.data.toList.take k) := ⟨_, rfl⟩
                  rw [← hn] at hv hbd ⊢
                  have hbd : n < 100000000000000000 := hbd
                  have HN : Hid ((10 * (n : Int)) + ((d[k].toNat : Int) - 48) = ((valN (d.data.toList.take (k + 1)) : Nat) : Int)) := by
                    unfold Hid
                    rw [hv]
                    omega
                  have HA := Lib.hid hall
                  have e1 := IntWalk.u8_in ((d[k].toNat : Int) - 48) ⟨by omega, by omega⟩
                  have e2 := IntWalk.i64_in ((d[k].toNat : Int) - 48) ⟨by omega, by omega⟩
                  have e3 := IntWalk.i64_in (10 * (n : Int)) ⟨by omega, by omega⟩
                  have e4 := IntWalk.i64_in (10 * (n : Int) + ((d[k].toNat : Int) - 48)) ⟨by omega, by omega⟩
                  clear hall hbadk HB HO hT hv hn hdk
                  go_wp2
                  go_round
                  case rel => exact ⟨k + 1, hlt, by go_num, by rw [← HN.out], HA⟩
                  case measure => simp [intOf]; omega
            · have hall := hT.out
              rw [List.take_of_length_le (by simp; omega)] at hall ⊢
              have hrr := HO.out HSh.out hall
              have hbd := valN_small (k := 18) hall (by simp; omega)
              obtain ⟨n, hn⟩ : ∃ n, n = valN d.data.toList := ⟨_, rfl⟩
              rw [← hn] at hrr hbd ⊢
              have hbd : n < 1000000000000000000 := hbd
              have e1 := IntWalk.i64_in (-(n : Int)) ⟨by omega, by omega⟩
              obtain ⟨rfl, rfl⟩ : r1 = _ ∧ r2 = 0 := by injection hrr with a b; exact ⟨a, b⟩
              clear hall HB HO hT hrr hn
              go_wp2
              go_ret2
              exact ⟨rfl, rfl⟩
end Go.Proofs.YteinoiicnmemhaaGreatDoor.J
/- Contracts: a log's last part (chunklog last). -/
set_option linter.unusedVariables false
set_option linter.unusedSimpArgs false
namespace Go.Proofs.YteinoiicnmemhaaGreatDoor.J
open Go Go.RowKit Go.Sort
section
variable {w : World} {lb db n cap : Nat} {pre : ByteArray} {size syn mark err : Int} {A : Option Addr}
end
end Go.Proofs.YteinoiicnmemhaaGreatDoor.J
/- Contracts: strings.Repeat of the text 0, at most six times. -/
set_option linter.unusedVariables false
set_option linter.unusedSimpArgs false
namespace Go.Proofs.YteinoiicnmemhaaGreatDoor.J
open Go Go.RowKit Go.Sort
set_option maxRecDepth 100000 in
theorem repeat0_any {w : World} (k : Nat) (hk : k ≤ 6) : Calls Tryz.prog 185 #[.string ⟨#[48]⟩, .int .i64 k] w fun e w' => e = .returned (.string ⟨(List.replicate k 48).toArray⟩) ∧ w' = w := by
  have hm := Tryz.bits_Mul 1 k (by omega) (by omega)
  have HM := Lib.hid hm
  clear hm
  obtain rfl | rfl | rfl | rfl | rfl | rfl | rfl : k = 0 ∨ k = 1 ∨ k = 2 ∨ k = 3 ∨ k = 4 ∨ k = 5 ∨ k = 6 := by omega
  all_goals
    go_enter Tryz.func185, Tryz.ntmps185
    go_wp2_with (first
      | (go_at_call 208; refine (HM.out _).mono ?_; rintro e1 w1 ⟨rfl, rfl⟩)
      | (go_at_call 182; refine (Tryz.strings_HasPrefix _ _ _).mono ?_; rintro e2 w2 ⟨rfl, rfl⟩))
  all_goals (go_ret; exact ⟨rfl, rfl⟩)
end Go.Proofs.YteinoiicnmemhaaGreatDoor.J
/- Contracts: the name of a chunk (chunklog name). -/
set_option linter.unusedVariables false
set_option linter.unusedSimpArgs false
namespace Go.Proofs.YteinoiicnmemhaaGreatDoor.J
open Go Go.RowKit Go.Sort
set_option maxRecDepth 100000 in
set_option maxHeartbeats 1000000 in
theorem jname_any {w : World} {lb db : Nat} {pre : ByteArray} {size syn mark err : Int} {pv : Value}
    (h : Blk w lb 203 #[.pointer (some ⟨db, 0, none⟩), .string pre, .int .i64 size, pv, .int .i64 syn, .int .i64 mark, .int .i64 err]) (hp : pre.size ≤ 1000) (ht : Tab w) (k : Int) (h0 : -9223372036854775808 ≤ k) (h1 : k ≤ 9223372036854775807) :
    Calls Tryz.prog 157 #[.pointer (some ⟨lb, 0, none⟩), .int .i64 k] w fun e w' => e = .returned (.string (nameK pre k)) ∧ Only [] w w' := by
  have hD := digits_any k ht h0 h1
  have hsz := itoa_size h0 h1
  have hsl : (ba (Lib.itoa k)).size = (Lib.itoa k).length := baL_size _
  have hn : nameK pre k = (pre ++ baL (List.replicate (6 - (ba (Lib.itoa k)).size) 48)) ++ ba (Lib.itoa k) := by
    rw [hsl]
    exact (ByteArray.append_assoc).symm
  obtain ⟨R, hR⟩ : ∃ R, nameK pre k = R := ⟨_, rfl⟩
  rw [hR] at hn ⊢
  obtain ⟨t, ht0⟩ : ∃ t, ba (Lib.itoa k) = t := ⟨_, rfl⟩
  rw [ht0] at hD hsz hn
  have hr := fun W => repeat0_any (w := W) (6 - t.size) (by omega)
  have hz : (baL (List.replicate (6 - t.size) 48)).size = 6 - t.size := by rw [baL_size]; simp
  have hr : ∀ W, Calls Tryz.prog 185 #[.string ⟨#[48]⟩, .int .i64 ((6 - t.size : Nat) : Int)] W fun e w' => e = .returned (.string (baL (List.replicate (6 - t.size) 48))) ∧ w' = W := hr
  obtain ⟨z, hz0⟩ : ∃ z, baL (List.replicate (6 - t.size) 48) = z := ⟨_, rfl⟩
  rw [hz0] at hr hn hz
  have e1 := IntWalk.i64_in (6 - (t.size : Int)) ⟨by omega, by omega⟩
  have e2 : max (6 - (t.size : Int)) 0 = ((6 - t.size : Nat) : Int) := by omega
  obtain ⟨m, hm⟩ : ∃ m, 6 - t.size = m := ⟨_, rfl⟩
  rw [hm] at hr e2 hz
  have HD := Lib.hid hD
  have HN := Lib.hid hn
  have HR := Lib.hid hr
  have s1 : (pre ++ z).size = pre.size + m := by rw [ByteArray.size_append, hz]
  have HB := Lib.hid h
  clear hD hn hr hR ht0 hsl h hz0
  go_enter Tryz.func157, Tryz.ntmps157
  go_wp2_with (go_at_call 184; refine HD.out.mono ?_; rintro e3 w1 ⟨rfl, k1⟩)
  have d1 := Within.cell (S := []) ((k1.blk HB.out (by simp)).cell 1) (by simp)
  refine wp_region_in [] [0, 1, 2, 3, 4, 5, 6, 7, 10] [8, 9, 11] [12] (by kernel_rfl) (by kernel_rfl) (by intro c d u a w h; cases d <;> exact h) ?_
  show wpQuiet _ _ _ _ [_, _, _, _, _, _, _, _, _] _
  repeat (go_big_quiet_step (fail))
  refine wpQuiet_nil ?_
  show wpList _ _ _ [_] _ _
  go_wp2_with (go_at_call 185; refine (HR.out _).mono ?_; rintro e4 w2 ⟨rfl, rfl⟩)
  refine check_of (S := []) (Only.refl _ _).drew ?_
  show wpList _ _ _ [_] _ _
  go_wp2_with fail
  refine check_of (S := []) (Only.refl _ _).drew ?_
  show wpList _ _ _ [_] _ _
  go_wp2_with fail
  refine check_of (S := []) (Only.refl _ _).drew ?_
  show wpList _ _ _ [_] _ _
  go_wp2
  go_ret
  rw [HN.out]
  exact ⟨rfl, k1.drew⟩
end Go.Proofs.YteinoiicnmemhaaGreatDoor.J
