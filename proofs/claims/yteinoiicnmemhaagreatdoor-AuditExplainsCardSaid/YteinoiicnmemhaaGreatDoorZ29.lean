/- Proved here: contracts of functions and plain laws, part 29 of one proof. Conditions: each theorem names its own. -/
import Derived.Test.YteinoiicnmemhaaGreatDoorZ15
import Derived.Test.YteinoiicnmemhaaGreatDoorZ16
import Derived.Test.YteinoiicnmemhaaGreatDoorZ19
import Derived.Test.YteinoiicnmemhaaGreatDoorZ20
import Derived.Test.YteinoiicnmemhaaGreatDoorZ27
import Derived.Test.YteinoiicnmemhaaGreatDoorZ28
set_option linter.unusedSimpArgs false
set_option linter.unusedVariables false
namespace Go.Proofs.YteinoiicnmemhaaGreatDoor
section
open Go Go.RowKit Go.Shelf Go.Proofs Go.Sort
attribute [local go_sem] Oper.semAt_some
theorem keepsOS {B : Nat} {S : List Nat} {W W' : World} (k : Only S W W') (hS : ∀ g ∈ S, ∃ t cs, Blk W g t cs) : KeepsFrom B W W' := ⟨k.size, fun i o _ hi ho => (k.block i (Array.getElem?_eq_some_iff.1 hi).1 (fun q => by
  obtain ⟨t, cs, h⟩ := hS i q
  rw [show W.heap[i]? = _ from h] at hi
  cases hi
  cases ho)).trans hi⟩
theorem only_grownBy {S : List Nat} {W W' : World} {row : Option Nat} (hg : W.grownBy W' row) (hr : ∀ r, row = some r → r ∈ S) : Only S W W' := (Only.refl S W).grown hg (fun k hk => .inl (hr k hk))
theorem not_cells {W : World} {row : Option Nat} (hrow : ∀ r, row = some r → ∃ o : Obj, W.heap[r]? = some o ∧ o.isCells = false) {g : Nat} {t : TypeId} {cs : Array Value} (h : Blk W g t cs) : g ∉ row.toList := fun q => by
  obtain ⟨o, ho, hc⟩ := hrow g (by simpa using q)
  rw [show W.heap[g]? = _ from h] at ho
  cases ho
  cases hc
/-- What stands at the head of a round of a page backward. -/
structure BwAt (w W : World) (kv pv : Value) (f n : Int) (acc : List StoredR) (nx : Int) : Prop where
  below : Below w.heap.size w W
  b0 : Blk W w.heap.size 213 #[kv]
  b1 : Blk W (w.heap.size + 1) 3 #[.int .i64 f]
  b2 : Blk W (w.heap.size + 2) 3 #[.int .i64 n]
  b3 : Blk W (w.heap.size + 3) 57 #[.slice none 0 0, .int .i64 0, .bool false]
  b4 : Blk W (w.heap.size + 4) 32 #[.int .i64 0]
  b5 : Blk W (w.heap.size + 5) 57 #[pv, .int .i64 nx, .bool true]
  b6 : ∃ av, Blk W (w.heap.size + 6) 28 #[av]
  own : W.ownsRow w.heap.size 92 8 pv acc.length (acc.flatMap StoredR.cells)
theorem below_only {S : List Nat} {w W W' : World} (h : Below w.heap.size w W) (k : Only S W W') (hS : ∀ g ∈ S, w.heap.size ≤ g) : Below w.heap.size w W' := h.trans ⟨k.os, k.tape, k.output, k.size, fun i hi => k.block i (by have := h.size; omega) (fun q => by have := hS i q; omega)⟩
section
variable {w W W' : World} {kv pv : Value} {f n nx : Int} {acc : List StoredR}
theorem BwAt.nown (h : BwAt w W kv pv f n acc nx) : ∀ g, pv.ownBlock = some g → w.heap.size + 7 ≤ g ∧ g < W.heap.size := fun g hg => by
  obtain ⟨av, hb6⟩ := h.b6
  obtain ⟨cur, hcur⟩ := own_type h.own hg
  have h0 := hcur.other h.b0 (by decide)
  have h1 := hcur.other h.b1 (by decide)
  have h2 := hcur.other h.b2 (by decide)
  have h3 := hcur.other h.b3 (by decide)
  have h4 := hcur.other h.b4 (by decide)
  have h5 := hcur.other h.b5 (by decide)
  have h7 := hcur.other hb6 (by decide)
  have h6 := h.own.lt g hg
  omega
theorem BwAt.only {S : List Nat} (h : BwAt w W kv pv f n acc nx) (k : Only S W W') (hS : ∀ g ∈ S, w.heap.size + 7 ≤ g) (hp : ∀ g, pv.ownBlock = some g → g ∉ S) : BwAt w W' kv pv f n acc nx := by
  have no : ∀ i, i < w.heap.size + 7 → i ∉ S := fun i hi q => by have := hS i q; omega
  refine ⟨h.below.trans ⟨k.os, k.tape, k.output, k.size, fun i hi => k.block i (by have := h.below.size; omega) (no i (by omega))⟩, k.blk h.b0 (no _ (by omega)), k.blk h.b1 (no _ (by omega)), k.blk h.b2 (no _ (by omega)), k.blk h.b3 (no _ (by omega)), k.blk h.b4 (no _ (by omega)), k.blk h.b5 (no _ (by omega)), (by obtain ⟨av, hb⟩ := h.b6; exact ⟨av, k.blk hb (no _ (by omega))⟩), own_only h.own k hp⟩
theorem BwAt.only0 (h : BwAt w W kv pv f n acc nx) (k : Only [] W W') : BwAt w W' kv pv f n acc nx := h.only k (by simp) (by simp)
theorem BwAt.grown {row : Option Nat} (h : BwAt w W kv pv f n acc nx) (hg : W.grownBy W' row) (hr : ∀ r, row = some r → ∃ o : Obj, W.heap[r]? = some o ∧ o.isCells = false) (hB : ∀ r, row = some r → w.heap.size + 7 ≤ r) : BwAt w W' kv pv f n acc nx :=
  h.only (only_grownBy (S := row.toList) hg (fun r e => by simp [e])) (fun g q => hB g (by simpa using q)) (fun g q => by
    obtain ⟨cur, hcur⟩ := own_type h.own q
    exact not_cells hr hcur)
end
set_option maxRecDepth 100000 in
set_option maxHeartbeats 4000000 in
theorem backwardP_any {w : World} {v : Value} {l : List StoredR} {f n : Int} (hl : Slc w 8 v l.length (l.flatMap StoredR.cells)) (hb : l.length ≤ 1000000) (hk : ∀ s ∈ l, 0 ≤ StoredR.position s ∧ StoredR.position s ≤ 1000000000) :
    Calls Tryz.prog 114 #[.func (.func 143) #[] #[], v, .int .i64 f, .int .i64 n] w (PageOut w StoredR.position l f n (pageBy StoredR.position l f n true)) := by
  cases hw : wrongP f n with
  | true =>
    obtain ⟨A, cap, rfl, hnc, hcm, hel⟩ := hl.openE StoredR.cells (fun _ => rfl)
    have HW := Lib.hid hw
    have HV := Lib.hid (fun W => vwrong_any f n W)
    rw [hw] at HV
    clear hel hw
    have hR : pageBy StoredR.position l f n true = (PageR.zero, 1) := by unfold pageBy; rw [HW.out]; rfl
    rw [hR]
    clear hR
    go_enter Tryz.func114, Tryz.ntmps114
    go_wp2_with (go_at_call 144; refine (HV.out _).mono ?_; rintro e w1 ⟨rfl, rfl⟩)
    refine bodyPost_ret (v := .tuple #[.agg #[.slice none 0 0, .int .i64 0, .bool false], .int .i64 1]) (by simp [results, Tryz.results114, go_sem]) rfl ⟨_, rfl, World.ownsRow_nil _ _ _ _, ?_⟩
    iterate 5 (refine Only.alloc ?_ _)
    exact Only.refl [] w
  | false =>
    obtain ⟨A, cap, rfl, hnc, hcm, hel⟩ := hl.openE StoredR.cells (fun _ => rfl)
    have HW := Lib.hid hw
    have HV := Lib.hid (fun W => vwrong_any f n W)
    rw [hw] at HV
    have hn : 1 ≤ n ∧ n ≤ 100 := by simp [wrongP] at hw; omega
    clear hw
    have hR : pageBy StoredR.position l f n true = (bwdGo StoredR.position f n l.reverse [] f, 0) := by unfold pageBy; rw [HW.out]; rfl
    rw [hR]
    clear hR
    obtain ⟨R, hR⟩ : ∃ R, R = bwdGo StoredR.position f n l.reverse [] f := ⟨_, rfl⟩
    rw [← hR]
    have HR := Lib.hid hR
    clear hR
    refine (callsIn_wide (n := 3)).1 ?_
    refine callsIn_of_wp_marks Tryz.func114 rfl trivial ?_ rfl
    simp only [Tryz.ntmps114, List.size_toArray, List.length_cons, List.length_nil, Nat.reduceAdd, Nat.reduceSub, Array.replicate_succ, Array.replicate_zero, List.push_toArray, List.append_toArray, List.nil_append, List.cons_append]
    gi_wp2_with (first
      | (refine ⟨trivial, ?_⟩; gi_at_call 144; refine (callsIn_wide.2 (HV.out _)).mono ?_; rintro e w1 ⟨rfl, rfl⟩)
      | (refine ⟨trivial, ?_⟩; gi_at_call 145; refine (back_in Fence.wide _ trivial rfl _ _ _ _).mono ?_; rintro e w2 ⟨rfl, rfl⟩))
    obtain ⟨W2, hW2⟩ : ∃ W2, W2 = ((((((w.alloc (.cells #[.func (.func 143) #[] #[]] 213)).alloc (.cells #[.int .i64 f] 3)).alloc (.cells #[.int .i64 n] 3)).alloc (.cells #[.slice none 0 0, .int .i64 0, .bool false] 57)).alloc (.cells #[.int .i64 0] 32)).alloc (.cells #[.slice none 0 0, .int .i64 f, .bool true] 57)).alloc (.cells #[.slice A l.length cap] 28) := ⟨_, rfl⟩
    rw [← hW2]
    have hz2 : W2.heap.size = w.heap.size + 7 := by rw [hW2]; simp
    have hO2 : Only [] w W2 := by
      rw [hW2]
      iterate 7 (refine Only.alloc ?_ _)
      exact Only.refl [] w
    have hB2 : BwAt w W2 (.func (.func 143) #[] #[]) (.slice none 0 0) f n [] f := by
      have g0 := Blk.new w 213 #[.func (.func 143) #[] #[]]
      have g1 := Blk.new (w.alloc (.cells #[.func (.func 143) #[] #[]] 213)) 3 #[.int .i64 f]
      have g2 := Blk.new ((w.alloc (.cells #[.func (.func 143) #[] #[]] 213)).alloc (.cells #[.int .i64 f] 3)) 3 #[.int .i64 n]
      have g3 := Blk.new (((w.alloc (.cells #[.func (.func 143) #[] #[]] 213)).alloc (.cells #[.int .i64 f] 3)).alloc (.cells #[.int .i64 n] 3)) 57 #[.slice none 0 0, .int .i64 0, .bool false]
      have g4 := Blk.new ((((w.alloc (.cells #[.func (.func 143) #[] #[]] 213)).alloc (.cells #[.int .i64 f] 3)).alloc (.cells #[.int .i64 n] 3)).alloc (.cells #[.slice none 0 0, .int .i64 0, .bool false] 57)) 32 #[.int .i64 0]
      have g5 := Blk.new (((((w.alloc (.cells #[.func (.func 143) #[] #[]] 213)).alloc (.cells #[.int .i64 f] 3)).alloc (.cells #[.int .i64 n] 3)).alloc (.cells #[.slice none 0 0, .int .i64 0, .bool false] 57)).alloc (.cells #[.int .i64 0] 32)) 57 #[.slice none 0 0, .int .i64 f, .bool true]
      simp only [World.size_alloc] at g0 g1 g2 g3 g4 g5
      refine ⟨hO2.toBelow, ?_, ?_, ?_, ?_, ?_, ?_, ⟨.slice A l.length cap, ?_⟩, World.ownsRow_nil _ _ _ _⟩
      · rw [hW2]; exact (((((((Only.refl [] _).alloc _).alloc _).alloc _).alloc _).alloc _).alloc _).blk g0 (by simp)
      · rw [hW2]; exact ((((((Only.refl [] _).alloc _).alloc _).alloc _).alloc _).alloc _).blk g1 (by simp)
      · rw [hW2]; exact (((((Only.refl [] _).alloc _).alloc _).alloc _).alloc _).blk g2 (by simp)
      · rw [hW2]; exact ((((Only.refl [] _).alloc _).alloc _).alloc _).blk g3 (by simp)
      · rw [hW2]; exact (((Only.refl [] _).alloc _).alloc _).blk g4 (by simp)
      · rw [hW2]; exact ((Only.refl [] _).alloc (.cells #[.slice A l.length cap] 28)).blk g5 (by simp)
      · have g6 := Blk.new ((((((w.alloc (.cells #[.func (.func 143) #[] #[]] 213)).alloc (.cells #[.int .i64 f] 3)).alloc (.cells #[.int .i64 n] 3)).alloc (.cells #[.slice none 0 0, .int .i64 0, .bool false] 57)).alloc (.cells #[.int .i64 0] 32)).alloc (.cells #[.slice none 0 0, .int .i64 f, .bool true] 57)) 28 #[.slice A l.length cap]
        simp only [World.size_alloc] at g6
        rw [hW2]
        exact g6
    obtain ⟨T, hT1, hT2, hT3⟩ : ∃ T : List Nat, w.heap.size + 6 ∈ T ∧ (∀ g, (Value.slice A l.length cap).ownBlock = some g → g ∈ T ∨ l.length = 0) ∧ ∀ i ∈ T, i = w.heap.size + 6 ∨ i < w.heap.size := by
      by_cases h0 : l.length = 0
      · exact ⟨[w.heap.size + 6], by simp, fun g _ => .inr h0, fun i hi => .inl (by simpa using hi)⟩
      · obtain ⟨b0, o0, hA, hb0, _⟩ := hel 0 (by omega)
        subst hA
        refine ⟨[w.heap.size + 6, b0], by simp, fun g hg => .inl ?_, fun i hi => ?_⟩
        · cases hg
          simp
        · simp at hi
          rcases hi with rfl | rfl
          · exact .inl rfl
          · exact .inr hb0
    have hbx : W2.cell? ⟨w.heap.size + 6, 0, none⟩ = some (.slice A l.length cap) := by
      rw [hW2]
      have := Blk.new ((((((w.alloc (.cells #[.func (.func 143) #[] #[]] 213)).alloc (.cells #[.int .i64 f] 3)).alloc (.cells #[.int .i64 n] 3)).alloc (.cells #[.slice none 0 0, .int .i64 0, .bool false] 57)).alloc (.cells #[.int .i64 0] 32)).alloc (.cells #[.slice none 0 0, .int .i64 f, .bool true] 57)) 28 #[.slice A l.length cap]
      simp only [World.size_alloc] at this
      exact this.cell 0
    have hsl2 := hl.only0 hO2
    have hK := Lib.hid hk
    clear hW2 hk hl hel hnc hcm HV
    refine wpIn_rangeFunc_ownH rfl (by omega) (gf := 172) (lb := #[.pointer (some ⟨w.heap.size + 6, 0, none⟩)]) rfl trivial (enters_of Tryz.func172 (by kernel_rfl) rfl)
      (bk_stops2 Fence.wide _ trivial rfl (by omega) T (w.heap.size + 6) A cap l hb W2 hT1 (fun i hi => by rcases hT3 i hi with q | q <;> omega) hbx hsl2 hT2) (fun {A B C} h1 h2 => KeepT.trans h1 h2) (KeepT.put (fun i hi => by rcases hT3 i hi with q | q <;> omega)) (Below.refl _ _) (fun _ => rfl)
      (fun pre W => ∃ pv acc nx, BwAt w W (.func (.func 143) #[] #[]) pv f n acc nx ∧ W2.heap.size ≤ W.heap.size ∧ acc.length ≤ pre.length ∧ Hid (∀ rest, bwdGo StoredR.position f n (pre.map (·.x) ++ rest) [] f = bwdGo StoredR.position f n rest acc nx))
      (fun c pre W => c = .ret ∧ ∃ pv acc nx, (Blk W (w.heap.size + 3) 57 #[pv, .int .i64 nx, .bool false] ∧ Blk W (w.heap.size + 4) 32 #[.int .i64 0] ∧ W.ownsRow w.heap.size 92 8 pv acc.length (acc.flatMap StoredR.cells) ∧ Below w.heap.size w W) ∧ Hid (∀ rest, bwdGo StoredR.position f n (pre.map (·.x) ++ rest) [] f = ⟨acc, nx, false⟩))
      ?hI ?hIx
      ⟨.slice none 0 0, [], f, hB2, Nat.le_refl _, Nat.le_refl _, fun rest => rfl⟩
      (fun x a' W => ∃ (Bx : Nat) (pv u1 u2 : Value), w.heap.size + 7 ≤ Bx ∧ Blk W Bx 92 #[.int .i64 x.x.ev.id, .string x.x.ev.type, .string x.x.ev.data, .float .f64 x.x.ev.value, .string x.x.stream, .int .i64 x.x.version, .int .i64 x.x.position, .int .i64 x.x.time] ∧ Blk W (w.heap.size + 5) 57 #[pv, u1, u2] ∧ pv.ownBlock ≠ some Bx ∧ a' = { tmps := #[.func (.func 143) #[] #[], .slice A l.length cap, .int .i64 f, .int .i64 n, .pointer (some ⟨w.heap.size, 0, none⟩), undef, .pointer (some ⟨w.heap.size + 1, 0, none⟩), .pointer (some ⟨w.heap.size + 1 + 1, 0, none⟩), .pointer (some ⟨w.heap.size + 1 + 1 + 1, 0, none⟩), .pointer (some ⟨w.heap.size + 1 + 1 + 1 + 1, 0, none⟩), .pointer (some ⟨w.heap.size + 1 + 1 + 1 + 1 + 1, 0, none⟩), undef, .pointer (some ⟨Bx, 0, none⟩), .int .i64 f, .int .i64 n, .bool false, undef, .int .i64 f, .agg #[.slice none 0 0, .int .i64 f, .bool true], .slice A l.length cap, .func (.func 172) #[] #[.pointer (some ⟨w.heap.size + 1 + 1 + 1 + 1 + 1 + 1, 0, none⟩)], .int .i64 x.i, .agg #[.int .i64 x.x.ev.id, .string x.x.ev.type, .string x.x.ev.data, .float .f64 x.x.ev.value, .string x.x.stream, .int .i64 x.x.version, .int .i64 x.x.position, .int .i64 x.x.time], undef, undef, undef, undef, undef, undef, undef, undef, undef, undef, undef, undef, undef, undef, undef, undef, undef, undef, undef, undef, undef, undef, undef, undef, undef, undef, undef], defers := [] })
      ?hAx ?assign ?body ?done ?stop
    case hI =>
      rintro pre W W' row ⟨pv, acc, nx, h1, h2, h3, h4⟩ hg hr
      exact ⟨pv, acc, nx, h1.grown hg (fun r e => (hr r e).2) (fun r e => by have := (hr r e).1; omega), Nat.le_trans h2 hg.size, h3, h4⟩
    case hIx =>
      rintro c pre W W' row ⟨rfl, pv, acc, nx, ⟨h1, h2, h3, h4⟩, h5⟩ hg hr
      have ko : Only row.toList W W' := only_grownBy hg (fun r e => by simp [e])
      have hc := fun r e => (hr r e).2
      refine ⟨rfl, pv, acc, nx, ⟨ko.blk h1 (not_cells hc h1), ko.blk h2 (not_cells hc h2), own_only h3 ko (fun g q => ?_), ?_⟩, h5⟩
      · obtain ⟨cur, hcur⟩ := own_type h3 q
        exact not_cells hc hcur
      · exact h4.trans ⟨ko.os, ko.tape, ko.output, ko.size, fun i hi => ko.block i (by have := h4.size; omega) (fun q => by have := (hr i (by simpa using q)).1; omega)⟩
    case hAx =>
      rintro x a' s W W' row ⟨Bx, pv, u1, u2, h1, h2, h3, h4, h5⟩ hg hr
      have ko : Only row.toList W W' := only_grownBy hg (fun r e => by simp [e])
      have hc := fun r e => (hr r e).2
      exact ⟨Bx, pv, u1, u2, h1, ko.blk h2 (not_cells hc h2), ko.blk h3 (not_cells hc h3), h4, h5⟩
    case assign =>
      rintro ly pre x W K ⟨pv, acc, nx, h1, h2, h3, h4⟩ hK2
      have hsf := stF
      unfold bkV
      gi_wp2
      have hkk := (Only.refl [] W).alloc (.cells #[.int .i64 x.x.ev.id, .string x.x.ev.type, .string x.x.ev.data, .float .f64 x.x.ev.value, .string x.x.stream, .int .i64 x.x.version, .int .i64 x.x.position, .int .i64 x.x.time] 92)
      refine hK2 _ _ (keepsOS hkk (by simp)) (KeepT.only hkk (fun i hi => ⟨by rcases hT3 i hi with q | q <;> omega, by simp⟩)) ⟨pv, acc, nx, h1.only0 hkk, Nat.le_trans h2 hkk.size, h3, h4⟩ ⟨W.heap.size, pv, .int .i64 nx, .bool true, by omega, Blk.new W _ _, (h1.only0 hkk).b5, fun q => ?_, rfl⟩
      have := (h1.nown _ q).2
      omega
    case body =>
      rintro ly pre x a' W hly hlo ⟨pv, acc, nx, hB, hz, ha, hRun⟩ ⟨Bx, pv', u1, u2, hBx, hX, hP5, hne, rfl⟩ hlt
      have hpe : pv' = pv := by
        have e : some (Obj.cells #[pv', u1, u2] 57) = some (Obj.cells #[pv, .int .i64 nx, .bool true] 57) := hP5.symm.trans hB.b5
        injection e with e
        injection e with e
        exact Option.some.inj (show some pv' = some pv from congrArg (fun a : Array Value => a[0]?) e)
      subst hpe
      obtain ⟨Ap, cp, hpv, hap1, hap2⟩ := own_form hB.own
      subst hpv
      unfold maxLen at hap2
      have hKx := hK.out x.x x.mem
      have hKC := Lib.hid (fun W => position_any x.x W)
      have hSt : Hid (∀ rest, bwdGo StoredR.position f n ((pre ++ [x]).map (·.x) ++ rest) [] f = if f < StoredR.position x.x then bwdGo StoredR.position f n rest acc nx else if (acc.length : Int) = n then ⟨acc, nx, false⟩ else bwdGo StoredR.position f n rest (acc ++ [x.x]) (max (StoredR.position x.x) 0 - 1)) := fun rest => by
        rw [List.map_append, List.append_assoc]
        exact hRun.out _
      have D0 := Within.cell (S := []) (show W.cell? ⟨w.heap.size, 0, none⟩ = some (.func (.func 143) #[] #[]) from hB.b0.cell 0) (by simp)
      have D1 := Within.cell (S := []) (show W.cell? ⟨w.heap.size + 1, 0, none⟩ = some (.int .i64 f) from hB.b1.cell 0) (by simp)
      have X0 := Within.cell (S := []) (show W.cell? ⟨Bx, 0, none⟩ = some (.int .i64 x.x.ev.id) from hX.cell 0) (by simp)
      have X1 := Within.cell (S := []) (show W.cell? ⟨Bx, 1, none⟩ = some (.string x.x.ev.type) from hX.cell 1) (by simp)
      have X2 := Within.cell (S := []) (show W.cell? ⟨Bx, 2, none⟩ = some (.string x.x.ev.data) from hX.cell 2) (by simp)
      have X3 := Within.cell (S := []) (show W.cell? ⟨Bx, 3, none⟩ = some (.float .f64 x.x.ev.value) from hX.cell 3) (by simp)
      have X4 := Within.cell (S := []) (show W.cell? ⟨Bx, 4, none⟩ = some (.string x.x.stream) from hX.cell 4) (by simp)
      have X5 := Within.cell (S := []) (show W.cell? ⟨Bx, 5, none⟩ = some (.int .i64 x.x.version) from hX.cell 5) (by simp)
      have X6 := Within.cell (S := []) (show W.cell? ⟨Bx, 6, none⟩ = some (.int .i64 x.x.position) from hX.cell 6) (by simp)
      have X7 := Within.cell (S := []) (show W.cell? ⟨Bx, 7, none⟩ = some (.int .i64 x.x.time) from hX.cell 7) (by simp)
      have hsf := stF
      have HB := Lib.hid hB
      have HX := Lib.hid hX
      clear hB hX hP5 hRun
      gi_wp2_with fail
      refine wpIn_region_in [] [0, 1, 3] [2, 4, 5] [] (by rintro ⟨a, w, h⟩; exact h) (by kernel_rfl) (by kernel_rfl) (by kernel_rfl) (by intro c d u a w h; cases d <;> exact h) ?_
      show wpQuiet _ _ _ _ [_, _, _] _
      repeat (go_big_quiet_step (fail))
      refine wpQuiet_nil ?_
      clear D0 D1 X0 X1 X2 X3 X4 X5 X6 X7
      show wpList _ _ _ [_] _ _
      go_wp2_with (go_at_call 143; refine (hKC.out _).mono ?_; rintro e w3 ⟨rfl, k3⟩)
      have o3 := (Only.refl [] W).drew.trans k3
      refine check_of (S := []) o3 ?_
      show wpList _ _ _ [_] _ _
      go_wp2_with fail
      refine check_of (S := []) o3 ?_
      show wpList _ _ _ [_] _ _
      go_wp2_with fail
      refine check_last (S := []) o3 (fun _ _ q => q) ?_
      have hB3 := HB.out.only0 o3
      have hX3 := o3.blk HX.out (by simp)
      have hz3 := o3.size
      by_cases h1 : f < StoredR.position x.x
      · have hN : Hid (∀ rest, bwdGo StoredR.position f n ((pre ++ [x]).map (·.x) ++ rest) [] f = bwdGo StoredR.position f n rest acc nx) := fun rest => by rw [hSt.out, if_pos h1]
        have h1b : decide (StoredR.position x.x > f) = true := decide_eq_true h1
        gi_wp2
        exact ⟨keepsOS o3 (by simp), KeepT.only o3 (fun i hi => ⟨by rcases hT3 i hi with q | q <;> omega, by simp⟩), _, acc, nx, hB3, by omega, by simp; omega, hN⟩
      · have h1b : decide (StoredR.position x.x > f) = false := decide_eq_false h1
        have P5 : ∀ i, w3.cell? ⟨w.heap.size + 1 + 1 + 1 + 1 + 1, i, none⟩ = #[Value.slice Ap acc.length cp, .int .i64 nx, .bool true][i]? := fun i => hB3.b5.cell i
        have F5 : ∀ i, w3.frozen? ⟨w.heap.size + 1 + 1 + 1 + 1 + 1, i, none⟩ = false := fun i => hB3.b5.free i
        have P2 : w3.cell? ⟨w.heap.size + 1 + 1, 0, none⟩ = some (.int .i64 n) := hB3.b2.cell 0
        by_cases h2 : (acc.length : Int) = n
        · have h2b : ((acc.length : Int) == n) = true := by simpa using h2
          have hN : Hid (∀ rest, bwdGo StoredR.position f n ((pre ++ [x]).map (·.x) ++ rest) [] f = ⟨acc, nx, false⟩) := fun rest => by rw [hSt.out, if_neg h1, if_pos h2]
          have P3 : ∀ i, w3.cell? ⟨w.heap.size + 1 + 1 + 1, i, none⟩ = #[Value.slice none 0 0, .int .i64 0, .bool false][i]? := fun i => hB3.b3.cell i
          have F3 : ∀ i, w3.frozen? ⟨w.heap.size + 1 + 1 + 1, i, none⟩ = false := fun i => hB3.b3.free i
          have P4 : ∀ i, w3.cell? ⟨w.heap.size + 1 + 1 + 1 + 1, i, none⟩ = #[Value.int .i64 0][i]? := fun i => hB3.b4.cell i
          have F4 : ∀ i, w3.frozen? ⟨w.heap.size + 1 + 1 + 1 + 1, i, none⟩ = false := fun i => hB3.b4.free i
          clear h2
          gi_wp2
          have koE : Only [w.heap.size + 1 + 1 + 1, w.heap.size + 1 + 1 + 1 + 1, w.heap.size + 1 + 1 + 1 + 1 + 1] w3 (((((w3.setCell ⟨w.heap.size + 1 + 1 + 1 + 1 + 1, 2, none⟩ (.bool false)).setCell ⟨w.heap.size + 1 + 1 + 1, 0, none⟩ (.slice Ap acc.length cp)).setCell ⟨w.heap.size + 1 + 1 + 1, 1, none⟩ (.int .i64 nx)).setCell ⟨w.heap.size + 1 + 1 + 1, 2, none⟩ (.bool false)).setCell ⟨w.heap.size + 1 + 1 + 1 + 1, 0, none⟩ (.int .i64 0)) := by
            iterate 5 (refine Only.setCell ?_ (.inl (by simp)) _)
            exact Only.refl _ _
          have q1 := ((Only.refl [w.heap.size + 1 + 1 + 1 + 1 + 1] w3).setCell (p := ⟨w.heap.size + 1 + 1 + 1 + 1 + 1, 2, none⟩) (.inl (by simp)) (.bool false)).blk hB3.b3 (by simp)
          have q2 := ((q1.set 0 (.slice Ap acc.length cp)).set 1 (.int .i64 nx)).set 2 (.bool false)
          have q3 := ((Only.refl [w.heap.size + 1 + 1 + 1 + 1] _).setCell (p := ⟨w.heap.size + 1 + 1 + 1 + 1, 0, none⟩) (.inl (by simp)) (.int .i64 0)).blk q2 (by simp)
          have r1 : Only [w.heap.size + 1 + 1 + 1, w.heap.size + 1 + 1 + 1 + 1 + 1] w3 ((((w3.setCell ⟨w.heap.size + 1 + 1 + 1 + 1 + 1, 2, none⟩ (.bool false)).setCell ⟨w.heap.size + 1 + 1 + 1, 0, none⟩ (.slice Ap acc.length cp)).setCell ⟨w.heap.size + 1 + 1 + 1, 1, none⟩ (.int .i64 nx)).setCell ⟨w.heap.size + 1 + 1 + 1, 2, none⟩ (.bool false)) := by
            iterate 4 (refine Only.setCell ?_ (.inl (by simp)) _)
            exact Only.refl _ _
          have r2 := (r1.blk hB3.b4 (by simp)).set 0 (.int .i64 0)
          refine ⟨keepsOS (o3.of_nil.trans koE) (fun g hg => ?_), rfl, .slice Ap acc.length cp, acc, nx, ⟨q3, r2, own_only hB3.own koE (fun g hg => ?_), below_only hB3.below koE (fun g hg => ?_)⟩, hN⟩
          · simp only [List.mem_cons, List.not_mem_nil, or_false] at hg
            rcases hg with rfl | rfl | rfl
            · exact ⟨_, _, HB.out.b3⟩
            · exact ⟨_, _, HB.out.b4⟩
            · exact ⟨_, _, HB.out.b5⟩
          · have := (hB3.nown g hg).1
            simp
            omega
          · simp at hg
            omega
        · have h2b : ((acc.length : Int) == n) = false := by rw [beq_eq_false_iff_ne]; exact h2
          have hN : Hid (∀ rest, bwdGo StoredR.position f n ((pre ++ [x]).map (·.x) ++ rest) [] f = bwdGo StoredR.position f n rest (acc ++ [x.x]) (max (StoredR.position x.x) 0 - 1)) := fun rest => by rw [hSt.out, if_neg h1, if_neg h2]
          have hal : acc.length + 1 ≤ 1000001 := by omega
          obtain ⟨So, hSo⟩ : ∃ So, So = (Value.slice Ap acc.length cp).ownBlock.toList := ⟨_, rfl⟩
          have hSn : ∀ g ∈ So, w.heap.size + 7 ≤ g ∧ g < w3.heap.size := fun g hg => hB3.nown g (by rw [hSo] at hg; simpa using hg)
          have nB : Bx ∉ So := fun q => hne (by rw [hSo] at q; simpa using q)
          have n5 : w.heap.size + 1 + 1 + 1 + 1 + 1 ∉ So := fun q => by have := (hSn _ q).1; omega
          have n0 : w.heap.size ∉ So := fun q => by have := (hSn _ q).1; omega
          obtain ⟨So5, hSo5⟩ : ∃ So5, So5 = (w.heap.size + 1 + 1 + 1 + 1 + 1) :: So := ⟨_, rfl⟩
          have h55 : w.heap.size + 1 + 1 + 1 + 1 + 1 ∈ So5 := by rw [hSo5]; simp
          have hSub : ∀ g ∈ So, g ∈ So5 := fun g hg => by rw [hSo5]; exact List.mem_cons_of_mem _ hg
          have hS5 : ∀ g ∈ So5, (g = w.heap.size + 5 ∨ w.heap.size + 7 ≤ g) ∧ g < w3.heap.size := fun g hg => by
            rw [hSo5] at hg
            rcases List.mem_cons.1 hg with e | e
            · have := hB3.b5.lt
              omega
            · have := hSn g e
              omega
          have n05 : w.heap.size ∉ So5 := fun q => by have := (hS5 _ q).1; omega
          have nB5 : Bx ∉ So5 := fun q => by
            rw [hSo5] at q
            rcases List.mem_cons.1 q with e | e
            · omega
            · exact nB e
          have D0 := Within.cell (S := So5) (show w3.cell? ⟨w.heap.size, 0, none⟩ = some (.func (.func 143) #[] #[]) from hB3.b0.cell 0) n05
          have X0 := Within.cell (S := So5) (show w3.cell? ⟨Bx, 0, none⟩ = some (.int .i64 x.x.ev.id) from hX3.cell 0) nB5
          have X1 := Within.cell (S := So5) (show w3.cell? ⟨Bx, 1, none⟩ = some (.string x.x.ev.type) from hX3.cell 1) nB5
          have X2 := Within.cell (S := So5) (show w3.cell? ⟨Bx, 2, none⟩ = some (.string x.x.ev.data) from hX3.cell 2) nB5
          have X3 := Within.cell (S := So5) (show w3.cell? ⟨Bx, 3, none⟩ = some (.float .f64 x.x.ev.value) from hX3.cell 3) nB5
          have X4 := Within.cell (S := So5) (show w3.cell? ⟨Bx, 4, none⟩ = some (.string x.x.stream) from hX3.cell 4) nB5
          have X5 := Within.cell (S := So5) (show w3.cell? ⟨Bx, 5, none⟩ = some (.int .i64 x.x.version) from hX3.cell 5) nB5
          have X6 := Within.cell (S := So5) (show w3.cell? ⟨Bx, 6, none⟩ = some (.int .i64 x.x.position) from hX3.cell 6) nB5
          have X7 := Within.cell (S := So5) (show w3.cell? ⟨Bx, 7, none⟩ = some (.int .i64 x.x.time) from hX3.cell 7) nB5
          have hwx := IntWalk.i64_in (max (StoredR.position x.x) 0 - 1) ⟨by omega, by omega⟩
          have HX3 := Lib.hid hX3
          have PD : w3.drew.cell? ⟨w.heap.size + 1 + 1 + 1 + 1 + 1, 0, none⟩ = some (.slice Ap acc.length cp) := P5 0
          have PDA : ∀ o, (w3.drew.alloc o).cell? ⟨w.heap.size + 1 + 1 + 1 + 1 + 1, 0, none⟩ = some (.slice Ap acc.length cp) := fun o => (((Only.refl [] w3).drew.alloc o).blk hB3.b5 (by simp)).cell 0
          clear h2 hX3
          gi_wp2_with fail
          refine wpIn_region_g (C := fun W => ∃ p : Within So5 w3, W = p.W) [([0, 2, 5, 6], [(1, 3)], [4]), ([10], [], [7]), ([8, 9], [], [11])] [12, 13] (by rintro ⟨a, w, h⟩; exact h) (by kernel_rfl) (by kernel_rfl) (by kernel_rfl) (by intro c d u a w h; cases d <;> exact h) ⟨⟨_, (Only.refl _ _).drew⟩, rfl⟩ ?_
          refine gFirstF ?_
          show wpQuiet _ _ _ _ [_, _, _, _] _
          repeat (go_big_quiet_step (fail))
          refine wpQuiet_nil ?_
          clear D0 X0 X1 X2 X3 X4 X5 X6 X7
          refine fork_intro (fun a0 a1 W => ∃ (g : Nat), a1 = (a0.put (some 24) (.slice Ap acc.length cp)).put (some 26) (.slice (some ⟨g, 0, none⟩) 1 1) ∧ Only [] w3 W ∧ Slc W 8 (.slice (some ⟨g, 0, none⟩) 1 1) 1 x.x.cells) ?_ ?_ ?_
          · show wpList _ _ _ [_] _ _
            go_wp2_with fail
            refine check_of (S := So5) (Only.refl So5 w3).drew ?_
            show wpList _ _ _ [_] _ _
            go_wp2_with fail
            exact check_of (S := So5) ((Only.refl So5 w3).drew.alloc _) ⟨w3.drew.heap.size, rfl, (Only.refl [] w3).drew.alloc _, slc_new1 (size := 8) (cs := x.x.cells) rfl⟩
          · show wpList _ _ _ [_] _ _
            go_wp2_with fail
            refine check_of (S := So5) ((Only.refl So5 w3).drew.alloc _) ?_
            show wpList _ _ _ [_] _ _
            go_wp2_with fail
            exact check_of (S := So5) ((Only.refl So5 w3).drew.alloc _) ⟨w3.drew.heap.size, rfl, (Only.refl [] w3).drew.alloc _, slc_new1 (size := 8) (cs := x.x.cells) rfl⟩
          · rintro _ Wg ⟨g, rfl, hWg, hs1⟩
            obtain ⟨A4, c4', w4, hr4, hown4, hO4, hf4⟩ := run_app (P := Tryz.prog) 28 28 w.heap.size 92 (.agg #[.int .i64 0, .string ⟨#[]⟩, .string ⟨#[]⟩, .float .f64 0, .string ⟨#[]⟩, .int .i64 0, .int .i64 0, .int .i64 0]) 8 88 Tryz.underlying28 infoSt rfl (by decide) (own_only hB3.own hWg (by simp)) hs1 (by simpa using stored_one [x.x]) (by omega) (by unfold maxLen; omega) (by have := hB3.below.size; have := hWg.size; omega)
            have hlx : (acc ++ [x.x]).length = acc.length + 1 := by simp
            have ho4 : w4.ownsRow w.heap.size 92 8 (.slice A4 (acc.length + 1) c4') (acc ++ [x.x]).length ((acc ++ [x.x]).flatMap StoredR.cells) := by
              rw [hlx]
              simpa using hown4
            have ho24 : Only So w3 w4 := (hWg.of_nil).trans (by rw [hSo]; exact hO4)
            have HR4 := Lib.hid hr4
            clear hr4 hown4 hs1
            show wpList _ _ _ [_] _ _
            refine Lib.wpList_append_run _ rfl (.tmp 24) (.tmp 26) 28 28 rfl _ _ rfl rfl _ _ HR4.out ?_
            refine wpList_nil ?_
            refine check_of (S := So5) (ho24.mono hSub) ?_
            refine gNext ?_
            show wpQuiet _ _ _ _ [_] _
            go_frame
            repeat (go_big_quiet_step (fail))
            refine wpQuiet_nil ?_
            show wpList _ _ _ [_] _ _
            go_wp2_with (go_at_call 143; refine (hKC.out _).mono ?_; rintro e w5 ⟨rfl, k5⟩)
            have ho25 : Only So w3 w5 := ho24.trans k5.of_nil
            refine check_of (S := So5) (ho25.mono hSub) ?_
            refine gNext ?_
            show wpQuiet _ _ _ _ [_, _] _
            repeat (go_big_quiet_step (fail))
            refine wpQuiet_nil ?_
            have P5 : ∀ i, w5.cell? ⟨w.heap.size + 1 + 1 + 1 + 1 + 1, i, none⟩ = #[Value.slice Ap acc.length cp, .int .i64 nx, .bool true][i]? := fun i => (ho25.blk hB3.b5 n5).cell i
            have F5 : ∀ i, w5.frozen? ⟨w.heap.size + 1 + 1 + 1 + 1 + 1, i, none⟩ = false := fun i => (ho25.blk hB3.b5 n5).free i
            show wpList _ _ _ [_] _ _
            go_wp2_with fail
            refine check_of (S := So5) ((ho25.mono hSub).setCell (.inl h55) _) ?_
            refine gEnd ?_
            show wpList _ _ _ [_, _] _ _
            go_wp2_with fail
            have koE : Only [w.heap.size + 1 + 1 + 1 + 1 + 1] w5 ((w5.setCell ⟨w.heap.size + 1 + 1 + 1 + 1 + 1, 0, none⟩ (.slice A4 (acc.length + 1) c4')).setCell ⟨w.heap.size + 1 + 1 + 1 + 1 + 1, 1, none⟩ (.int .i64 (max (StoredR.position x.x) 0 - 1))) := ((Only.refl _ _).setCell (.inl (by simp)) _).setCell (.inl (by simp)) _
            have kT : Only So5 w3 ((w5.setCell ⟨w.heap.size + 1 + 1 + 1 + 1 + 1, 0, none⟩ (.slice A4 (acc.length + 1) c4')).setCell ⟨w.heap.size + 1 + 1 + 1 + 1 + 1, 1, none⟩ (.int .i64 (max (StoredR.position x.x) 0 - 1))) := (ho25.mono hSub).trans (koE.mono (fun g hg => by rw [List.mem_singleton.1 hg]; exact h55))
            have hno : ∀ i, i < w.heap.size + 7 → i ≠ w.heap.size + 5 → i ∉ So5 := fun i h1 h2 q => by
              have := (hS5 i q).1
              omega
            obtain ⟨av, hb6⟩ := hB3.b6
            refine ⟨keepsOS (S := So5) (o3.of_nil.trans kT) (fun g hg => ?_), KeepT.only (S := So5) (o3.of_nil.trans kT) (fun i hi => ⟨by rcases hT3 i hi with q | q <;> omega, by rcases hT3 i hi with q | q; (exact hno i (by omega) (by omega)); (exact hno i (by omega) (by omega))⟩),
              .slice A4 (acc.length + 1) c4', acc ++ [x.x], max (StoredR.position x.x) 0 - 1, ⟨below_only hB3.below kT (fun g hg => by have := (hS5 g hg).1; omega), kT.blk hB3.b0 (hno _ (by omega) (by omega)), kT.blk hB3.b1 (hno _ (by omega) (by omega)), kT.blk hB3.b2 (hno _ (by omega) (by omega)), kT.blk hB3.b3 (hno _ (by omega) (by omega)), kT.blk hB3.b4 (hno _ (by omega) (by omega)), ((ho25.blk hB3.b5 n5).set 0 _).set 1 _, ⟨av, kT.blk hb6 (hno _ (by omega) (by omega))⟩, own_only (own_only ho4 k5 (by simp)) koE (fun g hg => ?_)⟩, by have := kT.size; omega, by simp; omega, hN⟩
            · rw [hSo5] at hg
              rcases List.mem_cons.1 hg with e | e
              · rw [e]
                exact ⟨_, _, HB.out.b5⟩
              · rw [hSo] at e
                obtain ⟨cur, hcur⟩ := own_type HB.out.own (g := g) (by simpa using e)
                exact ⟨_, _, hcur⟩
            · obtain ⟨cur, hcur⟩ := own_type ho4 hg
              simp only [List.mem_singleton]
              exact hcur.other (ho24.blk hB3.b5 n5) (by decide)
    case done =>
      rintro D ys W hD hys ⟨pv, acc, nx, hB, hz, ha, hRun⟩ hK3
      obtain ⟨Ap, cp, hpv, hap1, hap2⟩ := own_form hB.own
      subst hpv
      have hfin : R = ⟨acc, nx, true⟩ := by
        rw [HR.out, ← hys, ← List.append_nil (ys.map (·.x))]
        exact hRun.out []
      have P5 : ∀ i, W.cell? ⟨w.heap.size + 1 + 1 + 1 + 1 + 1, i, none⟩ = #[Value.slice Ap acc.length cp, .int .i64 nx, .bool true][i]? := fun i => hB.b5.cell i
      have P3 : ∀ i, W.cell? ⟨w.heap.size + 1 + 1 + 1, i, none⟩ = #[Value.slice none 0 0, .int .i64 0, .bool false][i]? := fun i => hB.b3.cell i
      have F3 : ∀ i, W.frozen? ⟨w.heap.size + 1 + 1 + 1, i, none⟩ = false := fun i => hB.b3.free i
      have P4 : ∀ i, W.cell? ⟨w.heap.size + 1 + 1 + 1 + 1, i, none⟩ = #[Value.int .i64 0][i]? := fun i => hB.b4.cell i
      have F4 : ∀ i, W.frozen? ⟨w.heap.size + 1 + 1 + 1 + 1, i, none⟩ = false := fun i => hB.b4.free i
      have HFin := Lib.hid hfin
      clear hfin hRun hys
      gi_wp2
      have koE : Only [w.heap.size + 1 + 1 + 1, w.heap.size + 1 + 1 + 1 + 1] W ((((W.setCell ⟨w.heap.size + 1 + 1 + 1, 0, none⟩ (.slice Ap acc.length cp)).setCell ⟨w.heap.size + 1 + 1 + 1, 1, none⟩ (.int .i64 nx)).setCell ⟨w.heap.size + 1 + 1 + 1, 2, none⟩ (.bool true)).setCell ⟨w.heap.size + 1 + 1 + 1 + 1, 0, none⟩ (.int .i64 0)) := by
        iterate 4 (refine Only.setCell ?_ (.inl (by simp)) _)
        exact Only.refl _ _
      have q2 := ((hB.b3.set 0 (.slice Ap acc.length cp)).set 1 (.int .i64 nx)).set 2 (.bool true)
      have he3 := ((Only.refl [w.heap.size + 1 + 1 + 1 + 1] _).setCell (p := ⟨w.heap.size + 1 + 1 + 1 + 1, 0, none⟩) (.inl (by simp)) (.int .i64 0)).blk q2 (by simp)
      have r1 : Only [w.heap.size + 1 + 1 + 1] W (((W.setCell ⟨w.heap.size + 1 + 1 + 1, 0, none⟩ (.slice Ap acc.length cp)).setCell ⟨w.heap.size + 1 + 1 + 1, 1, none⟩ (.int .i64 nx)).setCell ⟨w.heap.size + 1 + 1 + 1, 2, none⟩ (.bool true)) := by
        iterate 3 (refine Only.setCell ?_ (.inl (by simp)) _)
        exact Only.refl _ _
      have he4 := (r1.blk hB.b4 (by simp)).set 0 (.int .i64 0)
      have hoe := own_only hB.own koE (fun g hg => by
        have := (hB.nown g hg).1
        simp
        omega)
      have hbe := below_only hB.below koE (fun g hg => by simp at hg; omega)
      have hKe := (koE.block D (Array.getElem?_eq_some_iff.1 hK3).1 (by simp; omega)).trans hK3
      have kD : Only [D] ((((W.setCell ⟨w.heap.size + 1 + 1 + 1, 0, none⟩ (.slice Ap acc.length cp)).setCell ⟨w.heap.size + 1 + 1 + 1, 1, none⟩ (.int .i64 nx)).setCell ⟨w.heap.size + 1 + 1 + 1, 2, none⟩ (.bool true)).setCell ⟨w.heap.size + 1 + 1 + 1 + 1, 0, none⟩ (.int .i64 0)) ((((((W.setCell ⟨w.heap.size + 1 + 1 + 1, 0, none⟩ (.slice Ap acc.length cp)).setCell ⟨w.heap.size + 1 + 1 + 1, 1, none⟩ (.int .i64 nx)).setCell ⟨w.heap.size + 1 + 1 + 1, 2, none⟩ (.bool true)).setCell ⟨w.heap.size + 1 + 1 + 1 + 1, 0, none⟩ (.int .i64 0))).putObj D (.deferred none)) := only_grownBy (grownBy_putObj' _ D (.deferred none)) (fun r e => by cases e; simp)
      refine ⟨by simp, .inl ⟨_, _, rfl, run_takeDeferred hKe, ?_⟩⟩
      have c3 := fun i => (kD.blk he3 (by simp; omega)).cell i
      have c4 := fun i => (kD.blk he4 (by simp; omega)).cell i
      refine ⟨.tuple #[.agg #[.slice Ap acc.length cp, .int .i64 nx, .bool true], .int .i64 0], ?_, .slice Ap acc.length cp, by rw [HFin.out], ?_, Only.of_below (below_only hbe kD (fun g hg => by simp at hg; omega)) (Nat.le_refl _)⟩
      · simp [results, Tryz.f114, go_sem, c3, c4]
      · rw [HFin.out]
        exact own_only hoe kD (fun g hg => by
          obtain ⟨cur, hcur⟩ := own_type hoe hg
          intro q
          have e1 := List.mem_singleton.1 q
          rw [e1] at hcur
          rw [show (((((W.setCell ⟨w.heap.size + 1 + 1 + 1, 0, none⟩ (.slice Ap acc.length cp)).setCell ⟨w.heap.size + 1 + 1 + 1, 1, none⟩ (.int .i64 nx)).setCell ⟨w.heap.size + 1 + 1 + 1, 2, none⟩ (.bool true)).setCell ⟨w.heap.size + 1 + 1 + 1 + 1, 0, none⟩ (.int .i64 0))).heap[D]? = _ from hcur] at hKe
          cases hKe)
    case stop =>
      rintro D c pre W hD hpre ⟨rfl, pv, acc, nx, ⟨g3, g4, hown, hbel⟩, hRun⟩ hK3
      obtain ⟨Ap, cp, hpv, hap1, hap2⟩ := own_form hown
      subst hpv
      have hfin : R = ⟨acc, nx, false⟩ := by
        obtain ⟨rest, hr⟩ := hpre
        rw [HR.out, ← hr]
        exact hRun.out rest
      have HFin := Lib.hid hfin
      clear hfin hRun hpre
      gi_wp2
      have he3 := g3
      have he4 := g4
      have hoe := hown
      have hbe := hbel
      have hKe := hK3
      have kD : Only [D] W (W.putObj D (.deferred none)) := only_grownBy (grownBy_putObj' _ D (.deferred none)) (fun r e => by cases e; simp)
      refine ⟨by simp, .inl ⟨_, _, rfl, run_takeDeferred hKe, ?_⟩⟩
      have c3 := fun i => (kD.blk he3 (by simp; omega)).cell i
      have c4 := fun i => (kD.blk he4 (by simp; omega)).cell i
      refine ⟨.tuple #[.agg #[.slice Ap acc.length cp, .int .i64 nx, .bool false], .int .i64 0], ?_, .slice Ap acc.length cp, by rw [HFin.out], ?_, Only.of_below (below_only hbe kD (fun g hg => by simp at hg; omega)) (Nat.le_refl _)⟩
      · simp [results, Tryz.f114, go_sem, c3, c4]
      · rw [HFin.out]
        exact own_only hoe kD (fun g hg => by
          obtain ⟨cur, hcur⟩ := own_type hoe hg
          intro q
          have e1 := List.mem_singleton.1 q
          rw [e1] at hcur
          rw [show W.heap[D]? = _ from hcur] at hKe
          cases hKe)
set_option maxRecDepth 100000 in
set_option maxHeartbeats 4000000 in
theorem backwardV_any {w : World} {v : Value} {l : List StoredR} {f n : Int} (hl : Slc w 8 v l.length (l.flatMap StoredR.cells)) (hb : l.length ≤ 1000000) (hk : ∀ s ∈ l, 0 ≤ StoredR.version s ∧ StoredR.version s ≤ 1000000000) :
    Calls Tryz.prog 114 #[.func (.func 115) #[] #[], v, .int .i64 f, .int .i64 n] w (PageOut w StoredR.version l f n (pageBy StoredR.version l f n true)) := by
  cases hw : wrongP f n with
  | true =>
    obtain ⟨A, cap, rfl, hnc, hcm, hel⟩ := hl.openE StoredR.cells (fun _ => rfl)
    have HW := Lib.hid hw
    have HV := Lib.hid (fun W => vwrong_any f n W)
    rw [hw] at HV
    clear hel hw
    have hR : pageBy StoredR.version l f n true = (PageR.zero, 1) := by unfold pageBy; rw [HW.out]; rfl
    rw [hR]
    clear hR
    go_enter Tryz.func114, Tryz.ntmps114
    go_wp2_with (go_at_call 144; refine (HV.out _).mono ?_; rintro e w1 ⟨rfl, rfl⟩)
    refine bodyPost_ret (v := .tuple #[.agg #[.slice none 0 0, .int .i64 0, .bool false], .int .i64 1]) (by simp [results, Tryz.results114, go_sem]) rfl ⟨_, rfl, World.ownsRow_nil _ _ _ _, ?_⟩
    iterate 5 (refine Only.alloc ?_ _)
    exact Only.refl [] w
  | false =>
    obtain ⟨A, cap, rfl, hnc, hcm, hel⟩ := hl.openE StoredR.cells (fun _ => rfl)
    have HW := Lib.hid hw
    have HV := Lib.hid (fun W => vwrong_any f n W)
    rw [hw] at HV
    have hn : 1 ≤ n ∧ n ≤ 100 := by simp [wrongP] at hw; omega
    clear hw
    have hR : pageBy StoredR.version l f n true = (bwdGo StoredR.version f n l.reverse [] f, 0) := by unfold pageBy; rw [HW.out]; rfl
    rw [hR]
    clear hR
    obtain ⟨R, hR⟩ : ∃ R, R = bwdGo StoredR.version f n l.reverse [] f := ⟨_, rfl⟩
    rw [← hR]
    have HR := Lib.hid hR
    clear hR
    refine (callsIn_wide (n := 3)).1 ?_
    refine callsIn_of_wp_marks Tryz.func114 rfl trivial ?_ rfl
    simp only [Tryz.ntmps114, List.size_toArray, List.length_cons, List.length_nil, Nat.reduceAdd, Nat.reduceSub, Array.replicate_succ, Array.replicate_zero, List.push_toArray, List.append_toArray, List.nil_append, List.cons_append]
    gi_wp2_with (first
      | (refine ⟨trivial, ?_⟩; gi_at_call 144; refine (callsIn_wide.2 (HV.out _)).mono ?_; rintro e w1 ⟨rfl, rfl⟩)
      | (refine ⟨trivial, ?_⟩; gi_at_call 145; refine (back_in Fence.wide _ trivial rfl _ _ _ _).mono ?_; rintro e w2 ⟨rfl, rfl⟩))
    obtain ⟨W2, hW2⟩ : ∃ W2, W2 = ((((((w.alloc (.cells #[.func (.func 115) #[] #[]] 213)).alloc (.cells #[.int .i64 f] 3)).alloc (.cells #[.int .i64 n] 3)).alloc (.cells #[.slice none 0 0, .int .i64 0, .bool false] 57)).alloc (.cells #[.int .i64 0] 32)).alloc (.cells #[.slice none 0 0, .int .i64 f, .bool true] 57)).alloc (.cells #[.slice A l.length cap] 28) := ⟨_, rfl⟩
    rw [← hW2]
    have hz2 : W2.heap.size = w.heap.size + 7 := by rw [hW2]; simp
    have hO2 : Only [] w W2 := by
      rw [hW2]
      iterate 7 (refine Only.alloc ?_ _)
      exact Only.refl [] w
    have hB2 : BwAt w W2 (.func (.func 115) #[] #[]) (.slice none 0 0) f n [] f := by
      have g0 := Blk.new w 213 #[.func (.func 115) #[] #[]]
      have g1 := Blk.new (w.alloc (.cells #[.func (.func 115) #[] #[]] 213)) 3 #[.int .i64 f]
      have g2 := Blk.new ((w.alloc (.cells #[.func (.func 115) #[] #[]] 213)).alloc (.cells #[.int .i64 f] 3)) 3 #[.int .i64 n]
      have g3 := Blk.new (((w.alloc (.cells #[.func (.func 115) #[] #[]] 213)).alloc (.cells #[.int .i64 f] 3)).alloc (.cells #[.int .i64 n] 3)) 57 #[.slice none 0 0, .int .i64 0, .bool false]
      have g4 := Blk.new ((((w.alloc (.cells #[.func (.func 115) #[] #[]] 213)).alloc (.cells #[.int .i64 f] 3)).alloc (.cells #[.int .i64 n] 3)).alloc (.cells #[.slice none 0 0, .int .i64 0, .bool false] 57)) 32 #[.int .i64 0]
      have g5 := Blk.new (((((w.alloc (.cells #[.func (.func 115) #[] #[]] 213)).alloc (.cells #[.int .i64 f] 3)).alloc (.cells #[.int .i64 n] 3)).alloc (.cells #[.slice none 0 0, .int .i64 0, .bool false] 57)).alloc (.cells #[.int .i64 0] 32)) 57 #[.slice none 0 0, .int .i64 f, .bool true]
      simp only [World.size_alloc] at g0 g1 g2 g3 g4 g5
      refine ⟨hO2.toBelow, ?_, ?_, ?_, ?_, ?_, ?_, ⟨.slice A l.length cap, ?_⟩, World.ownsRow_nil _ _ _ _⟩
      · rw [hW2]; exact (((((((Only.refl [] _).alloc _).alloc _).alloc _).alloc _).alloc _).alloc _).blk g0 (by simp)
      · rw [hW2]; exact ((((((Only.refl [] _).alloc _).alloc _).alloc _).alloc _).alloc _).blk g1 (by simp)
      · rw [hW2]; exact (((((Only.refl [] _).alloc _).alloc _).alloc _).alloc _).blk g2 (by simp)
      · rw [hW2]; exact ((((Only.refl [] _).alloc _).alloc _).alloc _).blk g3 (by simp)
      · rw [hW2]; exact (((Only.refl [] _).alloc _).alloc _).blk g4 (by simp)
      · rw [hW2]; exact ((Only.refl [] _).alloc (.cells #[.slice A l.length cap] 28)).blk g5 (by simp)
      · have g6 := Blk.new ((((((w.alloc (.cells #[.func (.func 115) #[] #[]] 213)).alloc (.cells #[.int .i64 f] 3)).alloc (.cells #[.int .i64 n] 3)).alloc (.cells #[.slice none 0 0, .int .i64 0, .bool false] 57)).alloc (.cells #[.int .i64 0] 32)).alloc (.cells #[.slice none 0 0, .int .i64 f, .bool true] 57)) 28 #[.slice A l.length cap]
        simp only [World.size_alloc] at g6
        rw [hW2]
        exact g6
    obtain ⟨T, hT1, hT2, hT3⟩ : ∃ T : List Nat, w.heap.size + 6 ∈ T ∧ (∀ g, (Value.slice A l.length cap).ownBlock = some g → g ∈ T ∨ l.length = 0) ∧ ∀ i ∈ T, i = w.heap.size + 6 ∨ i < w.heap.size := by
      by_cases h0 : l.length = 0
      · exact ⟨[w.heap.size + 6], by simp, fun g _ => .inr h0, fun i hi => .inl (by simpa using hi)⟩
      · obtain ⟨b0, o0, hA, hb0, _⟩ := hel 0 (by omega)
        subst hA
        refine ⟨[w.heap.size + 6, b0], by simp, fun g hg => .inl ?_, fun i hi => ?_⟩
        · cases hg
          simp
        · simp at hi
          rcases hi with rfl | rfl
          · exact .inl rfl
          · exact .inr hb0
    have hbx : W2.cell? ⟨w.heap.size + 6, 0, none⟩ = some (.slice A l.length cap) := by
      rw [hW2]
      have := Blk.new ((((((w.alloc (.cells #[.func (.func 115) #[] #[]] 213)).alloc (.cells #[.int .i64 f] 3)).alloc (.cells #[.int .i64 n] 3)).alloc (.cells #[.slice none 0 0, .int .i64 0, .bool false] 57)).alloc (.cells #[.int .i64 0] 32)).alloc (.cells #[.slice none 0 0, .int .i64 f, .bool true] 57)) 28 #[.slice A l.length cap]
      simp only [World.size_alloc] at this
      exact this.cell 0
    have hsl2 := hl.only0 hO2
    have hK := Lib.hid hk
    clear hW2 hk hl hel hnc hcm HV
    refine wpIn_rangeFunc_ownH rfl (by omega) (gf := 172) (lb := #[.pointer (some ⟨w.heap.size + 6, 0, none⟩)]) rfl trivial (enters_of Tryz.func172 (by kernel_rfl) rfl)
      (bk_stops2 Fence.wide _ trivial rfl (by omega) T (w.heap.size + 6) A cap l hb W2 hT1 (fun i hi => by rcases hT3 i hi with q | q <;> omega) hbx hsl2 hT2) (fun {A B C} h1 h2 => KeepT.trans h1 h2) (KeepT.put (fun i hi => by rcases hT3 i hi with q | q <;> omega)) (Below.refl _ _) (fun _ => rfl)
      (fun pre W => ∃ pv acc nx, BwAt w W (.func (.func 115) #[] #[]) pv f n acc nx ∧ W2.heap.size ≤ W.heap.size ∧ acc.length ≤ pre.length ∧ Hid (∀ rest, bwdGo StoredR.version f n (pre.map (·.x) ++ rest) [] f = bwdGo StoredR.version f n rest acc nx))
      (fun c pre W => c = .ret ∧ ∃ pv acc nx, (Blk W (w.heap.size + 3) 57 #[pv, .int .i64 nx, .bool false] ∧ Blk W (w.heap.size + 4) 32 #[.int .i64 0] ∧ W.ownsRow w.heap.size 92 8 pv acc.length (acc.flatMap StoredR.cells) ∧ Below w.heap.size w W) ∧ Hid (∀ rest, bwdGo StoredR.version f n (pre.map (·.x) ++ rest) [] f = ⟨acc, nx, false⟩))
      ?hI ?hIx
      ⟨.slice none 0 0, [], f, hB2, Nat.le_refl _, Nat.le_refl _, fun rest => rfl⟩
      (fun x a' W => ∃ (Bx : Nat) (pv u1 u2 : Value), w.heap.size + 7 ≤ Bx ∧ Blk W Bx 92 #[.int .i64 x.x.ev.id, .string x.x.ev.type, .string x.x.ev.data, .float .f64 x.x.ev.value, .string x.x.stream, .int .i64 x.x.version, .int .i64 x.x.position, .int .i64 x.x.time] ∧ Blk W (w.heap.size + 5) 57 #[pv, u1, u2] ∧ pv.ownBlock ≠ some Bx ∧ a' = { tmps := #[.func (.func 115) #[] #[], .slice A l.length cap, .int .i64 f, .int .i64 n, .pointer (some ⟨w.heap.size, 0, none⟩), undef, .pointer (some ⟨w.heap.size + 1, 0, none⟩), .pointer (some ⟨w.heap.size + 1 + 1, 0, none⟩), .pointer (some ⟨w.heap.size + 1 + 1 + 1, 0, none⟩), .pointer (some ⟨w.heap.size + 1 + 1 + 1 + 1, 0, none⟩), .pointer (some ⟨w.heap.size + 1 + 1 + 1 + 1 + 1, 0, none⟩), undef, .pointer (some ⟨Bx, 0, none⟩), .int .i64 f, .int .i64 n, .bool false, undef, .int .i64 f, .agg #[.slice none 0 0, .int .i64 f, .bool true], .slice A l.length cap, .func (.func 172) #[] #[.pointer (some ⟨w.heap.size + 1 + 1 + 1 + 1 + 1 + 1, 0, none⟩)], .int .i64 x.i, .agg #[.int .i64 x.x.ev.id, .string x.x.ev.type, .string x.x.ev.data, .float .f64 x.x.ev.value, .string x.x.stream, .int .i64 x.x.version, .int .i64 x.x.position, .int .i64 x.x.time], undef, undef, undef, undef, undef, undef, undef, undef, undef, undef, undef, undef, undef, undef, undef, undef, undef, undef, undef, undef, undef, undef, undef, undef, undef, undef, undef], defers := [] })
      ?hAx ?assign ?body ?done ?stop
    case hI =>
      rintro pre W W' row ⟨pv, acc, nx, h1, h2, h3, h4⟩ hg hr
      exact ⟨pv, acc, nx, h1.grown hg (fun r e => (hr r e).2) (fun r e => by have := (hr r e).1; omega), Nat.le_trans h2 hg.size, h3, h4⟩
    case hIx =>
      rintro c pre W W' row ⟨rfl, pv, acc, nx, ⟨h1, h2, h3, h4⟩, h5⟩ hg hr
      have ko : Only row.toList W W' := only_grownBy hg (fun r e => by simp [e])
      have hc := fun r e => (hr r e).2
      refine ⟨rfl, pv, acc, nx, ⟨ko.blk h1 (not_cells hc h1), ko.blk h2 (not_cells hc h2), own_only h3 ko (fun g q => ?_), ?_⟩, h5⟩
      · obtain ⟨cur, hcur⟩ := own_type h3 q
        exact not_cells hc hcur
      · exact h4.trans ⟨ko.os, ko.tape, ko.output, ko.size, fun i hi => ko.block i (by have := h4.size; omega) (fun q => by have := (hr i (by simpa using q)).1; omega)⟩
    case hAx =>
      rintro x a' s W W' row ⟨Bx, pv, u1, u2, h1, h2, h3, h4, h5⟩ hg hr
      have ko : Only row.toList W W' := only_grownBy hg (fun r e => by simp [e])
      have hc := fun r e => (hr r e).2
      exact ⟨Bx, pv, u1, u2, h1, ko.blk h2 (not_cells hc h2), ko.blk h3 (not_cells hc h3), h4, h5⟩
    case assign =>
      rintro ly pre x W K ⟨pv, acc, nx, h1, h2, h3, h4⟩ hK2
      have hsf := stF
      unfold bkV
      gi_wp2
      have hkk := (Only.refl [] W).alloc (.cells #[.int .i64 x.x.ev.id, .string x.x.ev.type, .string x.x.ev.data, .float .f64 x.x.ev.value, .string x.x.stream, .int .i64 x.x.version, .int .i64 x.x.position, .int .i64 x.x.time] 92)
      refine hK2 _ _ (keepsOS hkk (by simp)) (KeepT.only hkk (fun i hi => ⟨by rcases hT3 i hi with q | q <;> omega, by simp⟩)) ⟨pv, acc, nx, h1.only0 hkk, Nat.le_trans h2 hkk.size, h3, h4⟩ ⟨W.heap.size, pv, .int .i64 nx, .bool true, by omega, Blk.new W _ _, (h1.only0 hkk).b5, fun q => ?_, rfl⟩
      have := (h1.nown _ q).2
      omega
    case body =>
      rintro ly pre x a' W hly hlo ⟨pv, acc, nx, hB, hz, ha, hRun⟩ ⟨Bx, pv', u1, u2, hBx, hX, hP5, hne, rfl⟩ hlt
      have hpe : pv' = pv := by
        have e : some (Obj.cells #[pv', u1, u2] 57) = some (Obj.cells #[pv, .int .i64 nx, .bool true] 57) := hP5.symm.trans hB.b5
        injection e with e
        injection e with e
        exact Option.some.inj (show some pv' = some pv from congrArg (fun a : Array Value => a[0]?) e)
      subst hpe
      obtain ⟨Ap, cp, hpv, hap1, hap2⟩ := own_form hB.own
      subst hpv
      unfold maxLen at hap2
      have hKx := hK.out x.x x.mem
      have hKC := Lib.hid (fun W => version_any x.x W)
      have hSt : Hid (∀ rest, bwdGo StoredR.version f n ((pre ++ [x]).map (·.x) ++ rest) [] f = if f < StoredR.version x.x then bwdGo StoredR.version f n rest acc nx else if (acc.length : Int) = n then ⟨acc, nx, false⟩ else bwdGo StoredR.version f n rest (acc ++ [x.x]) (max (StoredR.version x.x) 0 - 1)) := fun rest => by
        rw [List.map_append, List.append_assoc]
        exact hRun.out _
      have D0 := Within.cell (S := []) (show W.cell? ⟨w.heap.size, 0, none⟩ = some (.func (.func 115) #[] #[]) from hB.b0.cell 0) (by simp)
      have D1 := Within.cell (S := []) (show W.cell? ⟨w.heap.size + 1, 0, none⟩ = some (.int .i64 f) from hB.b1.cell 0) (by simp)
      have X0 := Within.cell (S := []) (show W.cell? ⟨Bx, 0, none⟩ = some (.int .i64 x.x.ev.id) from hX.cell 0) (by simp)
      have X1 := Within.cell (S := []) (show W.cell? ⟨Bx, 1, none⟩ = some (.string x.x.ev.type) from hX.cell 1) (by simp)
      have X2 := Within.cell (S := []) (show W.cell? ⟨Bx, 2, none⟩ = some (.string x.x.ev.data) from hX.cell 2) (by simp)
      have X3 := Within.cell (S := []) (show W.cell? ⟨Bx, 3, none⟩ = some (.float .f64 x.x.ev.value) from hX.cell 3) (by simp)
      have X4 := Within.cell (S := []) (show W.cell? ⟨Bx, 4, none⟩ = some (.string x.x.stream) from hX.cell 4) (by simp)
      have X5 := Within.cell (S := []) (show W.cell? ⟨Bx, 5, none⟩ = some (.int .i64 x.x.version) from hX.cell 5) (by simp)
      have X6 := Within.cell (S := []) (show W.cell? ⟨Bx, 6, none⟩ = some (.int .i64 x.x.position) from hX.cell 6) (by simp)
      have X7 := Within.cell (S := []) (show W.cell? ⟨Bx, 7, none⟩ = some (.int .i64 x.x.time) from hX.cell 7) (by simp)
      have hsf := stF
      have HB := Lib.hid hB
      have HX := Lib.hid hX
      clear hB hX hP5 hRun
      gi_wp2_with fail
      refine wpIn_region_in [] [0, 1, 3] [2, 4, 5] [] (by rintro ⟨a, w, h⟩; exact h) (by kernel_rfl) (by kernel_rfl) (by kernel_rfl) (by intro c d u a w h; cases d <;> exact h) ?_
      show wpQuiet _ _ _ _ [_, _, _] _
      repeat (go_big_quiet_step (fail))
      refine wpQuiet_nil ?_
      clear D0 D1 X0 X1 X2 X3 X4 X5 X6 X7
      show wpList _ _ _ [_] _ _
      go_wp2_with (go_at_call 115; refine (hKC.out _).mono ?_; rintro e w3 ⟨rfl, k3⟩)
      have o3 := (Only.refl [] W).drew.trans k3
      refine check_of (S := []) o3 ?_
      show wpList _ _ _ [_] _ _
      go_wp2_with fail
      refine check_of (S := []) o3 ?_
      show wpList _ _ _ [_] _ _
      go_wp2_with fail
      refine check_last (S := []) o3 (fun _ _ q => q) ?_
      have hB3 := HB.out.only0 o3
      have hX3 := o3.blk HX.out (by simp)
      have hz3 := o3.size
      by_cases h1 : f < StoredR.version x.x
      · have hN : Hid (∀ rest, bwdGo StoredR.version f n ((pre ++ [x]).map (·.x) ++ rest) [] f = bwdGo StoredR.version f n rest acc nx) := fun rest => by rw [hSt.out, if_pos h1]
        have h1b : decide (StoredR.version x.x > f) = true := decide_eq_true h1
        gi_wp2
        exact ⟨keepsOS o3 (by simp), KeepT.only o3 (fun i hi => ⟨by rcases hT3 i hi with q | q <;> omega, by simp⟩), _, acc, nx, hB3, by omega, by simp; omega, hN⟩
      · have h1b : decide (StoredR.version x.x > f) = false := decide_eq_false h1
        have P5 : ∀ i, w3.cell? ⟨w.heap.size + 1 + 1 + 1 + 1 + 1, i, none⟩ = #[Value.slice Ap acc.length cp, .int .i64 nx, .bool true][i]? := fun i => hB3.b5.cell i
        have F5 : ∀ i, w3.frozen? ⟨w.heap.size + 1 + 1 + 1 + 1 + 1, i, none⟩ = false := fun i => hB3.b5.free i
        have P2 : w3.cell? ⟨w.heap.size + 1 + 1, 0, none⟩ = some (.int .i64 n) := hB3.b2.cell 0
        by_cases h2 : (acc.length : Int) = n
        · have h2b : ((acc.length : Int) == n) = true := by simpa using h2
          have hN : Hid (∀ rest, bwdGo StoredR.version f n ((pre ++ [x]).map (·.x) ++ rest) [] f = ⟨acc, nx, false⟩) := fun rest => by rw [hSt.out, if_neg h1, if_pos h2]
          have P3 : ∀ i, w3.cell? ⟨w.heap.size + 1 + 1 + 1, i, none⟩ = #[Value.slice none 0 0, .int .i64 0, .bool false][i]? := fun i => hB3.b3.cell i
          have F3 : ∀ i, w3.frozen? ⟨w.heap.size + 1 + 1 + 1, i, none⟩ = false := fun i => hB3.b3.free i
          have P4 : ∀ i, w3.cell? ⟨w.heap.size + 1 + 1 + 1 + 1, i, none⟩ = #[Value.int .i64 0][i]? := fun i => hB3.b4.cell i
          have F4 : ∀ i, w3.frozen? ⟨w.heap.size + 1 + 1 + 1 + 1, i, none⟩ = false := fun i => hB3.b4.free i
          clear h2
          gi_wp2
          have koE : Only [w.heap.size + 1 + 1 + 1, w.heap.size + 1 + 1 + 1 + 1, w.heap.size + 1 + 1 + 1 + 1 + 1] w3 (((((w3.setCell ⟨w.heap.size + 1 + 1 + 1 + 1 + 1, 2, none⟩ (.bool false)).setCell ⟨w.heap.size + 1 + 1 + 1, 0, none⟩ (.slice Ap acc.length cp)).setCell ⟨w.heap.size + 1 + 1 + 1, 1, none⟩ (.int .i64 nx)).setCell ⟨w.heap.size + 1 + 1 + 1, 2, none⟩ (.bool false)).setCell ⟨w.heap.size + 1 + 1 + 1 + 1, 0, none⟩ (.int .i64 0)) := by
            iterate 5 (refine Only.setCell ?_ (.inl (by simp)) _)
            exact Only.refl _ _
          have q1 := ((Only.refl [w.heap.size + 1 + 1 + 1 + 1 + 1] w3).setCell (p := ⟨w.heap.size + 1 + 1 + 1 + 1 + 1, 2, none⟩) (.inl (by simp)) (.bool false)).blk hB3.b3 (by simp)
          have q2 := ((q1.set 0 (.slice Ap acc.length cp)).set 1 (.int .i64 nx)).set 2 (.bool false)
          have q3 := ((Only.refl [w.heap.size + 1 + 1 + 1 + 1] _).setCell (p := ⟨w.heap.size + 1 + 1 + 1 + 1, 0, none⟩) (.inl (by simp)) (.int .i64 0)).blk q2 (by simp)
          have r1 : Only [w.heap.size + 1 + 1 + 1, w.heap.size + 1 + 1 + 1 + 1 + 1] w3 ((((w3.setCell ⟨w.heap.size + 1 + 1 + 1 + 1 + 1, 2, none⟩ (.bool false)).setCell ⟨w.heap.size + 1 + 1 + 1, 0, none⟩ (.slice Ap acc.length cp)).setCell ⟨w.heap.size + 1 + 1 + 1, 1, none⟩ (.int .i64 nx)).setCell ⟨w.heap.size + 1 + 1 + 1, 2, none⟩ (.bool false)) := by
            iterate 4 (refine Only.setCell ?_ (.inl (by simp)) _)
            exact Only.refl _ _
          have r2 := (r1.blk hB3.b4 (by simp)).set 0 (.int .i64 0)
          refine ⟨keepsOS (o3.of_nil.trans koE) (fun g hg => ?_), rfl, .slice Ap acc.length cp, acc, nx, ⟨q3, r2, own_only hB3.own koE (fun g hg => ?_), below_only hB3.below koE (fun g hg => ?_)⟩, hN⟩
          · simp only [List.mem_cons, List.not_mem_nil, or_false] at hg
            rcases hg with rfl | rfl | rfl
            · exact ⟨_, _, HB.out.b3⟩
            · exact ⟨_, _, HB.out.b4⟩
            · exact ⟨_, _, HB.out.b5⟩
          · have := (hB3.nown g hg).1
            simp
            omega
          · simp at hg
            omega
        · have h2b : ((acc.length : Int) == n) = false := by rw [beq_eq_false_iff_ne]; exact h2
          have hN : Hid (∀ rest, bwdGo StoredR.version f n ((pre ++ [x]).map (·.x) ++ rest) [] f = bwdGo StoredR.version f n rest (acc ++ [x.x]) (max (StoredR.version x.x) 0 - 1)) := fun rest => by rw [hSt.out, if_neg h1, if_neg h2]
          have hal : acc.length + 1 ≤ 1000001 := by omega
          obtain ⟨So, hSo⟩ : ∃ So, So = (Value.slice Ap acc.length cp).ownBlock.toList := ⟨_, rfl⟩
          have hSn : ∀ g ∈ So, w.heap.size + 7 ≤ g ∧ g < w3.heap.size := fun g hg => hB3.nown g (by rw [hSo] at hg; simpa using hg)
          have nB : Bx ∉ So := fun q => hne (by rw [hSo] at q; simpa using q)
          have n5 : w.heap.size + 1 + 1 + 1 + 1 + 1 ∉ So := fun q => by have := (hSn _ q).1; omega
          have n0 : w.heap.size ∉ So := fun q => by have := (hSn _ q).1; omega
          obtain ⟨So5, hSo5⟩ : ∃ So5, So5 = (w.heap.size + 1 + 1 + 1 + 1 + 1) :: So := ⟨_, rfl⟩
          have h55 : w.heap.size + 1 + 1 + 1 + 1 + 1 ∈ So5 := by rw [hSo5]; simp
          have hSub : ∀ g ∈ So, g ∈ So5 := fun g hg => by rw [hSo5]; exact List.mem_cons_of_mem _ hg
          have hS5 : ∀ g ∈ So5, (g = w.heap.size + 5 ∨ w.heap.size + 7 ≤ g) ∧ g < w3.heap.size := fun g hg => by
            rw [hSo5] at hg
            rcases List.mem_cons.1 hg with e | e
            · have := hB3.b5.lt
              omega
            · have := hSn g e
              omega
          have n05 : w.heap.size ∉ So5 := fun q => by have := (hS5 _ q).1; omega
          have nB5 : Bx ∉ So5 := fun q => by
            rw [hSo5] at q
            rcases List.mem_cons.1 q with e | e
            · omega
            · exact nB e
          have D0 := Within.cell (S := So5) (show w3.cell? ⟨w.heap.size, 0, none⟩ = some (.func (.func 115) #[] #[]) from hB3.b0.cell 0) n05
          have X0 := Within.cell (S := So5) (show w3.cell? ⟨Bx, 0, none⟩ = some (.int .i64 x.x.ev.id) from hX3.cell 0) nB5
          have X1 := Within.cell (S := So5) (show w3.cell? ⟨Bx, 1, none⟩ = some (.string x.x.ev.type) from hX3.cell 1) nB5
          have X2 := Within.cell (S := So5) (show w3.cell? ⟨Bx, 2, none⟩ = some (.string x.x.ev.data) from hX3.cell 2) nB5
          have X3 := Within.cell (S := So5) (show w3.cell? ⟨Bx, 3, none⟩ = some (.float .f64 x.x.ev.value) from hX3.cell 3) nB5
          have X4 := Within.cell (S := So5) (show w3.cell? ⟨Bx, 4, none⟩ = some (.string x.x.stream) from hX3.cell 4) nB5
          have X5 := Within.cell (S := So5) (show w3.cell? ⟨Bx, 5, none⟩ = some (.int .i64 x.x.version) from hX3.cell 5) nB5
          have X6 := Within.cell (S := So5) (show w3.cell? ⟨Bx, 6, none⟩ = some (.int .i64 x.x.position) from hX3.cell 6) nB5
          have X7 := Within.cell (S := So5) (show w3.cell? ⟨Bx, 7, none⟩ = some (.int .i64 x.x.time) from hX3.cell 7) nB5
          have hwx := IntWalk.i64_in (max (StoredR.version x.x) 0 - 1) ⟨by omega, by omega⟩
          have HX3 := Lib.hid hX3
          have PD : w3.drew.cell? ⟨w.heap.size + 1 + 1 + 1 + 1 + 1, 0, none⟩ = some (.slice Ap acc.length cp) := P5 0
          have PDA : ∀ o, (w3.drew.alloc o).cell? ⟨w.heap.size + 1 + 1 + 1 + 1 + 1, 0, none⟩ = some (.slice Ap acc.length cp) := fun o => (((Only.refl [] w3).drew.alloc o).blk hB3.b5 (by simp)).cell 0
          clear h2 hX3
          gi_wp2_with fail
          refine wpIn_region_g (C := fun W => ∃ p : Within So5 w3, W = p.W) [([0, 2, 5, 6], [(1, 3)], [4]), ([10], [], [7]), ([8, 9], [], [11])] [12, 13] (by rintro ⟨a, w, h⟩; exact h) (by kernel_rfl) (by kernel_rfl) (by kernel_rfl) (by intro c d u a w h; cases d <;> exact h) ⟨⟨_, (Only.refl _ _).drew⟩, rfl⟩ ?_
          refine gFirstF ?_
          show wpQuiet _ _ _ _ [_, _, _, _] _
          repeat (go_big_quiet_step (fail))
          refine wpQuiet_nil ?_
          clear D0 X0 X1 X2 X3 X4 X5 X6 X7
          refine fork_intro (fun a0 a1 W => ∃ (g : Nat), a1 = (a0.put (some 24) (.slice Ap acc.length cp)).put (some 26) (.slice (some ⟨g, 0, none⟩) 1 1) ∧ Only [] w3 W ∧ Slc W 8 (.slice (some ⟨g, 0, none⟩) 1 1) 1 x.x.cells) ?_ ?_ ?_
          · show wpList _ _ _ [_] _ _
            go_wp2_with fail
            refine check_of (S := So5) (Only.refl So5 w3).drew ?_
            show wpList _ _ _ [_] _ _
            go_wp2_with fail
            exact check_of (S := So5) ((Only.refl So5 w3).drew.alloc _) ⟨w3.drew.heap.size, rfl, (Only.refl [] w3).drew.alloc _, slc_new1 (size := 8) (cs := x.x.cells) rfl⟩
          · show wpList _ _ _ [_] _ _
            go_wp2_with fail
            refine check_of (S := So5) ((Only.refl So5 w3).drew.alloc _) ?_
            show wpList _ _ _ [_] _ _
            go_wp2_with fail
            exact check_of (S := So5) ((Only.refl So5 w3).drew.alloc _) ⟨w3.drew.heap.size, rfl, (Only.refl [] w3).drew.alloc _, slc_new1 (size := 8) (cs := x.x.cells) rfl⟩
          · rintro _ Wg ⟨g, rfl, hWg, hs1⟩
            obtain ⟨A4, c4', w4, hr4, hown4, hO4, hf4⟩ := run_app (P := Tryz.prog) 28 28 w.heap.size 92 (.agg #[.int .i64 0, .string ⟨#[]⟩, .string ⟨#[]⟩, .float .f64 0, .string ⟨#[]⟩, .int .i64 0, .int .i64 0, .int .i64 0]) 8 88 Tryz.underlying28 infoSt rfl (by decide) (own_only hB3.own hWg (by simp)) hs1 (by simpa using stored_one [x.x]) (by omega) (by unfold maxLen; omega) (by have := hB3.below.size; have := hWg.size; omega)
            have hlx : (acc ++ [x.x]).length = acc.length + 1 := by simp
            have ho4 : w4.ownsRow w.heap.size 92 8 (.slice A4 (acc.length + 1) c4') (acc ++ [x.x]).length ((acc ++ [x.x]).flatMap StoredR.cells) := by
              rw [hlx]
              simpa using hown4
            have ho24 : Only So w3 w4 := (hWg.of_nil).trans (by rw [hSo]; exact hO4)
            have HR4 := Lib.hid hr4
            clear hr4 hown4 hs1
            show wpList _ _ _ [_] _ _
            refine Lib.wpList_append_run _ rfl (.tmp 24) (.tmp 26) 28 28 rfl _ _ rfl rfl _ _ HR4.out ?_
            refine wpList_nil ?_
            refine check_of (S := So5) (ho24.mono hSub) ?_
            refine gNext ?_
            show wpQuiet _ _ _ _ [_] _
            go_frame
            repeat (go_big_quiet_step (fail))
            refine wpQuiet_nil ?_
            show wpList _ _ _ [_] _ _
            go_wp2_with (go_at_call 115; refine (hKC.out _).mono ?_; rintro e w5 ⟨rfl, k5⟩)
            have ho25 : Only So w3 w5 := ho24.trans k5.of_nil
            refine check_of (S := So5) (ho25.mono hSub) ?_
            refine gNext ?_
            show wpQuiet _ _ _ _ [_, _] _
            repeat (go_big_quiet_step (fail))
            refine wpQuiet_nil ?_
            have P5 : ∀ i, w5.cell? ⟨w.heap.size + 1 + 1 + 1 + 1 + 1, i, none⟩ = #[Value.slice Ap acc.length cp, .int .i64 nx, .bool true][i]? := fun i => (ho25.blk hB3.b5 n5).cell i
            have F5 : ∀ i, w5.frozen? ⟨w.heap.size + 1 + 1 + 1 + 1 + 1, i, none⟩ = false := fun i => (ho25.blk hB3.b5 n5).free i
            show wpList _ _ _ [_] _ _
            go_wp2_with fail
            refine check_of (S := So5) ((ho25.mono hSub).setCell (.inl h55) _) ?_
            refine gEnd ?_
            show wpList _ _ _ [_, _] _ _
            go_wp2_with fail
            have koE : Only [w.heap.size + 1 + 1 + 1 + 1 + 1] w5 ((w5.setCell ⟨w.heap.size + 1 + 1 + 1 + 1 + 1, 0, none⟩ (.slice A4 (acc.length + 1) c4')).setCell ⟨w.heap.size + 1 + 1 + 1 + 1 + 1, 1, none⟩ (.int .i64 (max (StoredR.version x.x) 0 - 1))) := ((Only.refl _ _).setCell (.inl (by simp)) _).setCell (.inl (by simp)) _
            have kT : Only So5 w3 ((w5.setCell ⟨w.heap.size + 1 + 1 + 1 + 1 + 1, 0, none⟩ (.slice A4 (acc.length + 1) c4')).setCell ⟨w.heap.size + 1 + 1 + 1 + 1 + 1, 1, none⟩ (.int .i64 (max (StoredR.version x.x) 0 - 1))) := (ho25.mono hSub).trans (koE.mono (fun g hg => by rw [List.mem_singleton.1 hg]; exact h55))
            have hno : ∀ i, i < w.heap.size + 7 → i ≠ w.heap.size + 5 → i ∉ So5 := fun i h1 h2 q => by
              have := (hS5 i q).1
              omega
            obtain ⟨av, hb6⟩ := hB3.b6
            refine ⟨keepsOS (S := So5) (o3.of_nil.trans kT) (fun g hg => ?_), KeepT.only (S := So5) (o3.of_nil.trans kT) (fun i hi => ⟨by rcases hT3 i hi with q | q <;> omega, by rcases hT3 i hi with q | q; (exact hno i (by omega) (by omega)); (exact hno i (by omega) (by omega))⟩),
              .slice A4 (acc.length + 1) c4', acc ++ [x.x], max (StoredR.version x.x) 0 - 1, ⟨below_only hB3.below kT (fun g hg => by have := (hS5 g hg).1; omega), kT.blk hB3.b0 (hno _ (by omega) (by omega)), kT.blk hB3.b1 (hno _ (by omega) (by omega)), kT.blk hB3.b2 (hno _ (by omega) (by omega)), kT.blk hB3.b3 (hno _ (by omega) (by omega)), kT.blk hB3.b4 (hno _ (by omega) (by omega)), ((ho25.blk hB3.b5 n5).set 0 _).set 1 _, ⟨av, kT.blk hb6 (hno _ (by omega) (by omega))⟩, own_only (own_only ho4 k5 (by simp)) koE (fun g hg => ?_)⟩, by have := kT.size; omega, by simp; omega, hN⟩
            · rw [hSo5] at hg
              rcases List.mem_cons.1 hg with e | e
              · rw [e]
                exact ⟨_, _, HB.out.b5⟩
              · rw [hSo] at e
                obtain ⟨cur, hcur⟩ := own_type HB.out.own (g := g) (by simpa using e)
                exact ⟨_, _, hcur⟩
            · obtain ⟨cur, hcur⟩ := own_type ho4 hg
              simp only [List.mem_singleton]
              exact hcur.other (ho24.blk hB3.b5 n5) (by decide)
    case done =>
      rintro D ys W hD hys ⟨pv, acc, nx, hB, hz, ha, hRun⟩ hK3
      obtain ⟨Ap, cp, hpv, hap1, hap2⟩ := own_form hB.own
      subst hpv
      have hfin : R = ⟨acc, nx, true⟩ := by
        rw [HR.out, ← hys, ← List.append_nil (ys.map (·.x))]
        exact hRun.out []
      have P5 : ∀ i, W.cell? ⟨w.heap.size + 1 + 1 + 1 + 1 + 1, i, none⟩ = #[Value.slice Ap acc.length cp, .int .i64 nx, .bool true][i]? := fun i => hB.b5.cell i
      have P3 : ∀ i, W.cell? ⟨w.heap.size + 1 + 1 + 1, i, none⟩ = #[Value.slice none 0 0, .int .i64 0, .bool false][i]? := fun i => hB.b3.cell i
      have F3 : ∀ i, W.frozen? ⟨w.heap.size + 1 + 1 + 1, i, none⟩ = false := fun i => hB.b3.free i
      have P4 : ∀ i, W.cell? ⟨w.heap.size + 1 + 1 + 1 + 1, i, none⟩ = #[Value.int .i64 0][i]? := fun i => hB.b4.cell i
      have F4 : ∀ i, W.frozen? ⟨w.heap.size + 1 + 1 + 1 + 1, i, none⟩ = false := fun i => hB.b4.free i
      have HFin := Lib.hid hfin
      clear hfin hRun hys
      gi_wp2
      have koE : Only [w.heap.size + 1 + 1 + 1, w.heap.size + 1 + 1 + 1 + 1] W ((((W.setCell ⟨w.heap.size + 1 + 1 + 1, 0, none⟩ (.slice Ap acc.length cp)).setCell ⟨w.heap.size + 1 + 1 + 1, 1, none⟩ (.int .i64 nx)).setCell ⟨w.heap.size + 1 + 1 + 1, 2, none⟩ (.bool true)).setCell ⟨w.heap.size + 1 + 1 + 1 + 1, 0, none⟩ (.int .i64 0)) := by
        iterate 4 (refine Only.setCell ?_ (.inl (by simp)) _)
        exact Only.refl _ _
      have q2 := ((hB.b3.set 0 (.slice Ap acc.length cp)).set 1 (.int .i64 nx)).set 2 (.bool true)
      have he3 := ((Only.refl [w.heap.size + 1 + 1 + 1 + 1] _).setCell (p := ⟨w.heap.size + 1 + 1 + 1 + 1, 0, none⟩) (.inl (by simp)) (.int .i64 0)).blk q2 (by simp)
      have r1 : Only [w.heap.size + 1 + 1 + 1] W (((W.setCell ⟨w.heap.size + 1 + 1 + 1, 0, none⟩ (.slice Ap acc.length cp)).setCell ⟨w.heap.size + 1 + 1 + 1, 1, none⟩ (.int .i64 nx)).setCell ⟨w.heap.size + 1 + 1 + 1, 2, none⟩ (.bool true)) := by
        iterate 3 (refine Only.setCell ?_ (.inl (by simp)) _)
        exact Only.refl _ _
      have he4 := (r1.blk hB.b4 (by simp)).set 0 (.int .i64 0)
      have hoe := own_only hB.own koE (fun g hg => by
        have := (hB.nown g hg).1
        simp
        omega)
      have hbe := below_only hB.below koE (fun g hg => by simp at hg; omega)
      have hKe := (koE.block D (Array.getElem?_eq_some_iff.1 hK3).1 (by simp; omega)).trans hK3
      have kD : Only [D] ((((W.setCell ⟨w.heap.size + 1 + 1 + 1, 0, none⟩ (.slice Ap acc.length cp)).setCell ⟨w.heap.size + 1 + 1 + 1, 1, none⟩ (.int .i64 nx)).setCell ⟨w.heap.size + 1 + 1 + 1, 2, none⟩ (.bool true)).setCell ⟨w.heap.size + 1 + 1 + 1 + 1, 0, none⟩ (.int .i64 0)) ((((((W.setCell ⟨w.heap.size + 1 + 1 + 1, 0, none⟩ (.slice Ap acc.length cp)).setCell ⟨w.heap.size + 1 + 1 + 1, 1, none⟩ (.int .i64 nx)).setCell ⟨w.heap.size + 1 + 1 + 1, 2, none⟩ (.bool true)).setCell ⟨w.heap.size + 1 + 1 + 1 + 1, 0, none⟩ (.int .i64 0))).putObj D (.deferred none)) := only_grownBy (grownBy_putObj' _ D (.deferred none)) (fun r e => by cases e; simp)
      refine ⟨by simp, .inl ⟨_, _, rfl, run_takeDeferred hKe, ?_⟩⟩
      have c3 := fun i => (kD.blk he3 (by simp; omega)).cell i
      have c4 := fun i => (kD.blk he4 (by simp; omega)).cell i
      refine ⟨.tuple #[.agg #[.slice Ap acc.length cp, .int .i64 nx, .bool true], .int .i64 0], ?_, .slice Ap acc.length cp, by rw [HFin.out], ?_, Only.of_below (below_only hbe kD (fun g hg => by simp at hg; omega)) (Nat.le_refl _)⟩
      · simp [results, Tryz.f114, go_sem, c3, c4]
      · rw [HFin.out]
        exact own_only hoe kD (fun g hg => by
          obtain ⟨cur, hcur⟩ := own_type hoe hg
          intro q
          have e1 := List.mem_singleton.1 q
          rw [e1] at hcur
          rw [show (((((W.setCell ⟨w.heap.size + 1 + 1 + 1, 0, none⟩ (.slice Ap acc.length cp)).setCell ⟨w.heap.size + 1 + 1 + 1, 1, none⟩ (.int .i64 nx)).setCell ⟨w.heap.size + 1 + 1 + 1, 2, none⟩ (.bool true)).setCell ⟨w.heap.size + 1 + 1 + 1 + 1, 0, none⟩ (.int .i64 0))).heap[D]? = _ from hcur] at hKe
          cases hKe)
    case stop =>
      rintro D c pre W hD hpre ⟨rfl, pv, acc, nx, ⟨g3, g4, hown, hbel⟩, hRun⟩ hK3
      obtain ⟨Ap, cp, hpv, hap1, hap2⟩ := own_form hown
      subst hpv
      have hfin : R = ⟨acc, nx, false⟩ := by
        obtain ⟨rest, hr⟩ := hpre
        rw [HR.out, ← hr]
        exact hRun.out rest
      have HFin := Lib.hid hfin
      clear hfin hRun hpre
      gi_wp2
      have he3 := g3
      have he4 := g4
      have hoe := hown
      have hbe := hbel
      have hKe := hK3
      have kD : Only [D] W (W.putObj D (.deferred none)) := only_grownBy (grownBy_putObj' _ D (.deferred none)) (fun r e => by cases e; simp)
      refine ⟨by simp, .inl ⟨_, _, rfl, run_takeDeferred hKe, ?_⟩⟩
      have c3 := fun i => (kD.blk he3 (by simp; omega)).cell i
      have c4 := fun i => (kD.blk he4 (by simp; omega)).cell i
      refine ⟨.tuple #[.agg #[.slice Ap acc.length cp, .int .i64 nx, .bool false], .int .i64 0], ?_, .slice Ap acc.length cp, by rw [HFin.out], ?_, Only.of_below (below_only hbe kD (fun g hg => by simp at hg; omega)) (Nat.le_refl _)⟩
      · simp [results, Tryz.f114, go_sem, c3, c4]
      · rw [HFin.out]
        exact own_only hoe kD (fun g hg => by
          obtain ⟨cur, hcur⟩ := own_type hoe hg
          intro q
          have e1 := List.mem_singleton.1 q
          rw [e1] at hcur
          rw [show W.heap[D]? = _ from hcur] at hKe
          cases hKe)
end
end Go.Proofs.YteinoiicnmemhaaGreatDoor
