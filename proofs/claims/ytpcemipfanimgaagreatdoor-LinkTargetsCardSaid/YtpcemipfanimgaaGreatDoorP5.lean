/- Proved here: contracts of functions and plain laws, part 5 of one proof. Conditions: each theorem names its own. -/
import Derived.Test.YtpcemipfanimgaaGreatDoorP4
import Derived.Lib.SlicesCompact
/- Contracts: IndexFunc and DeleteFunc of stored events, by the closures of link.stream and link.wanted. -/
set_option linter.unusedVariables false
set_option linter.unusedSimpArgs false
namespace Go.Proofs.YtpcemipfanimgaaGreatDoor
open Go.RowKit
theorem zeroStV (w : World) : (zeroValue 26).run Tryz.prog w = .ok (.agg #[.int .i64 0, .string ⟨#[]⟩, .string ⟨#[]⟩, .float .f64 0, .string ⟨#[]⟩, .int .i64 0, .int .i64 0, .int .i64 0]) w := by kernel_rfl
theorem sizeStV (w : World) : (Go.sizeOf 26).run Tryz.prog w = .ok 8 w := by kernel_rfl
theorem zeroSt : (∀ v ∈ (Value.agg #[.int .i64 0, .string ⟨#[]⟩, .string ⟨#[]⟩, .float .f64 0, .string ⟨#[]⟩, .int .i64 0, .int .i64 0, .int .i64 0]).cells.toList, v.oneCell' = true) ∧ (Value.agg #[.int .i64 0, .string ⟨#[]⟩, .string ⟨#[]⟩, .float .f64 0, .string ⟨#[]⟩, .int .i64 0, .int .i64 0, .int .i64 0]).cells.size = 8 := by
  constructor
  · simp [Value.cells, Value.oneCell']
  · rfl
/-- What is asked of the predicate: in every world in which only these blocks turned. -/
def JudgesK (L : List StoredR) (S : List Nat) (w : World) (cv : Value) (p : StoredR → Bool) : Prop := ∀ W, Only S w W → ∀ x ∈ L,
  Calls Tryz.prog 109 #[.agg #[.int .i64 x.ev.id, .string x.ev.type, .string x.ev.data, .float .f64 x.ev.value, .string x.stream, .int .i64 x.version, .int .i64 x.position, .int .i64 x.time], cv] W fun e W' => e = .returned (.bool (p x)) ∧ Only [] W W'
set_option maxRecDepth 100000 in
set_option maxHeartbeats 1000000 in
theorem indexSt_anyK {w : World} {v : Value} {l : List StoredR} {p : StoredR → Bool} {cv : Value} (hl : Slc w 8 v l.length (l.flatMap StoredR.cells)) (hb : l.length ≤ 1000000) (HP : JudgesK l [] w cv p) :
    Calls Tryz.prog 135 #[v, .func (.func 109) #[] #[cv]] w fun e w' => e = .returned (.int .i64 (idxP p l 0)) ∧ Only [] w w' := by
  obtain ⟨A, cap, rfl, hnc, hcm, hel⟩ := hl.openE StoredR.cells (fun _ => rfl)
  unfold maxLen at hcm
  obtain ⟨R, hR⟩ : ∃ R, R = idxP p l 0 := ⟨_, rfl⟩
  rw [← hR]
  have HR := Lib.hid hR
  have HJ := Lib.hid HP
  clear hR HP
  go_enter Tryz.func135, Tryz.ntmps135
  go_wp2
  go_loopw [5, 8] (fun _ i wr => ∃ k : Nat, k ≤ l.length ∧ i = .int .i64 k ∧ Hid (R = idxP p (l.drop k) k) ∧ Only [] w wr) (fun _ i _ => l.length - (intOf i).toNat)
  case atStart => exact ⟨0, Nat.zero_le _, rfl, HR, Only.refl _ _⟩
  case round =>
    obtain ⟨k, hk, rfl, hT, hO⟩ := hrel
    by_cases hlt : k < l.length
    · obtain ⟨b, off, rfl, hbb, hcc⟩ := hel k hlt
      have hd := idxP_drop p l k hlt k
      obtain ⟨s, hs⟩ : ∃ s, s = l[k] := ⟨_, rfl⟩
      rw [← hs] at hcc hd
      have c0 : wr.cell? ⟨b, off + k * 8, none⟩ = some (.int .i64 s.ev.id) := (hO.cell hbb (by simp)).trans (hcc 0 (by omega))
      have c1 : wr.cell? ⟨b, off + k * 8 + 1, none⟩ = some (.string s.ev.type) := (hO.cell hbb (by simp)).trans (hcc 1 (by omega))
      have c2 : wr.cell? ⟨b, off + k * 8 + 2, none⟩ = some (.string s.ev.data) := (hO.cell hbb (by simp)).trans (hcc 2 (by omega))
      have c3 : wr.cell? ⟨b, off + k * 8 + 3, none⟩ = some (.float .f64 s.ev.value) := (hO.cell hbb (by simp)).trans (hcc 3 (by omega))
      have c4 : wr.cell? ⟨b, off + k * 8 + 4, none⟩ = some (.string s.stream) := (hO.cell hbb (by simp)).trans (hcc 4 (by omega))
      have c5 : wr.cell? ⟨b, off + k * 8 + 5, none⟩ = some (.int .i64 s.version) := (hO.cell hbb (by simp)).trans (hcc 5 (by omega))
      have c6 : wr.cell? ⟨b, off + k * 8 + 6, none⟩ = some (.int .i64 s.position) := (hO.cell hbb (by simp)).trans (hcc 6 (by omega))
      have c7 : wr.cell? ⟨b, off + k * 8 + 7, none⟩ = some (.int .i64 s.time) := (hO.cell hbb (by simp)).trans (hcc 7 (by omega))
      have hsm : s ∈ l := by rw [hs]; exact List.getElem_mem hlt
      have hcall := HJ.out wr hO s hsm
      have hsf := stF
      clear hcc hs hel
      cases hq : p s with
      | true =>
        rw [hq] at hcall hd
        have HN : Hid (R = k) := by unfold Hid; rw [hT.out, hd]; rfl
        have HC := Lib.hid hcall
        clear hcall hd hq hT
        go_wp2_with (go_at_call 109; refine HC.out.mono ?_; rintro e w1 ⟨rfl, ho1⟩)
        go_ret
        exact ⟨by rw [HN.out]; rfl, hO.trans ho1⟩
      | false =>
        rw [hq] at hcall hd
        have HN : Hid (R = idxP p (l.drop (k + 1)) ((k + 1 : Nat) : Int)) := by
          unfold Hid
          rw [hT.out, hd]
          simp
        have HC := Lib.hid hcall
        clear hcall hd hq hT
        go_wp2_with (go_at_call 109; refine HC.out.mono ?_; rintro e w1 ⟨rfl, ho1⟩)
        exact ⟨⟨k + 1, hlt, by simp, HN, hO.trans ho1⟩, by simp [intOf]; omega⟩
    · have HN : Hid (R = -1) := by unfold Hid; rw [hT.out, List.drop_of_length_le (by omega)]; rfl
      clear hel
      go_wp2
      go_ret
      exact ⟨by rw [HN.out]; rfl, hO⟩
set_option maxRecDepth 100000 in
set_option maxHeartbeats 2000000 in
theorem deleteSt_anyK {w : World} {base : Nat} {v : Value} {l : List StoredR} {p : StoredR → Bool} {cv : Value} (hl : w.ownsRow base 26 8 v l.length (l.flatMap StoredR.cells)) (hb : l.length ≤ 1000000) (HP : JudgesK l v.ownBlock.toList w cv p) :
    Calls Tryz.prog 103 #[v, .func (.func 109) #[] #[cv]] w fun e w' => ∃ v', e = .returned v' ∧ w'.ownsRow base 26 8 v' (l.filter (fun x => !p x)).length ((l.filter (fun x => !p x)).flatMap StoredR.cells) ∧ Only v.ownBlock.toList w w' := by
  have hix := indexSt_anyK (Slc.of_own hl).1 hb (p := p) (cv := cv) (fun W hW => HP W hW.of_nil)
  obtain ⟨j0, hj, hy0, hy1, hy2⟩ := info_parts infoSt
  have hsp := idxP_spec p l 0
  rcases hsp with ⟨e1, e2⟩ | ⟨k0, hk0, e1, ht, e2⟩
  · rw [e1] at hix
    rw [e2]
    obtain ⟨A, cap, rfl, _, _⟩ := own_form hl
    have HI := Lib.hid hix
    clear hix e1 e2
    go_enter Tryz.func103, Tryz.ntmps103
    go_wp2_with (go_at_call 135; refine HI.out.mono ?_; rintro e w1 ⟨rfl, ho1⟩)
    go_ret
    exact ⟨_, rfl, own_only hl ho1 (by simp), ho1.of_nil⟩
  · rw [e1, Int.zero_add] at hix
    rcases own_blk hl with ⟨rfl, rfl⟩ | ⟨g, cap, cs0, rest, rfl, hbg, hB0, hnc, hcm, hsz, hcs0⟩
    · exact absurd hk0 (Nat.not_lt_zero _)
    have hne : ((k0 : Int) == -1) = false := beq_eq_false_iff_ne.2 (by omega)
    have HI := Lib.hid hix
    have HJ := Lib.hid HP
    have hK0 := KeptAt.start (p := p) hk0 e2
    unfold maxLen at hcm
    obtain ⟨f, hf⟩ : ∃ f, f = l.filter (fun x => !p x) := ⟨_, rfl⟩
    rw [← hf]
    have HF := Lib.hid hf
    clear hix HP e1 e2 ht hf
    go_enter Tryz.func103, Tryz.ntmps103
    go_wp2_with (go_at_call 135; refine HI.out.mono ?_; rintro e w1 ⟨rfl, ho1⟩)
    go_loopw [5, 6, 7] (fun s5 s6 _ wr => ∃ (i j : Nat) (ys : List StoredR) (cs : Array Value), s5 = .int .i64 i ∧ s6 = .int .i64 j ∧ KeptAt p l ys i j ∧ Blk wr g 26 cs ∧ cs.toList = ys.flatMap StoredR.cells ++ rest ∧ Only [g] w wr) (fun _ j _ _ => l.length - (intOf j).toNat)
    case atStart => exact ⟨k0, k0 + 1, l, cs0, rfl, by simp, hK0, ho1.blk hB0 (by simp), hcs0, ho1.of_nil⟩
    case round =>
      obtain ⟨i, j, ys, cs, rfl, rfl, hK, hB, hcs, hO⟩ := hrel
      have hij := hK.lt
      have hjl := hK.le
      have hyl := hK.len
      have hcl : ∀ q, (cs.toList).length = q → q = cap * 8 := by
        intro q hq
        have h1 := flat_len StoredR.cells 8 ys (fun _ _ => rfl)
        have h2 := flat_len StoredR.cells 8 l (fun _ _ => rfl)
        have h3 : cs0.toList.length = cap * 8 := by simpa using hsz
        rw [hcs0] at h3
        rw [hcs] at hq
        simp only [List.length_append] at h3 hq
        omega
      have hcsz : cs.size = cap * 8 := hcl _ (by simp)
      by_cases hlt : j < l.length
      · obtain ⟨hjy, hyj⟩ := hK.get hlt
        have hskip := hK.skip hlt
        have hkeep := hK.keep hlt
        obtain ⟨s, hs⟩ : ∃ s, s = l[j] := ⟨_, rfl⟩
        rw [← hs] at hyj hskip hkeep
        have c0 : wr.cell? ⟨g, j * 8, none⟩ = some (.int .i64 s.ev.id) := (blk_elem hB hcs hjy (r := 0) (by omega)).trans (by rw [hyj]; rfl)
        have c1 : wr.cell? ⟨g, j * 8 + 1, none⟩ = some (.string s.ev.type) := (blk_elem hB hcs hjy (by omega)).trans (by rw [hyj]; rfl)
        have c2 : wr.cell? ⟨g, j * 8 + 2, none⟩ = some (.string s.ev.data) := (blk_elem hB hcs hjy (by omega)).trans (by rw [hyj]; rfl)
        have c3 : wr.cell? ⟨g, j * 8 + 3, none⟩ = some (.float .f64 s.ev.value) := (blk_elem hB hcs hjy (by omega)).trans (by rw [hyj]; rfl)
        have c4 : wr.cell? ⟨g, j * 8 + 4, none⟩ = some (.string s.stream) := (blk_elem hB hcs hjy (by omega)).trans (by rw [hyj]; rfl)
        have c5 : wr.cell? ⟨g, j * 8 + 5, none⟩ = some (.int .i64 s.version) := (blk_elem hB hcs hjy (by omega)).trans (by rw [hyj]; rfl)
        have c6 : wr.cell? ⟨g, j * 8 + 6, none⟩ = some (.int .i64 s.position) := (blk_elem hB hcs hjy (by omega)).trans (by rw [hyj]; rfl)
        have c7 : wr.cell? ⟨g, j * 8 + 7, none⟩ = some (.int .i64 s.time) := (blk_elem hB hcs hjy (by omega)).trans (by rw [hyj]; rfl)
        have hcall := fun (W : World) (hW : Only [g] w W) => HJ.out W (hW.mono (by simp [Value.ownBlock])) s (by rw [hs]; exact List.getElem_mem hlt)
        have hsf := stF
        clear hs hyj
        cases hq : p s with
        | true =>
          rw [hq] at hcall
          have HC := Lib.hid hcall
          have HK := Lib.hid (hskip hq)
          clear hcall hskip hkeep hK hq
          go_wp2_with (go_at_call 109; refine (HC.out _ (hO.alloc _)).mono ?_; rintro e w2 ⟨rfl, ho2⟩)
          have hB2 := ho2.blk (((Only.refl [] _).alloc _).blk hB (by simp)) (by simp)
          exact ⟨⟨i, j + 1, ys, cs, rfl, by simp, HK.out, hB2, hcs, (hO.alloc _).trans ho2.of_nil⟩, by simp [intOf]; omega⟩
        | false =>
          rw [hq] at hcall
          have HC := Lib.hid hcall
          have HK := Lib.hid (hkeep hq)
          clear hcall hskip hkeep hK hq
          have hiy : i < ys.length := by omega
          have hset := fun (W : World) (hW : Blk W g 26 cs) => blk_set8 hW hcs hiy s
          have HSet := Lib.hid hset
          obtain ⟨o, ho⟩ : ∃ o, o = ys[i] := ⟨_, rfl⟩
          have HO := Lib.hid ho
          clear hset ho
          go_wp2_with (go_at_call 109; refine (HC.out _ (hO.alloc _)).mono ?_; rintro e w2 ⟨rfl, ho2⟩
                       have hB2 := ho2.blk (((Only.refl [] _).alloc _).blk hB (by simp)) (by simp)
                       have hX2 := ho2.blk (Blk.new wr 26 _) (by simp)
                       have e0 : w2.cell? ⟨g, i * 8, none⟩ = some (.int .i64 o.ev.id) := (blk_elem hB2 hcs hiy (r := 0) (by omega)).trans (by rw [← HO.out]; rfl)
                       have e1 : w2.cell? ⟨g, i * 8 + 1, none⟩ = some (.string o.ev.type) := (blk_elem hB2 hcs hiy (by omega)).trans (by rw [← HO.out]; rfl)
                       have e2 : w2.cell? ⟨g, i * 8 + 2, none⟩ = some (.string o.ev.data) := (blk_elem hB2 hcs hiy (by omega)).trans (by rw [← HO.out]; rfl)
                       have e3 : w2.cell? ⟨g, i * 8 + 3, none⟩ = some (.float .f64 o.ev.value) := (blk_elem hB2 hcs hiy (by omega)).trans (by rw [← HO.out]; rfl)
                       have e4 : w2.cell? ⟨g, i * 8 + 4, none⟩ = some (.string o.stream) := (blk_elem hB2 hcs hiy (by omega)).trans (by rw [← HO.out]; rfl)
                       have e5 : w2.cell? ⟨g, i * 8 + 5, none⟩ = some (.int .i64 o.version) := (blk_elem hB2 hcs hiy (by omega)).trans (by rw [← HO.out]; rfl)
                       have e6 : w2.cell? ⟨g, i * 8 + 6, none⟩ = some (.int .i64 o.position) := (blk_elem hB2 hcs hiy (by omega)).trans (by rw [← HO.out]; rfl)
                       have e7 : w2.cell? ⟨g, i * 8 + 7, none⟩ = some (.int .i64 o.time) := (blk_elem hB2 hcs hiy (by omega)).trans (by rw [← HO.out]; rfl)
                       have d2 := fun i => hB2.free i
                       have d3 := fun i => hX2.cell i)
          obtain ⟨cs2, hb2, hc2⟩ := HSet.out w2 hB2
          refine ⟨⟨i + 1, j + 1, ys.set i s, cs2, by simp, by simp, HK.out, hb2, hc2, ?hw⟩, by simp [intOf]; omega⟩
          case hw =>
            iterate 8 (refine Only.setCell ?_ (.inl (by simp)) _)
            exact (hO.alloc _).trans ho2.of_nil
      · have hje : j = l.length := by omega
        have hfin : (l.filter (fun x => !p x)) = ys.take i := by
          rw [hK.done, hje, List.take_length]
        have hfl : (ys.take i).length = i := by simp; omega
        have hclr : ∀ ty, (Builtin.clear_ #[28] ty #[.slice (some ⟨g, i * 8, none⟩) (l.length - i) (cap - i)]).run Tryz.prog wr = .ok (.tuple #[]) (wr.setCells g (i * 8) (Builtin.zeroCells (Value.agg #[.int .i64 0, .string ⟨#[]⟩, .string ⟨#[]⟩, .float .f64 0, .string ⟨#[]⟩, .int .i64 0, .int .i64 0, .int .i64 0]).cells (l.length - i)).toList) := fun ty =>
          run_clearK wr 28 26 ty _ Tryz.underlying28 zeroStV zeroSt.1 8 zeroSt.2 g (i * 8) _ _ (by omega) (fun q hq => by
            rw [hB.cell, Array.getElem?_eq_getElem (by omega)]
            rfl) (fun q hq => hB.free _)
        obtain ⟨cs2, hb2, hs2, hg2⟩ := hB.sets (Builtin.zeroCells (Value.agg #[.int .i64 0, .string ⟨#[]⟩, .string ⟨#[]⟩, .float .f64 0, .string ⟨#[]⟩, .int .i64 0, .int .i64 0, .int .i64 0]).cells (l.length - i)).toList (i * 8)
        have hfrm := HF.out
        rw [hfin] at hfrm
        have htk : cs2.toList.take ((ys.take i).length * 8) = (ys.take i).flatMap StoredR.cells := by
          rw [hfl, ← flat_take]
          apply List.ext_getElem?
          intro q
          by_cases hq : q < i * 8
          · have h1 := flat_len StoredR.cells 8 ys (fun _ _ => rfl)
            rw [List.getElem?_take_of_lt hq, List.getElem?_take_of_lt hq, Array.getElem?_toList, hg2 q hq, ← Array.getElem?_toList, hcs, List.getElem?_append_left (by omega)]
          · rw [List.getElem?_eq_none (by simp; omega), List.getElem?_eq_none (by simp; omega)]
        have hown : (wr.setCells g (i * 8) (Builtin.zeroCells (Value.agg #[.int .i64 0, .string ⟨#[]⟩, .string ⟨#[]⟩, .float .f64 0, .string ⟨#[]⟩, .int .i64 0, .int .i64 0, .int .i64 0]).cells (l.length - i)).toList).ownsRow base 26 8 (.slice (some ⟨g, 0, none⟩) i cap) f.length (f.flatMap StoredR.cells) := by
          have := blk_own (xs := ys.take i) (cap := cap) hbg hb2 (by omega) (by unfold maxLen; omega) (by omega) htk
          rw [hfl] at this
          rw [hfrm, hfl]
          exact this
        have hend : Only [g] w (wr.setCells g (i * 8) (Builtin.zeroCells (Value.agg #[.int .i64 0, .string ⟨#[]⟩, .string ⟨#[]⟩, .float .f64 0, .string ⟨#[]⟩, .int .i64 0, .int .i64 0, .int .i64 0]).cells (l.length - i)).toList) := hO.setCells (.inl (by simp)) _ _
        obtain ⟨WE, hWE⟩ : ∃ WE, WE = wr.setCells g (i * 8) (Builtin.zeroCells (Value.agg #[.int .i64 0, .string ⟨#[]⟩, .string ⟨#[]⟩, .float .f64 0, .string ⟨#[]⟩, .int .i64 0, .int .i64 0, .int .i64 0]).cells (l.length - i)).toList := ⟨_, rfl⟩
        rw [← hWE] at hclr hown hend
        clear hWE hfrm htk hg2 hs2 hb2 hfin hB hcs hK HF
        go_wp2
        go_ret
        exact ⟨_, rfl, hown, hend⟩
/-- What is asked of the predicate: in every world in which only these blocks turned. -/
def JudgesW (L : List StoredR) (S : List Nat) (w : World) (cv cv2 : Value) (p : StoredR → Bool) : Prop := ∀ W, Only S w W → ∀ x ∈ L,
  Calls Tryz.prog 104 #[.agg #[.int .i64 x.ev.id, .string x.ev.type, .string x.ev.data, .float .f64 x.ev.value, .string x.stream, .int .i64 x.version, .int .i64 x.position, .int .i64 x.time], cv, cv2] W fun e W' => e = .returned (.bool (p x)) ∧ Only [] W W'
set_option maxRecDepth 100000 in
set_option maxHeartbeats 1000000 in
theorem indexSt_anyW {w : World} {v : Value} {l : List StoredR} {p : StoredR → Bool} {cv cv2 : Value} (hl : Slc w 8 v l.length (l.flatMap StoredR.cells)) (hb : l.length ≤ 1000000) (HP : JudgesW l [] w cv cv2 p) :
    Calls Tryz.prog 135 #[v, .func (.func 104) #[] #[cv, cv2]] w fun e w' => e = .returned (.int .i64 (idxP p l 0)) ∧ Only [] w w' := by
  obtain ⟨A, cap, rfl, hnc, hcm, hel⟩ := hl.openE StoredR.cells (fun _ => rfl)
  unfold maxLen at hcm
  obtain ⟨R, hR⟩ : ∃ R, R = idxP p l 0 := ⟨_, rfl⟩
  rw [← hR]
  have HR := Lib.hid hR
  have HJ := Lib.hid HP
  clear hR HP
  go_enter Tryz.func135, Tryz.ntmps135
  go_wp2
  go_loopw [5, 8] (fun _ i wr => ∃ k : Nat, k ≤ l.length ∧ i = .int .i64 k ∧ Hid (R = idxP p (l.drop k) k) ∧ Only [] w wr) (fun _ i _ => l.length - (intOf i).toNat)
  case atStart => exact ⟨0, Nat.zero_le _, rfl, HR, Only.refl _ _⟩
  case round =>
    obtain ⟨k, hk, rfl, hT, hO⟩ := hrel
    by_cases hlt : k < l.length
    · obtain ⟨b, off, rfl, hbb, hcc⟩ := hel k hlt
      have hd := idxP_drop p l k hlt k
      obtain ⟨s, hs⟩ : ∃ s, s = l[k] := ⟨_, rfl⟩
      rw [← hs] at hcc hd
      have c0 : wr.cell? ⟨b, off + k * 8, none⟩ = some (.int .i64 s.ev.id) := (hO.cell hbb (by simp)).trans (hcc 0 (by omega))
      have c1 : wr.cell? ⟨b, off + k * 8 + 1, none⟩ = some (.string s.ev.type) := (hO.cell hbb (by simp)).trans (hcc 1 (by omega))
      have c2 : wr.cell? ⟨b, off + k * 8 + 2, none⟩ = some (.string s.ev.data) := (hO.cell hbb (by simp)).trans (hcc 2 (by omega))
      have c3 : wr.cell? ⟨b, off + k * 8 + 3, none⟩ = some (.float .f64 s.ev.value) := (hO.cell hbb (by simp)).trans (hcc 3 (by omega))
      have c4 : wr.cell? ⟨b, off + k * 8 + 4, none⟩ = some (.string s.stream) := (hO.cell hbb (by simp)).trans (hcc 4 (by omega))
      have c5 : wr.cell? ⟨b, off + k * 8 + 5, none⟩ = some (.int .i64 s.version) := (hO.cell hbb (by simp)).trans (hcc 5 (by omega))
      have c6 : wr.cell? ⟨b, off + k * 8 + 6, none⟩ = some (.int .i64 s.position) := (hO.cell hbb (by simp)).trans (hcc 6 (by omega))
      have c7 : wr.cell? ⟨b, off + k * 8 + 7, none⟩ = some (.int .i64 s.time) := (hO.cell hbb (by simp)).trans (hcc 7 (by omega))
      have hsm : s ∈ l := by rw [hs]; exact List.getElem_mem hlt
      have hcall := HJ.out wr hO s hsm
      have hsf := stF
      clear hcc hs hel
      cases hq : p s with
      | true =>
        rw [hq] at hcall hd
        have HN : Hid (R = k) := by unfold Hid; rw [hT.out, hd]; rfl
        have HC := Lib.hid hcall
        clear hcall hd hq hT
        go_wp2_with (go_at_call 104; refine HC.out.mono ?_; rintro e w1 ⟨rfl, ho1⟩)
        go_ret
        exact ⟨by rw [HN.out]; rfl, hO.trans ho1⟩
      | false =>
        rw [hq] at hcall hd
        have HN : Hid (R = idxP p (l.drop (k + 1)) ((k + 1 : Nat) : Int)) := by
          unfold Hid
          rw [hT.out, hd]
          simp
        have HC := Lib.hid hcall
        clear hcall hd hq hT
        go_wp2_with (go_at_call 104; refine HC.out.mono ?_; rintro e w1 ⟨rfl, ho1⟩)
        exact ⟨⟨k + 1, hlt, by simp, HN, hO.trans ho1⟩, by simp [intOf]; omega⟩
    · have HN : Hid (R = -1) := by unfold Hid; rw [hT.out, List.drop_of_length_le (by omega)]; rfl
      clear hel
      go_wp2
      go_ret
      exact ⟨by rw [HN.out]; rfl, hO⟩
set_option maxRecDepth 100000 in
set_option maxHeartbeats 2000000 in
theorem deleteSt_anyW {w : World} {base : Nat} {v : Value} {l : List StoredR} {p : StoredR → Bool} {cv cv2 : Value} (hl : w.ownsRow base 26 8 v l.length (l.flatMap StoredR.cells)) (hb : l.length ≤ 1000000) (HP : JudgesW l v.ownBlock.toList w cv cv2 p) :
    Calls Tryz.prog 103 #[v, .func (.func 104) #[] #[cv, cv2]] w fun e w' => ∃ v', e = .returned v' ∧ w'.ownsRow base 26 8 v' (l.filter (fun x => !p x)).length ((l.filter (fun x => !p x)).flatMap StoredR.cells) ∧ Only v.ownBlock.toList w w' := by
  have hix := indexSt_anyW (Slc.of_own hl).1 hb (p := p) (cv := cv) (cv2 := cv2) (fun W hW => HP W hW.of_nil)
  obtain ⟨j0, hj, hy0, hy1, hy2⟩ := info_parts infoSt
  have hsp := idxP_spec p l 0
  rcases hsp with ⟨e1, e2⟩ | ⟨k0, hk0, e1, ht, e2⟩
  · rw [e1] at hix
    rw [e2]
    obtain ⟨A, cap, rfl, _, _⟩ := own_form hl
    have HI := Lib.hid hix
    clear hix e1 e2
    go_enter Tryz.func103, Tryz.ntmps103
    go_wp2_with (go_at_call 135; refine HI.out.mono ?_; rintro e w1 ⟨rfl, ho1⟩)
    go_ret
    exact ⟨_, rfl, own_only hl ho1 (by simp), ho1.of_nil⟩
  · rw [e1, Int.zero_add] at hix
    rcases own_blk hl with ⟨rfl, rfl⟩ | ⟨g, cap, cs0, rest, rfl, hbg, hB0, hnc, hcm, hsz, hcs0⟩
    · exact absurd hk0 (Nat.not_lt_zero _)
    have hne : ((k0 : Int) == -1) = false := beq_eq_false_iff_ne.2 (by omega)
    have HI := Lib.hid hix
    have HJ := Lib.hid HP
    have hK0 := KeptAt.start (p := p) hk0 e2
    unfold maxLen at hcm
    obtain ⟨f, hf⟩ : ∃ f, f = l.filter (fun x => !p x) := ⟨_, rfl⟩
    rw [← hf]
    have HF := Lib.hid hf
    clear hix HP e1 e2 ht hf
    go_enter Tryz.func103, Tryz.ntmps103
    go_wp2_with (go_at_call 135; refine HI.out.mono ?_; rintro e w1 ⟨rfl, ho1⟩)
    go_loopw [5, 6, 7] (fun s5 s6 _ wr => ∃ (i j : Nat) (ys : List StoredR) (cs : Array Value), s5 = .int .i64 i ∧ s6 = .int .i64 j ∧ KeptAt p l ys i j ∧ Blk wr g 26 cs ∧ cs.toList = ys.flatMap StoredR.cells ++ rest ∧ Only [g] w wr) (fun _ j _ _ => l.length - (intOf j).toNat)
    case atStart => exact ⟨k0, k0 + 1, l, cs0, rfl, by simp, hK0, ho1.blk hB0 (by simp), hcs0, ho1.of_nil⟩
    case round =>
      obtain ⟨i, j, ys, cs, rfl, rfl, hK, hB, hcs, hO⟩ := hrel
      have hij := hK.lt
      have hjl := hK.le
      have hyl := hK.len
      have hcl : ∀ q, (cs.toList).length = q → q = cap * 8 := by
        intro q hq
        have h1 := flat_len StoredR.cells 8 ys (fun _ _ => rfl)
        have h2 := flat_len StoredR.cells 8 l (fun _ _ => rfl)
        have h3 : cs0.toList.length = cap * 8 := by simpa using hsz
        rw [hcs0] at h3
        rw [hcs] at hq
        simp only [List.length_append] at h3 hq
        omega
      have hcsz : cs.size = cap * 8 := hcl _ (by simp)
      by_cases hlt : j < l.length
      · obtain ⟨hjy, hyj⟩ := hK.get hlt
        have hskip := hK.skip hlt
        have hkeep := hK.keep hlt
        obtain ⟨s, hs⟩ : ∃ s, s = l[j] := ⟨_, rfl⟩
        rw [← hs] at hyj hskip hkeep
        have c0 : wr.cell? ⟨g, j * 8, none⟩ = some (.int .i64 s.ev.id) := (blk_elem hB hcs hjy (r := 0) (by omega)).trans (by rw [hyj]; rfl)
        have c1 : wr.cell? ⟨g, j * 8 + 1, none⟩ = some (.string s.ev.type) := (blk_elem hB hcs hjy (by omega)).trans (by rw [hyj]; rfl)
        have c2 : wr.cell? ⟨g, j * 8 + 2, none⟩ = some (.string s.ev.data) := (blk_elem hB hcs hjy (by omega)).trans (by rw [hyj]; rfl)
        have c3 : wr.cell? ⟨g, j * 8 + 3, none⟩ = some (.float .f64 s.ev.value) := (blk_elem hB hcs hjy (by omega)).trans (by rw [hyj]; rfl)
        have c4 : wr.cell? ⟨g, j * 8 + 4, none⟩ = some (.string s.stream) := (blk_elem hB hcs hjy (by omega)).trans (by rw [hyj]; rfl)
        have c5 : wr.cell? ⟨g, j * 8 + 5, none⟩ = some (.int .i64 s.version) := (blk_elem hB hcs hjy (by omega)).trans (by rw [hyj]; rfl)
        have c6 : wr.cell? ⟨g, j * 8 + 6, none⟩ = some (.int .i64 s.position) := (blk_elem hB hcs hjy (by omega)).trans (by rw [hyj]; rfl)
        have c7 : wr.cell? ⟨g, j * 8 + 7, none⟩ = some (.int .i64 s.time) := (blk_elem hB hcs hjy (by omega)).trans (by rw [hyj]; rfl)
        have hcall := fun (W : World) (hW : Only [g] w W) => HJ.out W (hW.mono (by simp [Value.ownBlock])) s (by rw [hs]; exact List.getElem_mem hlt)
        have hsf := stF
        clear hs hyj
        cases hq : p s with
        | true =>
          rw [hq] at hcall
          have HC := Lib.hid hcall
          have HK := Lib.hid (hskip hq)
          clear hcall hskip hkeep hK hq
          go_wp2_with (go_at_call 104; refine (HC.out _ (hO.alloc _)).mono ?_; rintro e w2 ⟨rfl, ho2⟩)
          have hB2 := ho2.blk (((Only.refl [] _).alloc _).blk hB (by simp)) (by simp)
          exact ⟨⟨i, j + 1, ys, cs, rfl, by simp, HK.out, hB2, hcs, (hO.alloc _).trans ho2.of_nil⟩, by simp [intOf]; omega⟩
        | false =>
          rw [hq] at hcall
          have HC := Lib.hid hcall
          have HK := Lib.hid (hkeep hq)
          clear hcall hskip hkeep hK hq
          have hiy : i < ys.length := by omega
          have hset := fun (W : World) (hW : Blk W g 26 cs) => blk_set8 hW hcs hiy s
          have HSet := Lib.hid hset
          obtain ⟨o, ho⟩ : ∃ o, o = ys[i] := ⟨_, rfl⟩
          have HO := Lib.hid ho
          clear hset ho
          go_wp2_with (go_at_call 104; refine (HC.out _ (hO.alloc _)).mono ?_; rintro e w2 ⟨rfl, ho2⟩
                       have hB2 := ho2.blk (((Only.refl [] _).alloc _).blk hB (by simp)) (by simp)
                       have hX2 := ho2.blk (Blk.new wr 26 _) (by simp)
                       have e0 : w2.cell? ⟨g, i * 8, none⟩ = some (.int .i64 o.ev.id) := (blk_elem hB2 hcs hiy (r := 0) (by omega)).trans (by rw [← HO.out]; rfl)
                       have e1 : w2.cell? ⟨g, i * 8 + 1, none⟩ = some (.string o.ev.type) := (blk_elem hB2 hcs hiy (by omega)).trans (by rw [← HO.out]; rfl)
                       have e2 : w2.cell? ⟨g, i * 8 + 2, none⟩ = some (.string o.ev.data) := (blk_elem hB2 hcs hiy (by omega)).trans (by rw [← HO.out]; rfl)
                       have e3 : w2.cell? ⟨g, i * 8 + 3, none⟩ = some (.float .f64 o.ev.value) := (blk_elem hB2 hcs hiy (by omega)).trans (by rw [← HO.out]; rfl)
                       have e4 : w2.cell? ⟨g, i * 8 + 4, none⟩ = some (.string o.stream) := (blk_elem hB2 hcs hiy (by omega)).trans (by rw [← HO.out]; rfl)
                       have e5 : w2.cell? ⟨g, i * 8 + 5, none⟩ = some (.int .i64 o.version) := (blk_elem hB2 hcs hiy (by omega)).trans (by rw [← HO.out]; rfl)
                       have e6 : w2.cell? ⟨g, i * 8 + 6, none⟩ = some (.int .i64 o.position) := (blk_elem hB2 hcs hiy (by omega)).trans (by rw [← HO.out]; rfl)
                       have e7 : w2.cell? ⟨g, i * 8 + 7, none⟩ = some (.int .i64 o.time) := (blk_elem hB2 hcs hiy (by omega)).trans (by rw [← HO.out]; rfl)
                       have d2 := fun i => hB2.free i
                       have d3 := fun i => hX2.cell i)
          obtain ⟨cs2, hb2, hc2⟩ := HSet.out w2 hB2
          refine ⟨⟨i + 1, j + 1, ys.set i s, cs2, by simp, by simp, HK.out, hb2, hc2, ?hw⟩, by simp [intOf]; omega⟩
          case hw =>
            iterate 8 (refine Only.setCell ?_ (.inl (by simp)) _)
            exact (hO.alloc _).trans ho2.of_nil
      · have hje : j = l.length := by omega
        have hfin : (l.filter (fun x => !p x)) = ys.take i := by
          rw [hK.done, hje, List.take_length]
        have hfl : (ys.take i).length = i := by simp; omega
        have hclr : ∀ ty, (Builtin.clear_ #[28] ty #[.slice (some ⟨g, i * 8, none⟩) (l.length - i) (cap - i)]).run Tryz.prog wr = .ok (.tuple #[]) (wr.setCells g (i * 8) (Builtin.zeroCells (Value.agg #[.int .i64 0, .string ⟨#[]⟩, .string ⟨#[]⟩, .float .f64 0, .string ⟨#[]⟩, .int .i64 0, .int .i64 0, .int .i64 0]).cells (l.length - i)).toList) := fun ty =>
          run_clearK wr 28 26 ty _ Tryz.underlying28 zeroStV zeroSt.1 8 zeroSt.2 g (i * 8) _ _ (by omega) (fun q hq => by
            rw [hB.cell, Array.getElem?_eq_getElem (by omega)]
            rfl) (fun q hq => hB.free _)
        obtain ⟨cs2, hb2, hs2, hg2⟩ := hB.sets (Builtin.zeroCells (Value.agg #[.int .i64 0, .string ⟨#[]⟩, .string ⟨#[]⟩, .float .f64 0, .string ⟨#[]⟩, .int .i64 0, .int .i64 0, .int .i64 0]).cells (l.length - i)).toList (i * 8)
        have hfrm := HF.out
        rw [hfin] at hfrm
        have htk : cs2.toList.take ((ys.take i).length * 8) = (ys.take i).flatMap StoredR.cells := by
          rw [hfl, ← flat_take]
          apply List.ext_getElem?
          intro q
          by_cases hq : q < i * 8
          · have h1 := flat_len StoredR.cells 8 ys (fun _ _ => rfl)
            rw [List.getElem?_take_of_lt hq, List.getElem?_take_of_lt hq, Array.getElem?_toList, hg2 q hq, ← Array.getElem?_toList, hcs, List.getElem?_append_left (by omega)]
          · rw [List.getElem?_eq_none (by simp; omega), List.getElem?_eq_none (by simp; omega)]
        have hown : (wr.setCells g (i * 8) (Builtin.zeroCells (Value.agg #[.int .i64 0, .string ⟨#[]⟩, .string ⟨#[]⟩, .float .f64 0, .string ⟨#[]⟩, .int .i64 0, .int .i64 0, .int .i64 0]).cells (l.length - i)).toList).ownsRow base 26 8 (.slice (some ⟨g, 0, none⟩) i cap) f.length (f.flatMap StoredR.cells) := by
          have := blk_own (xs := ys.take i) (cap := cap) hbg hb2 (by omega) (by unfold maxLen; omega) (by omega) htk
          rw [hfl] at this
          rw [hfrm, hfl]
          exact this
        have hend : Only [g] w (wr.setCells g (i * 8) (Builtin.zeroCells (Value.agg #[.int .i64 0, .string ⟨#[]⟩, .string ⟨#[]⟩, .float .f64 0, .string ⟨#[]⟩, .int .i64 0, .int .i64 0, .int .i64 0]).cells (l.length - i)).toList) := hO.setCells (.inl (by simp)) _ _
        obtain ⟨WE, hWE⟩ : ∃ WE, WE = wr.setCells g (i * 8) (Builtin.zeroCells (Value.agg #[.int .i64 0, .string ⟨#[]⟩, .string ⟨#[]⟩, .float .f64 0, .string ⟨#[]⟩, .int .i64 0, .int .i64 0, .int .i64 0]).cells (l.length - i)).toList := ⟨_, rfl⟩
        rw [← hWE] at hclr hown hend
        clear hWE hfrm htk hg2 hs2 hb2 hfin hB hcs hK HF
        go_wp2
        go_ret
        exact ⟨_, rfl, hown, hend⟩
end Go.Proofs.YtpcemipfanimgaaGreatDoor
/- Links, plain: what the functions of links tell of a state; what a target that is linked by Next alone has. No program is named here. -/
set_option linter.unusedVariables false
set_option linter.unusedSimpArgs false
namespace Go.Proofs.YtpcemipfanimgaaGreatDoor
open Go.RowKit
def streamE (s : MS) (n : ByteArray) : List StoredR := s.all.filter (fun x => decide (x.stream = n))
def leadsTo (s : MS) (x : StoredR) : Option Int :=
  if x.ev.type.data.toList = linkT then
    match unlinkB x.ev.data with
    | some (v, n) => ((streamE s n)[v.toNat]?).map (·.position)
    | none => none
  else none
def reachedIn (s : MS) : List StoredR → Int
  | [] => 0
  | x :: l => match leadsTo s x with
    | some p => p + 1
    | none => reachedIn s l
def MS.reached (s : MS) (t : ByteArray) : Int := reachedIn s (streamE s t).reverse
def MS.wanted (s : MS) (t : ByteArray) : List StoredR := s.all.filter (fun x => !(decide (x.position < s.reached t) || !wantsT t x))
def linkCmd (t : ByteArray) (n : Int) (x : StoredR) : Cmd := ⟨1, 0, t, n - 1, [⟨x.position + 1, ba linkT, linkData x.version x.stream, 0⟩], MetaR.zero⟩
def MS.nextC (s : MS) (t : ByteArray) : Option Cmd :=
  match s.wanted t with
  | [] => none
  | x :: _ => if (s.find t).deleted then none else some (linkCmd t (s.find t).places.length x)
def plainL (t : ByteArray) (l : List StoredR) : List StoredR := l.filter (wantsL t)
def isLinkB (x y : StoredR) (k : Nat) : Bool := decide (x.ev.type.data.toList = linkT) && decide (x.ev.data = linkData y.version y.stream) && decide (x.ev.id = y.position + 1) && decide (x.version = (k : Int))
def linksGo (want : List StoredR) (t : ByteArray) : List StoredR → Nat → Option Nat
  | [], k => some k
  | x :: l, k => if x.stream = t then
      match want[k]? with
      | none => none
      | some y => if isLinkB x y k then linksGo want t l (k + 1) else none
    else linksGo want t l k
def reachedL (want : List StoredR) (k : Nat) : Int := if 0 < k then ((want[k - 1]?).map (·.position)).getD 0 + 1 else 0
def MS.linksB (s : MS) (t : ByteArray) : Bool :=
  match linksGo (plainL t s.all) t s.all 0 with
  | none => false
  | some k => decide (((s.wanted t).length : Int) = (plainL t s.all).length - k) && decide (s.reached t = reachedL (plainL t s.all) k)

/-! ## what every state has -/
structure MS.SInv (s : MS) : Prop where
  inv : s.Inv
  str : ∀ n, (s.find n).places.map (evAt s.all) = streamE s n
  nam : ∀ x ∈ s.all, nameOk x.stream = true
theorem sinv_new : MS.new.SInv := ⟨inv_new, fun n => rfl, fun x hx => by cases hx⟩
theorem check_name {c : Cmd} (h : c.check = 0) (hk : c.kind ≤ 3) : nameOk c.stream = true := by
  unfold Cmd.check at h
  split at h
  · omega
  · split at h
    · omega
    · rename_i h2
      cases q : nameOk c.stream
      · exact absurd ⟨hk, q⟩ h2
      · rfl
theorem do_named (s : MS) (c : Cmd) : (s.do c).2.all = s.all ∨ nameOk c.stream = true := by
  unfold MS.do
  split
  · exact .inl rfl
  rename_i hc
  dsimp only
  split
  · exact .inl rfl
  split
  · exact .inl rfl
  · right
    have h0 : c.check = 0 := by simpa using hc
    refine check_name h0 ?_
    have h0' := h0
    unfold Cmd.check at h0'
    split at h0'
    · omega
    · rename_i h1 h2
      omega
theorem storedOf_str (n : ByteArray) (now : Int) : ∀ (l : List EventR) (v p : Int), ∀ x ∈ storedOf n now l v p, x.stream = n
  | [], _, _, x, h => by cases h
  | e :: l, v, p, x, h => by
    simp only [storedOf, List.mem_cons] at h
    rcases h with rfl | h
    · rfl
    · exact storedOf_str n now l _ _ x h
theorem evAt_old {all more : List StoredR} {p : Int} (h : 0 ≤ p ∧ p < all.length) : evAt (all ++ more) p = evAt all p := by
  unfold evAt
  rw [List.getElem?_append_left (by omega)]
theorem map_old {all more : List StoredR} {l : List Int} (h : ∀ p ∈ l, 0 ≤ p ∧ p < all.length) : l.map (evAt (all ++ more)) = l.map (evAt all) := List.map_congr_left fun p hp => evAt_old (h p hp)
theorem map_new (all : List StoredR) : ∀ (new pre : List StoredR), pre.length = 0 ∨ True → (rangeFrom new.length (all.length : Int)).map (evAt (all ++ new)) = new := by
  intro new pre _
  apply List.ext_getElem?
  intro i
  rw [List.getElem?_map]
  by_cases h : i < new.length
  · rw [rangeFrom_get _ _ _ h]
    simp only [Option.map_some]
    have : (all.length : Int) + i = ((all.length + i : Nat) : Int) := by omega
    rw [this, evAt_nat (by rw [List.length_append]; omega), List.getElem_append_right (by omega)]
    simp [h]
  · rw [List.getElem?_eq_none (by rw [rangeFrom_len]; omega), List.getElem?_eq_none (by omega)]
    rfl
theorem places_bd {s : MS} (h : s.Inv) (n : ByteArray) : ∀ p ∈ (s.find n).places, 0 ≤ p ∧ p < s.all.length := by
  intro p hp
  obtain ⟨k, hk, rfl⟩ := List.mem_iff_getElem.1 hp
  obtain ⟨q, hq, e, _⟩ := h.plc n k hk
  omega
theorem streamE_app {s t : MS} {new : List StoredR} (ha : t.all = s.all ++ new) {m : ByteArray} (hm : ∀ x ∈ new, x.stream = m) (n : ByteArray) : streamE t n = streamE s n ++ (if m = n then new else []) := by
  unfold streamE
  rw [ha, List.filter_append]
  congr 1
  split
  · rename_i q
    subst q
    rw [List.filter_eq_self]
    intro x hx
    exact decide_eq_true (hm x hx)
  · rename_i q
    rw [List.filter_eq_nil_iff]
    intro x hx
    rw [hm x hx]
    simpa using q
theorem sinv_do {s : MS} (h : s.SInv) (c : Cmd) : (s.do c).2.SInv := by
  have hi := inv_do h.inv c
  have hn := do_named s c
  rcases do_shape s c with ⟨h1, h2⟩ | ⟨y, h1, ⟨h2, h3⟩ | ⟨h2, h3⟩⟩
  · refine ⟨hi, fun n => ?_, fun x hx => h.nam x (by rw [← h2]; exact hx)⟩
    unfold streamE
    rw [h2, find_m h1]
    exact h.str n
  · refine ⟨hi, fun n => ?_, fun x hx => h.nam x (by rw [← h3]; exact hx)⟩
    have e : (s.do c).2.find n = (s.put c.stream y).find n := find_m h1 n
    unfold streamE
    rw [h3, e, find_put]
    split
    · rename_i q; subst q; rw [h2]; exact h.str _
    · exact h.str n
  · refine ⟨hi, fun n => ?_, fun x hx => ?_⟩
    · have e : (s.do c).2.find n = (s.put c.stream y).find n := find_m h1 n
      rw [streamE_app h3 (storedOf_str _ _ _ _ _) n, e, find_put, h3]
      split
      · rename_i q
        subst q
        rw [h2, List.map_append, map_old (places_bd h.inv _), h.str]
        congr 1
        have := map_new s.all (storedOf c.stream (max s.now c.time) c.events (s.find c.stream).places.length s.all.length) [] (.inl rfl)
        rw [storedOf_len] at this
        exact this
      · rw [map_old (places_bd h.inv _), h.str, List.append_nil]
    · rw [h3] at hx
      rcases List.mem_append.1 hx with q | q
      · exact h.nam x q
      · rcases hn with q2 | q2
        · rw [h3] at q2
          have := List.append_right_eq_self.1 q2
          rw [this] at q
          cases q
        · rw [storedOf_str _ _ _ _ _ x q]
          exact q2
theorem MS.SInv.at {s : MS} (h : s.SInv) {n : ByteArray} {k : Nat} {x : StoredR} (e : (streamE s n)[k]? = some x) : x.version = k ∧ x.stream = n ∧ ∃ p : Nat, (s.find n).places[k]? = some (p : Int) ∧ s.all[p]? = some x ∧ x.position = p := by
  rw [← h.str, List.getElem?_map] at e
  obtain ⟨q, hq, rfl⟩ := Option.map_eq_some_iff.1 e
  obtain ⟨hk, e2⟩ := List.getElem?_eq_some_iff.1 hq
  obtain ⟨p, hp, h1, h2, h3⟩ := h.inv.plc n k hk
  rw [e2] at h1
  subst h1
  rw [evAt_nat hp]
  exact ⟨h3, h2, p, hq, List.getElem?_eq_getElem hp, h.inv.pos p hp⟩
theorem MS.SInv.nth {s : MS} (h : s.SInv) {y : StoredR} (hy : y ∈ s.all) : 0 ≤ y.version ∧ y.version < s.all.length ∧ (streamE s y.stream)[y.version.toNat]? = some y := by
  obtain ⟨i, hi, rfl⟩ := List.mem_iff_getElem.1 hy
  obtain ⟨k, e1, e2⟩ := h.inv.ver i hi
  have e3 : (streamE s s.all[i].stream)[k]? = some s.all[i] := by
    rw [← h.str, List.getElem?_map, e2]
    simp [evAt_nat hi]
  have hk : k < (streamE s s.all[i].stream).length := (List.getElem?_eq_some_iff.1 e3).1
  have hl : (streamE s s.all[i].stream).length ≤ s.all.length := List.length_filter_le _ _
  rw [e1]
  refine ⟨by omega, by omega, ?_⟩
  rw [Int.toNat_natCast]
  exact e3
theorem MS.Inv.rising {s : MS} (h : s.Inv) : s.all.Pairwise (fun x y => x.position < y.position) := by
  rw [List.pairwise_iff_getElem]
  intro i j hi hj hij
  rw [h.pos i hi, h.pos j hj]
  omega
theorem plain_rising {s : MS} (h : s.Inv) (t : ByteArray) : (plainL t s.all).Pairwise (fun x y => x.position < y.position) := h.rising.filter _

/-! ## a target that is linked by Next alone -/
structure Lk (s : MS) (t : ByteArray) (k : Nat) : Prop where
  si : s.SInv
  live : (s.find t).deleted = false
  few : k ≤ (plainL t s.all).length
  len : (streamE s t).length = k
  lnk : ∀ i, i < k → ∃ x y, (streamE s t)[i]? = some x ∧ (plainL t s.all)[i]? = some y ∧ x.ev.type.data.toList = linkT ∧ x.ev.data = linkData y.version y.stream ∧ x.ev.id = y.position + 1
theorem lk_new (t : ByteArray) : Lk MS.new t 0 := ⟨sinv_new, rfl, Nat.zero_le _, rfl, fun i h => absurd h (Nat.not_lt_zero _)⟩
theorem plain_app (t : ByteArray) {s s' : MS} {new : List StoredR} (h : s'.all = s.all ++ new) : plainL t s'.all = plainL t s.all ++ plainL t new := by
  unfold plainL
  rw [h, List.filter_append]
theorem do_more (s : MS) (c : Cmd) : ∃ new, (s.do c).2.all = s.all ++ new ∧ (∀ x ∈ new, x.stream = c.stream) ∧ new.length ≤ c.events.length := by
  rcases do_shape s c with ⟨h1, h2⟩ | ⟨y, h1, ⟨h2, h3⟩ | ⟨h2, h3⟩⟩
  · exact ⟨[], by rw [h2, List.append_nil], (fun x hx => absurd hx (by simp)), Nat.zero_le _⟩
  · exact ⟨[], by rw [h3, List.append_nil], (fun x hx => absurd hx (by simp)), Nat.zero_le _⟩
  · exact ⟨_, h3, storedOf_str _ _ _ _ _, by rw [storedOf_len]; exact Nat.le_refl _⟩
theorem do_find {s : MS} {c : Cmd} {n : ByteArray} (hn : c.stream ≠ n) : (s.do c).2.find n = s.find n := by
  rcases do_shape s c with ⟨h1, h2⟩ | ⟨y, h1, _⟩
  · exact find_m h1 n
  · have e : (s.do c).2.find n = (s.put c.stream y).find n := find_m h1 n
    rw [e, find_put, if_neg hn]
theorem Lk.other {s : MS} {t : ByteArray} {k : Nat} (h : Lk s t k) {c : Cmd} (hc : c.stream ≠ t) : Lk (s.do c).2 t k := by
  obtain ⟨new, ha, hs, _⟩ := do_more s c
  have e1 : streamE (s.do c).2 t = streamE s t := by rw [streamE_app ha hs, if_neg hc, List.append_nil]
  have e2 := plain_app t ha
  refine ⟨sinv_do h.si c, by rw [do_find hc]; exact h.live, ?_, by rw [e1]; exact h.len, fun i hi => ?_⟩
  · rw [e2, List.length_append]
    have := h.few
    omega
  · obtain ⟨x, y, q1, q2, q3⟩ := h.lnk i hi
    refine ⟨x, y, by rw [e1]; exact q1, ?_, q3⟩
    rw [e2, List.getElem?_append_left (by have := h.few; omega)]
    exact q2
theorem plain_mem {t : ByteArray} {l : List StoredR} {y : StoredR} (h : y ∈ plainL t l) : y ∈ l ∧ wantsL t y = true := List.mem_filter.1 h
theorem Lk.leads {s : MS} {t : ByteArray} {k i : Nat} (h : Lk s t k) (hs : s.all.length ≤ 1000000) (hi : i < k) : ∃ x y, (streamE s t)[i]? = some x ∧ (plainL t s.all)[i]? = some y ∧ leadsTo s x = some y.position := by
  obtain ⟨x, y, q1, q2, q3, q4, q5⟩ := h.lnk i hi
  refine ⟨x, y, q1, q2, ?_⟩
  have hy := (plain_mem (List.mem_iff_getElem?.2 ⟨i, q2⟩)).1
  obtain ⟨v0, v1, v2⟩ := h.si.nth hy
  unfold leadsTo
  rw [if_pos q3, q4, unlink_link v0 (by omega) (h.si.nam y hy)]
  simp only []
  rw [v2]
  rfl
theorem Lk.reached_eq {s : MS} {t : ByteArray} {k : Nat} (h : Lk s t k) (hs : s.all.length ≤ 1000000) : s.reached t = reachedL (plainL t s.all) k := by
  unfold MS.reached reachedL
  have hl := h.len
  by_cases hk : 0 < k
  · obtain ⟨x, y, q1, q2, q3⟩ := h.leads hs (i := k - 1) (by omega)
    have e : streamE s t = (streamE s t).dropLast ++ [x] := by
      have hne : streamE s t ≠ [] := fun q => by rw [q] at hl; simp at hl; omega
      have hlast := List.dropLast_concat_getLast hne
      have hx : (streamE s t).getLast hne = x := by
        rw [List.getLast_eq_getElem]
        have := (List.getElem?_eq_some_iff.1 q1).2
        simp only [hl]
        exact this
      rw [hx] at hlast
      exact hlast.symm
    rw [e, List.reverse_append, if_pos hk, q2]
    simp [reachedIn, q3]
  · have e : streamE s t = [] := List.length_eq_zero_iff.1 (by omega)
    rw [e, if_neg hk]
    rfl
theorem filter_from {p : List StoredR} (hp : p.Pairwise (fun x y => x.position < y.position)) (h0 : ∀ x ∈ p, 0 ≤ x.position) {k : Nat} (hk : k ≤ p.length) : p.filter (fun x => !decide (x.position < reachedL p k)) = p.drop k := by
  have e := List.take_append_drop k p
  have hr : ∀ i (hi : i < p.length), (p[i].position < reachedL p k ↔ i < k) := by
    intro i hi
    unfold reachedL
    by_cases hk0 : 0 < k
    · have hk1 : k - 1 < p.length := by omega
      rw [if_pos hk0, List.getElem?_eq_getElem hk1]
      simp only [Option.map_some, Option.getD_some]
      rw [List.pairwise_iff_getElem] at hp
      constructor
      · intro q
        apply Classical.byContradiction
        intro q2
        have := hp (k - 1) i hk1 hi (by omega)
        omega
      · intro q
        by_cases q2 : i = k - 1
        · subst q2; omega
        · have := hp i (k - 1) hi hk1 (by omega)
          omega
    · rw [if_neg hk0]
      have := h0 p[i] (List.getElem_mem hi)
      omega
  have e1 : (p.take k).filter (fun x => !decide (x.position < reachedL p k)) = [] := by
    rw [List.filter_eq_nil_iff]
    intro x hx
    obtain ⟨i, hi, rfl⟩ := List.mem_iff_getElem.1 hx
    rw [List.length_take] at hi
    rw [List.getElem_take]
    rw [decide_eq_true ((hr i (by omega)).2 (by omega))]
    simp
  have e2 : (p.drop k).filter (fun x => !decide (x.position < reachedL p k)) = p.drop k := by
    rw [List.filter_eq_self]
    intro x hx
    obtain ⟨i, hi, rfl⟩ := List.mem_iff_getElem.1 hx
    rw [List.length_drop] at hi
    rw [List.getElem_drop]
    have hq : ¬p[k + i].position < reachedL p k := fun q => by
      have := (hr (k + i) (by omega)).1 q
      omega
    rw [decide_eq_false hq]
    rfl
  have hf : p.filter (fun x => !decide (x.position < reachedL p k)) = (p.take k ++ p.drop k).filter (fun x => !decide (x.position < reachedL p k)) := by rw [e]
  rw [hf, List.filter_append, e1, e2]
  rfl
theorem Lk.wanted_eq {s : MS} {t : ByteArray} {k : Nat} (h : Lk s t k) (hs : s.all.length ≤ 1000000) : s.wanted t = (plainL t s.all).drop k := by
  unfold MS.wanted
  rw [h.reached_eq hs, ← filter_from (plain_rising h.si.inv t) (fun x hx => ?_) h.few]
  · show _ = List.filter _ (List.filter _ _)
    rw [List.filter_filter]
    congr 1
    funext x
    rw [wants_eq]
    cases wantsL t x <;> simp
  · obtain ⟨i, hi, rfl⟩ := List.mem_iff_getElem.1 (plain_mem hx).1
    rw [h.si.inv.pos i hi]
    omega
theorem Lk.places {s : MS} {t : ByteArray} {k : Nat} (h : Lk s t k) : (s.find t).places.length = k := by
  have := congrArg List.length (h.si.str t)
  rw [List.length_map, h.len] at this
  exact this
theorem Lk.next_eq {s : MS} {t : ByteArray} {k : Nat} (h : Lk s t k) (hs : s.all.length ≤ 1000000) : s.nextC t = ((plainL t s.all)[k]?).map (linkCmd t k) := by
  unfold MS.nextC
  rw [h.wanted_eq hs, h.live, h.places]
  by_cases hk : k < (plainL t s.all).length
  · rw [List.drop_eq_getElem_cons hk, List.getElem?_eq_getElem hk]
    rfl
  · rw [List.drop_of_length_le (by omega), List.getElem?_eq_none (by omega)]
    rfl
theorem linksGo_eq (want : List StoredR) (t : ByteArray) : ∀ (l : List StoredR) (k : Nat), (∀ i x, (l.filter (fun x => decide (x.stream = t)))[i]? = some x → ∃ y, want[k + i]? = some y ∧ isLinkB x y (k + i) = true) → linksGo want t l k = some (k + (l.filter (fun x => decide (x.stream = t))).length)
  | [], k, _ => by simp [linksGo]
  | x :: l, k, h => by
    unfold linksGo
    by_cases hx : x.stream = t
    · rw [if_pos hx]
      rw [List.filter_cons, if_pos (decide_eq_true hx)] at h ⊢
      obtain ⟨y, h1, h2⟩ := h 0 x rfl
      rw [Nat.add_zero] at h1 h2
      rw [h1]
      simp only []
      rw [h2, if_pos rfl, linksGo_eq want t l (k + 1) (fun i z hz => ?_)]
      · simp only [List.length_cons]
        congr 1
        omega
      · have := h (i + 1) z (by simpa using hz)
        rw [show k + 1 + i = k + (i + 1) by omega]
        exact this
    · rw [if_neg hx]
      rw [List.filter_cons, if_neg (by simpa using hx)] at h ⊢
      exact linksGo_eq want t l k h
theorem Lk.links {s : MS} {t : ByteArray} {k : Nat} (h : Lk s t k) (hs : s.all.length ≤ 1000000) : s.linksB t = true := by
  have hg : linksGo (plainL t s.all) t s.all 0 = some k := by
    have := linksGo_eq (plainL t s.all) t s.all 0 (fun i x hx => ?_)
    · rw [this]
      have hl := h.len
      unfold streamE at hl
      rw [hl, Nat.zero_add]
    · have hx : (streamE s t)[i]? = some x := hx
      have hi : i < k := by rw [← h.len]; exact (List.getElem?_eq_some_iff.1 hx).1
      obtain ⟨x', y, q1, q2, q3, q4, q5⟩ := h.lnk i hi
      rw [hx] at q1
      injection q1 with q1
      subst q1
      refine ⟨y, by rw [Nat.zero_add]; exact q2, ?_⟩
      have hv := (h.si.at hx).1
      unfold isLinkB
      rw [decide_eq_true q3, decide_eq_true q4, decide_eq_true q5, Nat.zero_add, decide_eq_true hv]
      rfl
  unfold MS.linksB
  rw [hg]
  simp only []
  rw [h.wanted_eq hs, decide_eq_true (h.reached_eq hs), List.length_drop, decide_eq_true (by have := h.few; omega)]
  rfl
end Go.Proofs.YtpcemipfanimgaaGreatDoor
/- ModelAgain, the plain law: what an append came to stays, and it comes to it again. -/
set_option linter.unusedVariables false
set_option linter.unusedSimpArgs false
namespace Go.Proofs.YtpcemipfanimgaaGreatDoor
open Go.RowKit
theorem idAt_app {all more : List StoredR} {p : Int} (h : 0 ≤ p ∧ p < all.length) : idAt (all ++ more) p = idAt all p := by
  obtain ⟨q, rfl⟩ := Int.eq_ofNat_of_zero_le h.1
  have hq : q < all.length := by omega
  unfold idAt
  rw [Int.toNat_natCast, List.getElem?_append_left hq]
theorem firstOf_hit (all : List StoredR) (id : Int) (qs : List Int) : ∀ (ps : List Int) (k : Int), 0 ≤ k → firstOf all id ps k ≠ -1 → firstOf all id (ps ++ qs) k = firstOf all id ps k
  | [], k, _, h => absurd rfl h
  | p :: ps, k, hk, h => by
    by_cases h2 : idAt all p = id
    · simp only [List.cons_append, firstOf, h2, if_true]
    · simp only [List.cons_append, firstOf, h2, if_false] at h ⊢
      exact firstOf_hit all id qs ps (k + 1) (by omega) h
theorem firstOf_miss (all : List StoredR) (id : Int) (qs : List Int) : ∀ (ps : List Int) (k : Int), 0 ≤ k → firstOf all id ps k = -1 → firstOf all id (ps ++ qs) k = firstOf all id qs (k + ps.length)
  | [], k, _, _ => by simp
  | p :: ps, k, hk, h => by
    by_cases h2 : idAt all p = id
    · simp only [firstOf, h2, if_true] at h
      omega
    · simp only [List.cons_append, firstOf, h2, if_false] at h ⊢
      rw [firstOf_miss all id qs ps (k + 1) (by omega) h, List.length_cons]
      congr 1
      omega
theorem firstOf_congr {all all' : List StoredR} {id : Int} : ∀ (ps : List Int) (k : Int), (∀ p ∈ ps, idAt all' p = idAt all p) → firstOf all' id ps k = firstOf all id ps k
  | [], _, _ => rfl
  | p :: ps, k, h => by
    simp only [firstOf]
    rw [h p (by simp), firstOf_congr ps (k + 1) (fun q hq => h q (by simp [hq]))]
theorem firstOf_bd (all : List StoredR) (id : Int) : ∀ (ps : List Int) (k : Int), firstOf all id ps k = -1 ∨ (k ≤ firstOf all id ps k ∧ firstOf all id ps k < k + ps.length)
  | [], _ => .inl rfl
  | p :: ps, k => by
    simp only [firstOf]
    split
    · right; simp only [List.length_cons]; omega
    · rcases firstOf_bd all id ps (k + 1) with h | h
      · exact .inl h
      · right; simp only [List.length_cons]; omega
theorem sameIds_congr {all all' : List StoredR} : ∀ (es : List EventR) (ps : List Int), (∀ p ∈ ps, idAt all' p = idAt all p) → sameIds all' es ps = sameIds all es ps
  | [], _, _ => rfl
  | _ :: _, [], _ => rfl
  | e :: es, p :: ps, h => by
    simp only [sameIds]
    rw [h p (by simp), sameIds_congr es ps (fun q hq => h q (by simp [hq]))]
theorem sameIds_app {all : List StoredR} : ∀ (es : List EventR) (ps qs : List Int), es.length ≤ ps.length → sameIds all es (ps ++ qs) = sameIds all es ps
  | [], _, _, _ => rfl
  | _ :: _, [], _, h => by simp at h
  | e :: es, p :: ps, qs, h => by
    simp only [List.cons_append, sameIds]
    rw [sameIds_app es ps qs (by simpa using h)]
def evId (c : Cmd) : Int := (c.events.head?.map (·.id)).getD 0
/-- An append that came to version v and position pos would come to them again. -/
structure Told (s : MS) (c : Cmd) (v pos : Int) : Prop where
  v0 : 0 ≤ v
  len : v + c.events.length ≤ (s.find c.stream).places.length
  first : firstOf s.all (evId c) (s.find c.stream).places 0 = v
  ids : sameIds s.all c.events ((s.find c.stream).places.drop v.toNat) = true
  last : ((s.find c.stream).places[(v + c.events.length - 1).toNat]?).getD 0 = pos
  fits : fitsAgain c v = true
theorem Told.of {s t : MS} {c : Cmd} {v pos : Int} {more : List Int} {ev : List StoredR} (h : Told s c v pos) (hne : 1 ≤ c.events.length) (hb : ∀ p ∈ (s.find c.stream).places, 0 ≤ p ∧ p < s.all.length)
    (hp : (t.find c.stream).places = (s.find c.stream).places ++ more) (ha : t.all = s.all ++ ev) : Told t c v pos := by
  obtain ⟨h1, h2, h3, h4, h5, h6⟩ := h
  have hid : ∀ p ∈ (s.find c.stream).places, idAt t.all p = idAt s.all p := fun p hp => by rw [ha]; exact idAt_app (hb p hp)
  have hf : firstOf t.all (evId c) (s.find c.stream).places 0 = v := by rw [firstOf_congr _ 0 hid]; exact h3
  refine ⟨h1, by rw [hp, List.length_append]; omega, ?_, ?_, ?_, h6⟩
  · rw [hp, firstOf_hit _ _ _ _ _ (by omega) (by rw [hf]; omega), hf]
  · rw [hp, List.drop_append_of_le_length (by omega), sameIds_app _ _ _ (by simp; omega), sameIds_congr _ _ (fun p hp => hid p (List.mem_of_mem_drop hp))]
    exact h4
  · rw [hp, List.getElem?_append_left (by omega)]
    exact h5
theorem told_do {s : MS} {c : Cmd} {v pos : Int} {N : Nat} (h : Told s c v pos) (hne : 1 ≤ c.events.length) (hs : s.Ok N) (d : Cmd) : Told (s.do d).2 c v pos := by
  have hb := (hs.find c.stream).2.2.2.2
  rcases do_shape s d with ⟨h1, h2⟩ | ⟨y, h1, ⟨h2, h3⟩ | ⟨h2, h3⟩⟩
  · exact h.of hne hb (more := []) (ev := []) (by rw [find_m h1, List.append_nil]) (by rw [h2, List.append_nil])
  · refine h.of hne hb (more := []) (ev := []) ?_ (by rw [h3, List.append_nil])
    have e : (s.do d).2.find c.stream = (s.put d.stream y).find c.stream := find_m h1 _
    rw [e, find_put, List.append_nil]
    split
    · rename_i q; rw [← q]; exact h2
    · rfl
  · by_cases q : d.stream = c.stream
    · refine h.of hne hb (more := rangeFrom d.events.length s.all.length) ?_ h3
      have e : (s.do d).2.find c.stream = (s.put d.stream y).find c.stream := find_m h1 _
      rw [e, find_put, if_pos q, h2, q]
    · refine h.of hne hb (more := []) ?_ h3
      have e : (s.do d).2.find c.stream = (s.put d.stream y).find c.stream := find_m h1 _
      rw [e, find_put, if_neg q, List.append_nil]
theorem told_run {c : Cmd} {v pos : Int} (hne : 1 ≤ c.events.length) : ∀ (l : List CmdV) {s : MS} {N : Nat}, Told s c v pos → s.Ok N → Told (runS s l) c v pos
  | [], _, _, h, _ => h
  | x :: l, s, N, h, hs => told_run hne l (told_do h hne hs x.c) (MS.do_ok hs x.c)
theorem again_of {s : MS} {c : Cmd} {x : StreamR} {v : Int} (h0 : 0 ≤ v) (h1 : fitsAgain c v = true) (h2 : v + c.events.length ≤ x.places.length) (h3 : sameIds s.all c.events (x.places.drop v.toNat) = true) :
    s.again c x v = ⟨0, v, (x.places[(v + c.events.length - 1).toNat]?).getD 0, true⟩ := by
  unfold MS.again
  rw [if_neg (by rw [h1]; simp; omega), if_pos h3]
/-- Once more. -/
theorem told_again {s : MS} {c : Cmd} {v pos : Int} (h : Told s c v pos) (hk : c.check = 0) (h1 : c.kind = 1) :
    ((s.find c.stream).deleted = true → (s.do c).1 = ⟨23, 0, 0, false⟩) ∧ ((s.find c.stream).deleted = false → (s.do c).1 = ⟨0, v, pos, true⟩) ∧ (s.do c).2.all = s.all ∧ (((s.do c).2).find c.stream).deleted = (s.find c.stream).deleted := by
  obtain ⟨a1, a2, a3, a4, a5, a6⟩ := h
  unfold MS.do
  rw [if_neg (by rw [hk]; decide)]
  dsimp only
  rw [if_neg (by rw [h1]; decide)]
  have hfx : (s.tick c.time).find c.stream = s.find c.stream := rfl
  rw [hfx]
  cases hd : (s.find c.stream).deleted with
  | true =>
    refine ⟨fun _ => by simp, fun q => by simp at q, by simp [MS.tick], ?_⟩
    simp only [if_true]
    rw [hfx]
    exact hd
  | false =>
    have hact : ∀ x : StreamR, x.places = (s.find c.stream).places → (s.tick c.time).act c x = (⟨0, v, pos, true⟩, x, s.tick c.time) := fun x hx => by
      unfold MS.act
      dsimp only
      rw [if_neg (by rw [h1]; decide), if_neg (by rw [h1]; decide)]
      have e1 : (s.tick c.time).first x ((c.events.head?).map (·.id) |>.getD 0) = v := by
        unfold MS.first
        rw [hx]
        exact a3
      rw [e1, if_pos a1, again_of a1 a6 (by rw [hx]; exact a2) (by rw [hx]; exact a4), hx, a5]
    simp only [Bool.false_eq_true, if_false]
    rw [hact ⟨(s.find c.stream).places, (s.find c.stream).mt, (s.tick c.time).floorOf (s.find c.stream), false⟩ rfl]
    refine ⟨fun q => by simp at q, fun _ => rfl, rfl, ?_⟩
    unfold MS.keep
    rw [find_put, if_pos rfl]
/-- What an append that is told OK comes to. -/
theorem told_first {s : MS} {c : Cmd} {N : Nat} (hs : s.Ok N) (h1 : c.kind = 1) (he : (s.do c).1.err = 0) : Told (s.do c).2 c (s.do c).1.version (s.do c).1.position ∧ c.check = 0 ∧ 1 ≤ c.events.length := by
  have hk : c.check = 0 := by
    by_cases hk : c.check = 0
    · exact hk
    · unfold MS.do at he
      rw [if_pos hk] at he
      exact absurd he hk
  have hz := check_zero hk
  have hl := hz.2.2.2.2 h1
  refine ⟨?_, hk, hl.1⟩
  unfold MS.do at he ⊢
  rw [if_neg (by rw [hk]; decide)] at he ⊢
  dsimp only at he ⊢
  rw [if_neg (by rw [h1]; decide)] at he ⊢
  have hfx : (s.tick c.time).find c.stream = s.find c.stream := rfl
  rw [hfx] at he ⊢
  cases hd : (s.find c.stream).deleted with
  | true => rw [hd] at he; simp at he
  | false =>
    rw [hd] at he
    simp only [Bool.false_eq_true, if_false] at he ⊢
    obtain ⟨x, hx⟩ : ∃ x : StreamR, x = ⟨(s.find c.stream).places, (s.find c.stream).mt, (s.tick c.time).floorOf (s.find c.stream), false⟩ := ⟨_, rfl⟩
    have hxp : x.places = (s.find c.stream).places := by rw [hx]
    have hb : ∀ p ∈ x.places, 0 ≤ p ∧ p < s.all.length := by rw [hxp]; exact (hs.find c.stream).2.2.2.2
    rw [← hx] at he ⊢
    have key : ∀ (a : Ans) (y : StreamR) (t : MS), (s.tick c.time).act c x = (a, y, t) → a.err = 0 →
        0 ≤ a.version ∧ a.version + c.events.length ≤ y.places.length ∧ firstOf t.all (evId c) y.places 0 = a.version ∧ sameIds t.all c.events (y.places.drop a.version.toNat) = true ∧ (y.places[(a.version + c.events.length - 1).toNat]?).getD 0 = a.position ∧ fitsAgain c a.version = true := by
      intro a y t hact ha
      unfold MS.act at hact
      dsimp only at hact
      rw [if_neg (by rw [h1]; decide), if_neg (by rw [h1]; decide)] at hact
      by_cases hv : 0 ≤ (s.tick c.time).first x ((c.events.head?).map (·.id) |>.getD 0)
      · rw [if_pos hv] at hact
        obtain ⟨rfl, rfl, rfl⟩ : _ ∧ _ ∧ _ := by simpa using hact
        obtain ⟨v, hvv⟩ : ∃ v, v = (s.tick c.time).first x ((c.events.head?).map (·.id) |>.getD 0) := ⟨_, rfl⟩
        rw [← hvv] at ha hv ⊢
        unfold MS.again at ha ⊢
        by_cases hc : fitsAgain c v = false ∨ (x.places.length : Int) - v < c.events.length
        · rw [if_pos hc] at ha
          simp [wrong] at ha
        · rw [if_neg hc] at ha ⊢
          by_cases hi : sameIds (s.tick c.time).all c.events (x.places.drop v.toNat) = true
          · rw [if_pos hi] at ha ⊢
            refine ⟨hv, by show v + _ ≤ _; omega, ?_, hi, rfl, ?_⟩
            · exact hvv.symm
            · show fitsAgain c v = true
              cases hf : fitsAgain c v
              · exact absurd (.inl hf) hc
              · rfl
          · rw [if_neg hi] at ha
            simp [wrong] at ha
      · rw [if_neg hv] at hact
        have hv1 : firstOf s.all (evId c) x.places 0 = -1 := by
          rcases firstOf_bd s.all (evId c) x.places 0 with q | q
          · exact q
          · exact absurd q.1 hv
        by_cases hex : expected c.expected x.places.length = true
        · rw [if_pos hex] at hact
          unfold MS.append at hact
          obtain ⟨rfl, rfl, rfl⟩ : _ ∧ _ ∧ _ := by simpa using hact
          dsimp only
          have hall : (s.tick c.time).all = s.all := rfl
          have hnow : (s.tick c.time).now = max s.now c.time := rfl
          rw [hall, hnow]
          have hnid : ∀ i (hi : i < c.events.length), idAt (s.all ++ storedOf c.stream (max s.now c.time) c.events x.places.length s.all.length) ((s.all.length : Int) + i) = c.events[i].id := fun i hi => by
            unfold idAt
            rw [show ((s.all.length : Int) + i).toNat = s.all.length + i by omega, List.getElem?_append_right (by omega), show s.all.length + i - s.all.length = i by omega, storedOf_get _ _ _ _ _ i hi]
            rfl
          refine ⟨by omega, by rw [List.length_append, rangeFrom_len]; omega, ?_, ?_, ?_, ?_⟩
          · rw [firstOf_miss _ _ _ _ _ (by omega) (by rw [firstOf_congr x.places 0 (fun p hp => idAt_app (hb p hp))]; exact hv1)]
            cases hce : c.events with
            | nil => rw [hce] at hl; simp at hl
            | cons e es =>
              have h00 := hnid 0 (by omega)
              have e0 : (c.events[0]'(by omega)) = e := by simp [hce]
              rw [e0] at h00
              have hlen : c.events.length = es.length + 1 := by rw [hce]; rfl
              have hev : evId c = e.id := by unfold evId; rw [hce]; rfl
              rw [← hce, hlen, hev]
              simp only [rangeFrom, firstOf]
              rw [if_pos (by simpa using h00)]
              omega
          · rw [Int.toNat_natCast, List.drop_append_of_le_length (Nat.le_refl _), List.drop_length, List.nil_append]
            have gen : ∀ (es : List EventR) (j : Nat), (∀ i (hi : i < es.length), idAt (s.all ++ storedOf c.stream (max s.now c.time) c.events x.places.length s.all.length) ((s.all.length : Int) + ((j + i : Nat) : Int)) = es[i].id) →
                sameIds (s.all ++ storedOf c.stream (max s.now c.time) c.events x.places.length s.all.length) es (rangeFrom es.length ((s.all.length : Int) + j)) = true := by
              intro es
              induction es with
              | nil => intro j _; rfl
              | cons e es ih =>
                intro j hj
                simp only [List.length_cons, rangeFrom, sameIds, Bool.and_eq_true, decide_eq_true_eq]
                refine ⟨by
                  have h := hj 0 (by simp)
                  simp only [Nat.add_zero, List.getElem_cons_zero] at h
                  exact h, ?_⟩
                have := ih (j + 1) (fun i hi => by
                  have := hj (i + 1) (by simpa using hi)
                  rw [show j + 1 + i = j + (i + 1) by omega]
                  simpa using this)
                rw [show (s.all.length : Int) + j + 1 = (s.all.length : Int) + ((j + 1 : Nat) : Int) by omega]
                exact this
            have := gen c.events 0 (fun i hi => by rw [Nat.zero_add]; exact hnid i hi)
            simpa using this
          · rw [show ((x.places.length : Int) + c.events.length - 1).toNat = x.places.length + (c.events.length - 1) by omega, List.getElem?_append_right (by omega), show x.places.length + (c.events.length - 1) - x.places.length = c.events.length - 1 by omega, rangeFrom_get _ _ _ (by omega)]
            simp
            omega
          · unfold expected at hex
            unfold fitsAgain
            split at hex
            · rename_i q; simp [q]
            · split at hex
              · rename_i q
                have hz := of_decide_eq_true hex
                rw [q, hz]
                decide
              · split at hex
                · rename_i q; simp [q]
                · have q : c.expected = x.places.length - 1 := of_decide_eq_true hex
                  rename_i n1 n2 n3
                  have hpos : 0 < (x.places.length : Int) := by omega
                  simp only [Bool.or_eq_true, Bool.and_eq_true, decide_eq_true_eq]
                  exact .inl (.inr ⟨q, hpos⟩)
        · rw [if_neg hex] at hact
          obtain ⟨rfl, _, _⟩ : _ ∧ _ ∧ _ := by simpa using hact
          simp [wrong] at ha
    generalize hr : (s.tick c.time).act c x = r at he ⊢
    obtain ⟨a, y, t⟩ := r
    obtain ⟨k1, k2, k3, k4, k5, k6⟩ := key a y t hr he
    have hfk : ((t.keep c.stream y).find c.stream).places = y.places := by
      unfold MS.keep
      rw [find_put, if_pos rfl]
    exact ⟨k1, by rw [hfk]; exact k2, by rw [hfk]; exact k3, by rw [hfk]; exact k4, by rw [hfk]; exact k5, k6⟩
end Go.Proofs.YtpcemipfanimgaaGreatDoor
/- Links, plain: a link's command done, the next one or an old one. No program is named here. -/
set_option linter.unusedVariables false
set_option linter.unusedSimpArgs false
namespace Go.Proofs.YtpcemipfanimgaaGreatDoor
open Go.RowKit
theorem link_check {t : ByteArray} {n : Int} {y : StoredR} (ht : nameOk t = true) (hn : 0 ≤ n ∧ n ≤ 1000000) (hp : 0 ≤ y.position) (hv : 0 ≤ y.version ∧ y.version ≤ 1000000) (hs : nameOk y.stream = true) : (linkCmd t n y).check = 0 := by
  have hd := linkData_size hv.1 (by omega) hs
  have he : (EventR.mk (y.position + 1) (ba linkT) (linkData y.version y.stream) 0).ok = true := by
    unfold EventR.ok
    dsimp only
    rw [decide_eq_true (by omega : 1 ≤ y.position + 1), decide_eq_true (by omega : (linkData y.version y.stream).size ≤ 200)]
    rfl
  have hev : eventsE (linkCmd t n y).events = 0 := by
    unfold eventsE linkCmd
    simp [he]
  have hex : expects (n - 1) = true := by
    unfold expects within
    by_cases q : n = 0
    · subst q; rfl
    · rw [decide_eq_true (by omega : 0 ≤ n - 1), decide_eq_true (by omega : n - 1 ≤ 1099511627776)]
      rfl
  unfold Cmd.check
  rw [if_neg (by simp [linkCmd, within]), if_neg (by simp [linkCmd, ht]), if_neg (by rw [hev]; simp), if_neg (by simp [linkCmd, hex]), if_neg (by simp [linkCmd])]
  simp [linkCmd, Cmd.spare, MetaR.zero]
theorem firstOf_at {all : List StoredR} {id : Int} : ∀ (ps : List Int) (k : Int) (j : Nat), (∀ i p, i < j → ps[i]? = some p → idAt all p ≠ id) → (∃ p, ps[j]? = some p ∧ idAt all p = id) → firstOf all id ps k = k + j
  | [], k, j, _, h => by obtain ⟨p, h, _⟩ := h; simp at h
  | q :: ps, k, 0, _, h => by
    obtain ⟨p, h1, h2⟩ := h
    simp at h1
    subst h1
    simp [firstOf, h2]
  | q :: ps, k, j + 1, h1, h2 => by
    have h0 := h1 0 q (by omega) rfl
    unfold firstOf
    rw [if_neg h0, firstOf_at ps (k + 1) j (fun i p hi hp => h1 (i + 1) p (by omega) (by simpa using hp)) (by simpa using h2)]
    omega
theorem firstOf_no {all : List StoredR} {id : Int} : ∀ (ps : List Int) (k : Int), (∀ p ∈ ps, idAt all p ≠ id) → firstOf all id ps k = -1
  | [], _, _ => rfl
  | q :: ps, k, h => by
    unfold firstOf
    rw [if_neg (h q (by simp)), firstOf_no ps (k + 1) (fun p hp => h p (by simp [hp]))]
theorem Lk.idat {s : MS} {t : ByteArray} {k : Nat} (h : Lk s t k) {i : Nat} {p : Int} (e : (s.find t).places[i]? = some p) : i < k ∧ ∃ y, (plainL t s.all)[i]? = some y ∧ idAt s.all p = y.position + 1 := by
  have hi : i < k := by rw [← h.places]; exact (List.getElem?_eq_some_iff.1 e).1
  obtain ⟨x, y, q1, q2, q3, q4, q5⟩ := h.lnk i hi
  refine ⟨hi, y, q2, ?_⟩
  obtain ⟨_, _, p', g1, g2, g3⟩ := h.si.at q1
  rw [e] at g1
  injection g1 with g1
  subst g1
  unfold idAt
  rw [Int.toNat_natCast, g2]
  exact q5
theorem plain_ne {s : MS} (h : s.Inv) {t : ByteArray} {i j : Nat} {x y : StoredR} (hx : (plainL t s.all)[i]? = some x) (hy : (plainL t s.all)[j]? = some y) (hij : i ≠ j) : x.position ≠ y.position := by
  have hr := plain_rising h t
  rw [List.pairwise_iff_getElem] at hr
  obtain ⟨h1, e1⟩ := List.getElem?_eq_some_iff.1 hx
  obtain ⟨h2, e2⟩ := List.getElem?_eq_some_iff.1 hy
  rw [← e1, ← e2]
  rcases Nat.lt_or_gt_of_ne hij with q | q
  · have := hr i j h1 h2 q
    omega
  · have := hr j i h2 h1 q
    omega
theorem Lk.chk {s : MS} {t : ByteArray} {k j : Nat} (h : Lk s t k) (hs : s.all.length ≤ 1000000) (hj : j ≤ k) {y : StoredR} (hy : (plainL t s.all)[j]? = some y) : (linkCmd t j y).check = 0 := by
  obtain ⟨hm, hw⟩ := plain_mem (List.mem_iff_getElem?.2 ⟨j, hy⟩)
  obtain ⟨v0, v1, _⟩ := h.si.nth hm
  have hpos : 0 ≤ y.position := by
    obtain ⟨i, hi, rfl⟩ := List.mem_iff_getElem.1 hm
    rw [h.si.inv.pos i hi]
    omega
  have hf := h.few
  have hl : (plainL t s.all).length ≤ s.all.length := List.length_filter_le _ _
  exact link_check (wantsL_sys hw).1 ⟨by omega, by omega⟩ hpos ⟨v0, by omega⟩ (h.si.nam y hm)
theorem Lk.same {s s' : MS} {t : ByteArray} {k : Nat} (h : Lk s t k) (hi : s'.SInv) (ha : s'.all = s.all) (hd : (s'.find t).deleted = false) : Lk s' t k := by
  refine ⟨hi, hd, by rw [ha]; exact h.few, ?_, fun i hk => ?_⟩
  · unfold streamE; rw [ha]; exact h.len
  · unfold streamE; rw [ha]; exact h.lnk i hk
/-- A link's command that is done already. -/
theorem Lk.again {s : MS} {t : ByteArray} {k j : Nat} (h : Lk s t k) (hs : s.all.length ≤ 1000000) (hj : j < k) {y : StoredR} (hy : (plainL t s.all)[j]? = some y) :
    ∃ pos, (s.do (linkCmd t j y)).1 = ⟨0, j, pos, true⟩ ∧ Lk (s.do (linkCmd t j y)).2 t k ∧ (s.do (linkCmd t j y)).2.all = s.all := by
  have hp := h.places
  have hid : ∃ p, (s.find t).places[j]? = some p ∧ idAt s.all p = y.position + 1 := by
    have hlt : j < (s.find t).places.length := by omega
    refine ⟨_, List.getElem?_eq_getElem hlt, ?_⟩
    obtain ⟨_, y', e1, e2⟩ := h.idat (List.getElem?_eq_getElem hlt)
    rw [hy] at e1
    injection e1 with e1
    rw [e2, e1]
  have hfirst : firstOf s.all (y.position + 1) (s.find t).places 0 = j := by
    have := firstOf_at (all := s.all) (id := y.position + 1) (s.find t).places 0 j (fun i p hi hp => ?_) hid
    · omega
    · obtain ⟨_, y', e1, e2⟩ := h.idat hp
      have := plain_ne h.si.inv e1 hy (by omega)
      omega
  have told : Told s (linkCmd t j y) j (((s.find t).places[(j + ((1 : Nat) : Int) - 1).toNat]?).getD 0) := by
    refine ⟨by omega, ?_, hfirst, ?_, rfl, ?_⟩
    · show (j : Int) + ((1 : Nat) : Int) ≤ ((s.find t).places.length : Int)
      omega
    · obtain ⟨p, e1, e2⟩ := hid
      obtain ⟨hlt, e3⟩ := List.getElem?_eq_some_iff.1 e1
      rw [Int.toNat_natCast]
      show sameIds s.all [_] ((s.find t).places.drop j) = true
      rw [List.drop_eq_getElem_cons hlt, e3]
      simp [sameIds, e2]
    · unfold fitsAgain linkCmd
      simp only []
      by_cases q : j = 0
      · subst q; rfl
      · rw [decide_eq_true (by omega : (0 : Int) < j)]
        simp
  obtain ⟨g1, g2, g3, g4⟩ := told_again told (h.chk hs (by omega) hy) rfl
  exact ⟨_, g2 h.live, h.same (sinv_do h.si _) g3 (g4.trans h.live), g3⟩
/-- The next link's command. -/
theorem Lk.next {s : MS} {t : ByteArray} {k : Nat} (h : Lk s t k) (hs : s.all.length ≤ 1000000) {y : StoredR} (hy : (plainL t s.all)[k]? = some y) :
    (s.do (linkCmd t k y)).1 = ⟨0, k, s.all.length, false⟩ ∧ Lk (s.do (linkCmd t k y)).2 t (k + 1) ∧ ∃ x, (s.do (linkCmd t k y)).2.all = s.all ++ [x] ∧ x.stream = t := by
  have hck := h.chk hs (Nat.le_refl _) hy
  have hp := h.places
  have hfirst : firstOf s.all (y.position + 1) (s.find t).places 0 = -1 := by
    refine firstOf_no _ _ fun p hpm => ?_
    obtain ⟨i, hi⟩ := List.mem_iff_getElem?.1 hpm
    obtain ⟨q, y', e1, e2⟩ := h.idat hi
    have := plain_ne h.si.inv e1 hy (by omega)
    omega
  have hexp : expected ((k : Int) - 1) (s.find t).places.length = true := by
    rw [hp]
    unfold expected
    by_cases q : k = 0
    · subst q; rfl
    · rw [if_neg (by omega), if_neg (by omega), if_neg (by omega)]
      simp
  have hact : ∀ x : StreamR, x.places = (s.find t).places → (s.tick 0).act (linkCmd t k y) x = (s.tick 0).append (linkCmd t k y) x := fun x hx => by
    unfold MS.act
    dsimp only
    rw [if_neg (by simp [linkCmd]), if_neg (by simp [linkCmd])]
    have e1 : (s.tick 0).first x (((linkCmd t k y).events.head?).map (·.id) |>.getD 0) = -1 := by
      unfold MS.first
      rw [hx]
      exact hfirst
    rw [e1, if_neg (by omega), hx]
    show (if expected ((k : Int) - 1) _ = true then _ else _) = _
    rw [if_pos hexp]
  have hdo : s.do (linkCmd t k y) = (((s.tick 0).append (linkCmd t k y) ⟨(s.find t).places, (s.find t).mt, (s.tick 0).floorOf (s.find t), false⟩).1, ((s.tick 0).append (linkCmd t k y) ⟨(s.find t).places, (s.find t).mt, (s.tick 0).floorOf (s.find t), false⟩).2.2.keep t ((s.tick 0).append (linkCmd t k y) ⟨(s.find t).places, (s.find t).mt, (s.tick 0).floorOf (s.find t), false⟩).2.1) := by
    unfold MS.do
    rw [if_neg (by rw [hck]; decide)]
    dsimp only
    rw [if_neg (by simp [linkCmd])]
    have hfx : (s.tick (linkCmd t k y).time).find (linkCmd t k y).stream = s.find t := rfl
    rw [hfx, h.live]
    simp only [Bool.false_eq_true, if_false]
    have := hact ⟨(s.find t).places, (s.find t).mt, (s.tick 0).floorOf (s.find t), false⟩ rfl
    have ht : (linkCmd t k y).time = 0 := rfl
    have hst : (linkCmd t k y).stream = t := rfl
    rw [ht, hst, this]
  have hsi := sinv_do h.si (linkCmd t k y)
  obtain ⟨x, hx⟩ : ∃ x : StoredR, x = ⟨(EventR.mk (y.position + 1) (ba linkT) (linkData y.version y.stream) 0).canon, t, k, s.all.length, (s.tick 0).now⟩ := ⟨_, rfl⟩
  have ha : (s.do (linkCmd t k y)).2.all = s.all ++ [x] := by
    rw [hdo]
    show s.all ++ storedOf t (s.tick 0).now [_] (s.find t).places.length s.all.length = _
    rw [hp, hx]
    rfl
  have hxs : x.stream = t := by rw [hx]
  have hstr : streamE (s.do (linkCmd t k y)).2 t = streamE s t ++ [x] := by
    rw [streamE_app ha (m := t) (by simpa using hxs), if_pos rfl]
  have hpl := plain_app t ha
  have hk : k < (plainL t s.all).length := (List.getElem?_eq_some_iff.1 hy).1
  refine ⟨?_, ⟨hsi, ?_, ?_, by rw [hstr, List.length_append, h.len]; rfl, fun i hi => ?_⟩, x, ha, hxs⟩
  · rw [hdo]
    show (⟨0, ((s.find t).places.length : Int), (s.all.length : Int) + ((1 : Nat) : Int) - 1, false⟩ : Ans) = _
    rw [hp]
    congr 1
    omega
  · rw [hdo]
    show ((MS.keep _ t _).find t).deleted = false
    unfold MS.keep
    rw [find_put, if_pos rfl]
    rfl
  · rw [hpl, List.length_append]
    omega
  · rw [hstr, hpl]
    by_cases q : i < k
    · obtain ⟨x', y', q1, q2, q3⟩ := h.lnk i q
      exact ⟨x', y', by rw [List.getElem?_append_left (by have := h.len; omega)]; exact q1, by rw [List.getElem?_append_left (by omega)]; exact q2, q3⟩
    · have : i = k := by omega
      subst this
      refine ⟨x, y, ?_, by rw [List.getElem?_append_left hk]; exact hy, ?_⟩
      · rw [List.getElem?_append_right (by have := h.len; omega), h.len]
        simp
      · rw [hx]
        exact ⟨rfl, rfl, rfl⟩
end Go.Proofs.YtpcemipfanimgaaGreatDoor
/- Contracts: Every, SameStored. -/
set_option linter.unusedVariables false
set_option linter.unusedSimpArgs false
namespace Go.Proofs.YtpcemipfanimgaaGreatDoor
open Go.RowKit
set_option maxRecDepth 100000 in
theorem cloneS_any {w : World} {pv : Value} {l : List StoredR} (h : Slc w 8 pv l.length (l.flatMap StoredR.cells)) (hb : l.length ≤ 1000000000) :
    Calls Tryz.prog 60 #[pv] w fun e w' => ∃ v', e = .returned v' ∧ w'.ownsRow w.heap.size 26 8 v' l.length (l.flatMap StoredR.cells) ∧ Only [] w w' := by
  obtain ⟨j0, hj, hy0, hy1, hy2⟩ := info_parts infoSt
  obtain ⟨A, cap, rfl, hnc, hcm, hl, hc⟩ := h.cell
  have hq := fun W a n c n' c' => Lib.run_eql_slice_nil (P := Tryz.prog) W 28 _ a n c n' c' Tryz.underlying28
  cases A with
  | none =>
    have h0 : l = [] := by
      rcases hc with q | ⟨b, off, q, _⟩
      · exact List.length_eq_zero_iff.1 q
      · cases q
    subst h0
    go_enter Tryz.func60, Tryz.ntmps60
    go_wp2
    go_ret
    exact ⟨_, rfl, World.ownsRow_nil _ _ _ _, Only.refl _ _⟩
  | some ad =>
    obtain ⟨b, off, sp⟩ := ad
    have hcell : ∀ j u, (l.flatMap StoredR.cells)[j]? = some u → (w.alloc (.cells #[] 26)).cell? ((⟨b, off, sp⟩ : Addr).add j) = some u := by
      intro j u hu
      have hj : j < (l.flatMap StoredR.cells).length := (List.getElem?_eq_some_iff.1 hu).1
      rcases hc with q | ⟨b', off', q, hb', hcc⟩
      · rw [hl] at hj; omega
      · cases q
        have := hcc j hj
        rw [hu] at this
        rw [show ((⟨b, off, none⟩ : Addr).add j) = ⟨b, off + j, none⟩ by simp [Addr.add]]
        exact (World.cell?_alloc_lt w _ ⟨b, off + j, none⟩ hb').trans this
    have hone : ∀ u ∈ l.flatMap StoredR.cells, u.oneCell' = true := by
      intro u hu
      obtain ⟨x, _, hx⟩ := List.mem_flatMap.1 hu
      simp [StoredR.cells, EventR.cells] at hx
      rcases hx with rfl | rfl | rfl | rfl | rfl | rfl | rfl | rfl <;> rfl
    unfold maxLen at hcm
    obtain ⟨cs, hcs⟩ : ∃ cs, cs = l.flatMap StoredR.cells := ⟨_, rfl⟩
    rw [← hcs] at hcell hone hl ⊢
    clear hc hcs
    go_enter Tryz.func60, Tryz.ntmps60
    go_wp2_with (at_builtin; refine wpList_append_own _ rfl (.tmp 5) (.tmp 6) 28 rfl w.heap.size 26 j0 (.agg #[.int .i64 0, .string ⟨#[]⟩, .string ⟨#[]⟩, .float .f64 0, .string ⟨#[]⟩, .int .i64 0, .int .i64 0, .int .i64 0]) 8 88 Tryz.underlying28 hj hy0 hy1 hy2 rfl (by decide) _ 0 [] rfl (World.ownsRow_made w #[] 0 (Nat.le_refl _) (Nat.zero_le _) rfl) ⟨b, off, sp⟩ l.length cap cs rfl hl hcell ?c2 ?c3 ?c4 ?c5 ?_)
    case c2 => exact hone
    case c3 => unfold maxLen; omega
    case c4 => omega
    case c5 => simp
    intro v' w4 hown' hgrow _
    have hown2 : w4.ownsRow w.heap.size 26 8 v' l.length cs := by simpa using hown'
    have ho4 : Only [] w w4 := ((Only.refl [] w).alloc _).grown hgrow (fun k hk => .inr (by cases hk; exact Nat.le_refl _))
    clear hgrow
    go_wp2
    go_ret
    exact ⟨_, rfl, hown2, ho4⟩
section
variable {a w : World} {R E : List Nat} {sb mb N : Nat} {s : MS}
set_option maxRecDepth 100000 in
theorem everyS_any {M : List Nat} {av : Value} {pf : ByteArray → Value} (h : StAt w M sb mb av pf s) (hs : s.all.length ≤ 1000000) :
    Calls Tryz.prog 22 #[.pointer (some ⟨sb, 0, none⟩)] w fun e w' => ∃ v', e = .returned v' ∧ w'.ownsRow w.heap.size 26 8 v' s.all.length (s.all.flatMap StoredR.cells) ∧ Only [] w w' := by
  have hsl := (Slc.of_own h.own).1
  obtain ⟨A2, cap2, rfl, hnc2, hcm2, hel2⟩ := h.cell
  have c0 : w.cell? ⟨sb, 0, none⟩ = some (.slice A2 s.all.length cap2) := h.blk.cell 0
  have HC := Lib.hid (cloneS_any hsl (by omega))
  clear hel2 hsl
  go_enter Tryz.func22, Tryz.ntmps22
  go_wp2_with (go_at_call 60; refine HC.out.mono ?_; rintro e w1 ⟨v1, rfl, hown1, ho1⟩)
  go_ret
  exact ⟨_, rfl, hown1, ho1⟩
theorem has_every (h : HasS a w R E sb mb s N) (hN : N ≤ 100000) :
    Calls Tryz.prog 22 #[.pointer (some ⟨sb, 0, none⟩)] w fun e w' => ∃ v', e = .returned v' ∧ w'.ownsRow w.heap.size 26 8 v' s.all.length (s.all.flatMap StoredR.cells) ∧ Only [] w w' := by
  obtain ⟨M, av, pf, h1, _⟩ := h.st
  exact everyS_any h1 (by have := h.ok.all; omega)
end
/-! ## SameStored -/
def bitsOf (b : Nat) : Nat := if isNaN b then 9221120237041090560 else b
def sameF (a b : Nat) : Bool := decide (bitsOf a = bitsOf b)
def sameE (x y : EventR) : Bool := decide (x.id = y.id) && decide (x.type.toList = y.type.toList) && decide (x.data.toList = y.data.toList) && sameF x.value y.value
def sameS (x y : StoredR) : Bool := sameE x.ev y.ev && decide (x.stream.toList = y.stream.toList) && decide (x.version = y.version) && decide (x.position = y.position) && decide (x.time = y.time)
def sameL : List StoredR → List StoredR → Bool
  | [], [] => true
  | x :: l, y :: m => sameS x y && sameL l m
  | _, _ => false
theorem sameS_refl (x : StoredR) : sameS x x = true := by simp [sameS, sameE, sameF]
theorem sameL_refl : ∀ l : List StoredR, sameL l l = true
  | [] => rfl
  | x :: l => by simp [sameL, sameS_refl, sameL_refl l]
end Go.Proofs.YtpcemipfanimgaaGreatDoor
/- Contracts: a stream's events, what a link leads to. -/
set_option linter.unusedVariables false
set_option linter.unusedSimpArgs false
namespace Go.Proofs.YtpcemipfanimgaaGreatDoor
open Go Go.RowKit Go.Sort Go.Lib Go.Shelf
set_option maxRecDepth 100000 in
theorem kstream1_any {W : World} {hb : Nat} {n : ByteArray} (hB : Blk W hb 9 #[.string n]) (x : StoredR) :
    Calls Tryz.prog 109 #[.agg #[.int .i64 x.ev.id, .string x.ev.type, .string x.ev.data, .float .f64 x.ev.value, .string x.stream, .int .i64 x.version, .int .i64 x.position, .int .i64 x.time], .pointer (some ⟨hb, 0, none⟩)] W
      fun e w' => e = .returned (.bool (!decide (x.stream = n))) ∧ Only [] W w' := by
  have hz := toList_dec x.stream n
  have k0 := fun o => (((Only.refl [] W).alloc o).blk hB (by simp)).cell 0
  have hsf := stF
  clear hB
  obtain ⟨b, hb⟩ : ∃ b, b = decide (x.stream = n) := ⟨_, rfl⟩
  rw [← hb] at hz ⊢
  clear hb
  go_enter Tryz.func109, Tryz.ntmps109
  go_wp2
  go_ret
  exact ⟨rfl, (Only.refl [] W).alloc _⟩
section
variable {a w : World} {R E : List Nat} {sb mb N : Nat} {s : MS}
theorem filter_stream (s : MS) (n : ByteArray) : s.all.filter (fun x => !(!decide (x.stream = n))) = streamE s n := by
  unfold streamE
  congr 1
  funext x
  simp
set_option maxRecDepth 100000 in
set_option maxHeartbeats 1000000 in
theorem stream_any2 (h : HasS a w R E sb mb s N) (hN : N ≤ 100000) (n : ByteArray) :
    Calls Tryz.prog 58 #[.pointer (some ⟨sb, 0, none⟩), .string n] w fun e w' => ∃ v, e = .returned v ∧ w'.ownsRow w.heap.size 26 8 v (streamE s n).length ((streamE s n).flatMap StoredR.cells) ∧ Only [] w w' := by
  have hlen : s.all.length ≤ 1000000 := by have := h.ok.all; omega
  have h0 := h.keep ((Only.refl [] w).alloc (.cells #[.string n] 9))
  have HE := Lib.hid (has_every h0 hN)
  have hB := Blk.new w 9 #[.string n]
  go_enter Tryz.func58, Tryz.ntmps58
  go_wp2_with fail
  refine HE.out.mono ?_
  rintro e w1 ⟨v1, rfl, hown1, ho1⟩
  have hlt1 := hown1.lt
  have n1 : w.heap.size ∉ v1.ownBlock.toList := fun q => by have := (hlt1 _ (by simpa using q)).1; simp at this; omega
  have hB1 := ho1.blk hB (by simp)
  have hJ : JudgesK s.all v1.ownBlock.toList w1 (.pointer (some ⟨w.heap.size, 0, none⟩)) (fun x => !decide (x.stream = n)) := fun W hW x _ => kstream1_any (hW.blk hB1 n1) x
  have hD := deleteSt_anyK hown1 hlen hJ
  rw [filter_stream] at hD
  have HD := Lib.hid hD
  clear hD hJ hB1 hB HE h0
  go_wp2_with (go_at_call 103; refine HD.out.mono ?_; rintro e w2 ⟨v2, rfl, hown2, ho2⟩)
  go_ret
  exact ⟨_, rfl, own_base hown2 (by simp), (((Only.refl [] w).alloc _).trans ho1).step ho2 (fun g hg => .inr (by have := (hlt1 g (by simpa using hg)).1; simp at this; omega))⟩
def leadsRet (s : MS) (x : StoredR) : Int × Bool := match leadsTo s x with
  | some p => (p, true)
  | none => (0, false)
theorem unlinkB_nn {s : ByteArray} {v : Int} {n : ByteArray} (h : unlinkB s = some (v, n)) : 0 ≤ v := by
  unfold unlinkB at h
  split at h
  · split at h
    · split at h
      · rename_i q
        injection h with h
        injection h with h1 h2
        rw [← h1]
        exact q.1
      · cases h
    · cases h
  · cases h
set_option maxRecDepth 100000 in
set_option maxHeartbeats 2000000 in
theorem leads_any (h : HasS a w R E sb mb s N) (hN : N ≤ 100000) (x : StoredR) (hx : x.ev.data.size ≤ 1000000) :
    Calls Tryz.prog 59 #[.pointer (some ⟨sb, 0, none⟩), x.val] w fun e w' => e = .returned (.tuple #[.int .i64 (leadsRet s x).1, .bool (leadsRet s x).2]) ∧ Only [] w w' := by
  have hlen : s.all.length ≤ 1000000 := by have := h.ok.all; omega
  have hsf := stF
  have HU := Lib.hid (fun W => unlink_any x.ev.data W hx)
  have HS := Lib.hid (fun (W : World) (n : ByteArray) (hW : Only [] w W) => stream_any2 (h.keep hW) hN n)
  obtain ⟨r, hr⟩ : ∃ r, r = leadsRet s x := ⟨_, rfl⟩
  rw [← hr]
  have hnn := @unlinkB_nn x.ev.data
  unfold leadsRet leadsTo at hr
  unfold unlinkRet at HU
  have hz := toList_lit x.ev.type linkT
  unfold linkT at hz
  unfold StoredR.val
  obtain ⟨u, hu⟩ : ∃ u, u = unlinkB x.ev.data := ⟨_, rfl⟩
  rw [← hu] at HU hr hnn
  clear hu h
  by_cases hl : x.ev.type.data.toList = linkT
  · have hz' : (x.ev.type.toList == [36, 62]) = true := by rw [hz]; exact decide_eq_true hl
    rw [if_pos hl] at hr
    clear hz hl
    cases u with
    | none =>
      simp only [] at hr HU
      subst hr
      go_enter Tryz.func59, Tryz.ntmps59
      go_wp2_with (first
        | (go_at_call 110; refine (HU.out _).mono ?_; rintro e w1 ⟨rfl, ho1⟩; have c1 := fun i => (ho1.blk (Blk.new w 26 _) (by simp)).cell i)
        | (go_at_call 58; refine (HS.out _ _ (((Only.refl [] w).alloc _).trans ho1)).mono ?_; rintro e w2 ⟨v2, rfl, hown2, ho2⟩))
      go_ret2
      exact ⟨rfl, ((Only.refl [] w).alloc _).trans ho1⟩
    | some vn =>
      obtain ⟨v, n⟩ := vn
      simp only [] at hr HU
      obtain ⟨k, rfl⟩ : ∃ k : Nat, v = k := ⟨v.toNat, by have := hnn rfl; omega⟩
      rw [Int.toNat_natCast] at hr
      clear hnn
      have hsl : (streamE s n).length ≤ 1000000 := Nat.le_trans (List.length_filter_le _ _) hlen
      have HS2 := Lib.hid (fun (W : World) (hW : Only [] w W) => (HS.out W n hW).mono fun e w' (q : ∃ v, e = .returned v ∧ w'.ownsRow W.heap.size 26 8 v (streamE s n).length ((streamE s n).flatMap StoredR.cells) ∧ Only [] W w') => (show ∃ A cap, e = .returned (.slice A (streamE s n).length cap) ∧ (streamE s n).length ≤ cap ∧ cap ≤ maxLen ∧ (∀ (hk : k < (streamE s n).length), ∃ b off, A = some ⟨b, off, none⟩ ∧ w'.cell? ⟨b, off + k * 8 + 6, none⟩ = some (.int .i64 (streamE s n)[k].position)) ∧ Only [] W w' from by
        obtain ⟨v, rfl, hown, ho⟩ := q
        obtain ⟨A, cap, rfl, h1, h2, h3⟩ := (Slc.of_own hown).1.openE StoredR.cells (fun _ => rfl)
        refine ⟨A, cap, rfl, h1, h2, fun hk => ?_, ho⟩
        obtain ⟨b, off, e1, e2, e3⟩ := h3 k hk
        exact ⟨b, off, e1, e3 6 (by omega)⟩))
      clear HS
      by_cases hk : k < (streamE s n).length
      · rw [List.getElem?_eq_getElem hk] at hr
        simp only [Option.map_some] at hr
        obtain ⟨p, hp⟩ : ∃ p, p = (streamE s n)[k].position := ⟨_, rfl⟩
        rw [← hp] at hr
        have HP := Lib.hid hp
        subst hr
        clear hp
        go_enter Tryz.func59, Tryz.ntmps59
        go_wp2_with (first
          | (go_at_call 110; refine (HU.out _).mono ?_; rintro e w1 ⟨rfl, ho1⟩; have c1 := fun i => (ho1.blk (Blk.new w 26 _) (by simp)).cell i)
          | (go_at_call 58; refine (HS2.out _ (((Only.refl [] w).alloc _).trans ho1)).mono ?_; rintro e w2 ⟨A2, cap2, rfl, hnc, hcm, hcc, ho2⟩
             unfold maxLen at hcm
             obtain ⟨b, off, rfl, hc6⟩ := hcc hk
             rw [← HP.out] at hc6
             clear hcc))
        go_ret2
        exact ⟨rfl, (((Only.refl [] w).alloc _).trans ho1).trans ho2⟩
      · rw [List.getElem?_eq_none (by omega)] at hr
        simp only [Option.map_none] at hr
        subst hr
        go_enter Tryz.func59, Tryz.ntmps59
        go_wp2_with (first
          | (go_at_call 110; refine (HU.out _).mono ?_; rintro e w1 ⟨rfl, ho1⟩; have c1 := fun i => (ho1.blk (Blk.new w 26 _) (by simp)).cell i)
          | (go_at_call 58; refine (HS2.out _ (((Only.refl [] w).alloc _).trans ho1)).mono ?_; rintro e w2 ⟨A2, cap2, rfl, hnc, hcm, hcc, ho2⟩
             unfold maxLen at hcm
             clear hcc))
        go_ret2
        exact ⟨rfl, (((Only.refl [] w).alloc _).trans ho1).trans ho2⟩
  · have hz' : (x.ev.type.toList == [36, 62]) = false := by rw [hz]; exact decide_eq_false hl
    rw [if_neg hl] at hr
    simp only [] at hr
    subst hr
    clear hz hl hnn
    cases u with
    | none =>
      simp only [] at HU
      go_enter Tryz.func59, Tryz.ntmps59
      go_wp2_with (first
        | (go_at_call 110; refine (HU.out _).mono ?_; rintro e w1 ⟨rfl, ho1⟩; have c1 := fun i => (ho1.blk (Blk.new w 26 _) (by simp)).cell i)
        | (go_at_call 58; refine (HS.out _ _ (((Only.refl [] w).alloc _).trans ho1)).mono ?_; rintro e w2 ⟨v2, rfl, hown2, ho2⟩))
      go_ret2
      exact ⟨rfl, ((Only.refl [] w).alloc _).trans ho1⟩
    | some vn =>
      obtain ⟨v, n⟩ := vn
      simp only [] at HU
      go_enter Tryz.func59, Tryz.ntmps59
      go_wp2_with (first
        | (go_at_call 110; refine (HU.out _).mono ?_; rintro e w1 ⟨rfl, ho1⟩; have c1 := fun i => (ho1.blk (Blk.new w 26 _) (by simp)).cell i)
        | (go_at_call 58; refine (HS.out _ _ (((Only.refl [] w).alloc _).trans ho1)).mono ?_; rintro e w2 ⟨v2, rfl, hown2, ho2⟩))
      go_ret2
      exact ⟨rfl, ((Only.refl [] w).alloc _).trans ho1⟩
end
end Go.Proofs.YtpcemipfanimgaaGreatDoor
/- Contracts: the position behind the last event that a target has a link to. -/
set_option linter.unusedVariables false
set_option linter.unusedSimpArgs false
namespace Go.Proofs.YtpcemipfanimgaaGreatDoor
open Go Go.RowKit Go.Shelf Go.Proofs
attribute [local go_sem] Oper.semAt_some
theorem keepsO {B : Nat} {W W' : World} (k : Only [] W W') : KeepsFrom B W W' := ⟨k.size, fun i o _ hi _ => (k.block i (Array.getElem?_eq_some_iff.1 hi).1 (by simp)).trans hi⟩
theorem blk_kept {W W' : World} {row : Option Nat} {g : Nat} {t : TypeId} {cs : Array Value} (h : Blk W g t cs) (hg : W.grownBy W' row) (hrow : ∀ r, row = some r → ∃ o : Obj, W.heap[r]? = some o ∧ o.isCells = false) : Blk W' g t cs :=
  (hg.block g h.lt (fun e => by obtain ⟨o, ho, hc⟩ := hrow g e.symm; rw [show W.heap[g]? = _ from h] at ho; cases ho; cases hc)).trans h
theorem reachedIn_none (s : MS) : ∀ (l : List StoredR), (∀ x ∈ l, leadsTo s x = none) → reachedIn s l = 0
  | [], _ => rfl
  | x :: l, h => by
    unfold reachedIn
    rw [h x (by simp)]
    exact reachedIn_none s l (fun y hy => h y (by simp [hy]))
theorem reachedIn_some (s : MS) (y : StoredR) (p : Int) (hy : leadsTo s y = some p) (rest : List StoredR) : ∀ (l : List StoredR), (∀ x ∈ l, leadsTo s x = none) → reachedIn s (l ++ y :: rest) = p + 1
  | [], _ => by simp [reachedIn, hy]
  | x :: l, h => by
    rw [List.cons_append]
    unfold reachedIn
    rw [h x (by simp)]
    exact reachedIn_some s y p hy rest l (fun z hz => h z (by simp [hz]))
theorem own_blkF {β : Type} (g : Nat) (t : TypeId) (cs : Array Value) (B : Nat) : OwnFrom B (fun (_ : β) W => Blk W g t cs) := Own.from (fun s A C row hs hg hr => blk_kept hs hg hr) B
section
variable {a w : World} {R E : List Nat} {sb mb N : Nat} {s : MS}
set_option maxRecDepth 100000 in
set_option maxHeartbeats 4000000 in
theorem reached_any (h : HasS a w R E sb mb s N) (hN : N ≤ 100000) (t : ByteArray) (hd : ∀ x ∈ s.all, x.ev.data.size ≤ 1000000) :
    Calls Tryz.prog 21 #[.pointer (some ⟨sb, 0, none⟩), .string t] w fun e w' => e = .returned (.int .i64 (s.reached t)) ∧ Only [] w w' := by
  have hlen : s.all.length ≤ 1000000 := by have := h.ok.all; omega
  have hsl : (streamE s t).length ≤ 1000000 := Nat.le_trans (List.length_filter_le _ _) hlen
  refine (callsIn_wide (n := 3)).1 ?_
  refine callsIn_of_wp_marks Tryz.func21 rfl trivial ?_ rfl
  simp only [Tryz.ntmps21, List.size_toArray, List.length_cons, List.length_nil, Nat.reduceAdd, Nat.reduceSub, Array.replicate_succ, Array.replicate_zero, List.push_toArray, List.append_toArray, List.nil_append, List.cons_append]
  have hb0 := Blk.new w 34 #[.pointer (some ⟨sb, 0, none⟩)]
  have hO0 : Only [] w ((w.alloc (.cells #[.pointer (some ⟨sb, 0, none⟩)] 34)).alloc (.cells #[.int .i64 0] 3)) := ((Only.refl [] w).alloc _).alloc _
  have HS := Lib.hid (stream_any2 (h.keep hO0) hN t)
  have hc0 := ((Only.refl [] (w.alloc (.cells #[.pointer (some ⟨sb, 0, none⟩)] 34))).alloc (.cells #[.int .i64 0] 3)).blk hb0 (by simp)
  have hc1 := Blk.new (w.alloc (.cells #[.pointer (some ⟨sb, 0, none⟩)] 34)) 3 #[.int .i64 0]
  rw [World.size_alloc] at hc1
  have c0 := hc0.cell 0
  gi_wp2_with (first
    | (refine ⟨trivial, ?_⟩; gi_at_call 58; refine (callsIn_wide.2 HS.out).mono ?_; rintro e w1 ⟨v1, rfl, hown1, ho1⟩; obtain ⟨A1, cap1, rfl, hnc1, hcm1⟩ := own_form hown1)
    | (refine ⟨trivial, ?_⟩; gi_at_call 57; refine (back_in Fence.wide _ trivial rfl _ _ _ _).mono ?_; rintro e w2 ⟨rfl, rfl⟩))
  have hO1 : Only [] w w1 := hO0.trans ho1
  obtain ⟨W2, hW2⟩ : ∃ W2, W2 = w1.alloc (.cells #[.slice A1 (streamE s t).length cap1] 28) := ⟨_, rfl⟩
  have hO2 : Only [] w W2 := by rw [hW2]; exact hO1.alloc _
  have hz2 : W2.heap.size = w1.heap.size + 1 := by rw [hW2]; simp
  have hz1 : w.heap.size + 2 ≤ w1.heap.size := by have := ho1.size; simp at this; omega
  have hbx : W2.cell? ⟨w1.heap.size, 0, none⟩ = some (.slice A1 (streamE s t).length cap1) := by rw [hW2]; exact (Blk.new w1 _ _).cell 0
  have hsl2 : Slc W2 8 (.slice A1 (streamE s t).length cap1) (streamE s t).length ((streamE s t).flatMap StoredR.cells) := by rw [hW2]; exact (Slc.of_own hown1).1.only0 ((Only.refl [] w1).alloc _)
  have hvl : ∀ g, (Value.slice A1 (streamE s t).length cap1).ownBlock = some g → g < W2.heap.size ∨ (streamE s t).length = 0 := fun g hg => .inl (by have := (hown1.lt g hg).2; omega)
  have hd0 : Blk W2 w.heap.size 34 #[.pointer (some ⟨sb, 0, none⟩)] := by rw [hW2]; exact ((Only.refl [] w1).alloc _).blk (ho1.blk hc0 (by simp)) (by simp)
  have hd1 : Blk W2 (w.heap.size + 1) 3 #[.int .i64 0] := by rw [hW2]; exact ((Only.refl [] w1).alloc _).blk (ho1.blk hc1 (by simp)) (by simp)
  rw [← hW2]
  have HL := Lib.hid (fun (W : World) (hW : Only [] w W) (x : StoredR) (hx : x ∈ streamE s t) => leads_any (h.keep hW) hN x (hd x (List.mem_filter.1 hx).1))
  have hpos : ∀ x p, leadsTo s x = some p → 0 ≤ p ∧ p ≤ 1000000 := fun x p hx => by
    unfold leadsTo at hx
    split at hx
    · split at hx
      · obtain ⟨e, he, rfl⟩ := Option.map_eq_some_iff.1 hx
        have he2 := (List.mem_filter.1 (List.mem_iff_getElem?.2 ⟨_, he⟩)).1
        obtain ⟨i, hi, rfl⟩ := List.mem_iff_getElem.1 he2
        rw [h.inv.pos i hi]
        omega
      · cases hx
    · cases hx
  clear hW2 hc0 hc1 c0 HS hown1 hb0 h hd
  refine wpIn_rangeFunc_ownH rfl (by omega) (gf := 108) (lb := #[.pointer (some ⟨w1.heap.size, 0, none⟩)]) rfl trivial (enters_of Tryz.func108 (by kernel_rfl) rfl)
    (bk_stops Fence.wide _ trivial rfl (by omega) w1.heap.size W2.heap.size A1 cap1 (streamE s t) hsl W2 (by omega) (Nat.le_refl _) hbx hsl2 hvl) belowK_t (belowK_b (Nat.le_refl _)) (Below.refl _ _) (fun _ => rfl)
    (fun pre W => ((∀ e ∈ pre, leadsTo s e.x = none) ∧ Blk W w.heap.size 34 #[.pointer (some ⟨sb, 0, none⟩)] ∧ Blk W (w.heap.size + 1) 3 #[.int .i64 0]) ∧ Below w.heap.size w W ∧ Below W2.heap.size W2 W)
    (fun c pre W => (c = .ret ∧ ∃ ini last p, pre = ini ++ [last] ∧ (∀ e ∈ ini, leadsTo s e.x = none) ∧ leadsTo s last.x = some p ∧ Blk W (w.heap.size + 1) 3 #[.int .i64 (p + 1)]) ∧ Below w.heap.size w W)
    (OwnFrom.and (Own.from (fun s A C row hs hg hr => ⟨hs.1, blk_kept hs.2.1 hg hr, blk_kept hs.2.2 hg hr⟩) _) (OwnFrom.and (ownFrom_below (Nat.le_refl _) (by omega)) (ownFrom_below (Nat.le_refl _) (Nat.le_refl _))))
    (fun c => OwnFrom.and (Own.from (fun s A C row hs hg hr => by obtain ⟨hc, ini, last, p, e1, e2, e3, e4⟩ := hs; exact ⟨hc, ini, last, p, e1, e2, e3, blk_kept e4 hg hr⟩) _) (ownFrom_below (Nat.le_refl _) (by omega)))
    ⟨⟨by simp, hd0, hd1⟩, hO2.toBelow, Below.refl _ _⟩
    (fun x a' W => ∃ Bx, w.heap.size + 1 < Bx ∧ Blk W Bx 26 #[.int .i64 x.x.ev.id, .string x.x.ev.type, .string x.x.ev.data, .float .f64 x.x.ev.value, .string x.x.stream, .int .i64 x.x.version, .int .i64 x.x.position, .int .i64 x.x.time] ∧ a' = { tmps := #[.pointer (some ⟨sb, 0, none⟩), .string t, .pointer (some ⟨w.heap.size, 0, none⟩), undef, .pointer (some ⟨w.heap.size + 1, 0, none⟩), undef, .pointer (some ⟨Bx, 0, none⟩), undef, undef, .pointer (some ⟨sb, 0, none⟩), .string t, .slice A1 (streamE s t).length cap1, .func (.func 108) #[] #[.pointer (some ⟨w1.heap.size, 0, none⟩)], .int .i64 x.i, .agg #[.int .i64 x.x.ev.id, .string x.x.ev.type, .string x.x.ev.data, .float .f64 x.x.ev.value, .string x.x.stream, .int .i64 x.x.version, .int .i64 x.x.position, .int .i64 x.x.time], undef, undef, undef, undef, undef, undef, undef, undef, undef], defers := [] })
    (fun x a' => Own.from (fun s A C row hs hg hr => by obtain ⟨Bx, e1, e2, e3⟩ := hs; exact ⟨Bx, e1, blk_kept e2 hg hr, e3⟩) _) ?assign ?body ?done ?stop
  case assign =>
    rintro l pre x W K ⟨⟨hp, hq0, hq1⟩, hB, hB2⟩ hK
    have hsf := stF
    unfold bkV
    gi_wp2
    have hk := (Only.refl [] W).alloc (.cells #[.int .i64 x.x.ev.id, .string x.x.ev.type, .string x.x.ev.data, .float .f64 x.x.ev.value, .string x.x.stream, .int .i64 x.x.version, .int .i64 x.x.position, .int .i64 x.x.time] 26)
    have hz := hB2.size
    exact hK _ _ (keepsO hk) (hk.toBelow.mono hz) ⟨⟨hp, hk.blk hq0 (by simp), hk.blk hq1 (by simp)⟩, hB.trans (hk.toBelow.mono hB.size), hB2.trans (hk.toBelow.mono hz)⟩ ⟨_, by omega, Blk.new W _ _, rfl⟩
  case body =>
    rintro l pre x a' W hl hr ⟨⟨hp, hq0, hq1⟩, hB, hB2⟩ ⟨Bx, hBx, hX, rfl⟩ hlt
    have hOW : Only [] w W := Only.of_below hB (Nat.le_refl _)
    have hcall := HL.out W hOW x.x x.mem
    have hz := hB2.size
    have k0 := hq0.cell 0
    have k1 := fun i => hX.cell i
    have hsf := stF
    unfold leadsRet at hcall
    unfold StoredR.val at hcall
    have f1 := fun (W' : World) (ho : Only [] W W') => (ho.blk hq1 (by simp)).cell 0
    have f2 := fun (W' : World) (ho : Only [] W W') => (ho.blk hq1 (by simp)).free 0
    cases hy : leadsTo s x.x with
    | none =>
      rw [hy] at hcall
      have HC := Lib.hid hcall
      have HY := Lib.hid hy
      clear hcall hy HL f1 f2
      gi_wp2_with (refine ⟨trivial, ?_⟩; gi_at_call 59; refine (CallsIn.inRound l (callsIn_wide.2 HC.out)).mono ?_; rintro e w3 ⟨rfl, ho3⟩)
      exact ⟨keepsO ho3, ho3.toBelow.mono hz, ⟨fun e he => by
        rcases List.mem_append.1 he with q | q
        · exact hp e q
        · rw [List.mem_singleton] at q
          subst q
          exact HY.out, ho3.blk hq0 (by simp), ho3.blk hq1 (by simp)⟩, hB.trans (ho3.toBelow.mono hB.size), hB2.trans (ho3.toBelow.mono hz)⟩
    | some p =>
      rw [hy] at hcall
      have HC := Lib.hid hcall
      have HY := Lib.hid hy
      have hpb : 0 ≤ p ∧ p ≤ 1000000 := hpos x.x p hy
      have e1 := IntWalk.i64_in (p + 1) ⟨by omega, by omega⟩
      clear hcall hy HL
      gi_wp2_with (refine ⟨trivial, ?_⟩; gi_at_call 59; refine (CallsIn.inRound l (callsIn_wide.2 HC.out)).mono ?_; rintro e w3 ⟨rfl, ho3⟩
                   have g1 := f1 _ ho3
                   have g2 := f2 _ ho3)
      exact ⟨(keepsO ho3).trans ((KeepsOthers.setCell _ _ _).from _), ⟨rfl, pre, x, p, rfl, hp, HY.out, (ho3.blk hq1 (by simp)).set 0 _⟩, (hB.trans (ho3.toBelow.mono hB.size)).setCell (p := ⟨w.heap.size + 1, 0, none⟩) (by simp) _⟩
  case done =>
    rintro D ys W hD hys ⟨⟨hp, hq0, hq1⟩, hB, hB2⟩ hK
    have k1 := hq1.cell 0
    have k2 := hq1.free 0
    gi_wp2
    have hK' := (KeepsOthers.setCell W ⟨w.heap.size + 1, 0, none⟩ (.int .i64 0)).same D _ hK rfl
    refine ⟨by simp, .inl ⟨_, _, rfl, run_takeDeferred hK', ?_⟩⟩
    have hc5 := (blk_kept (hq1.set 0 (.int .i64 0)) (grownBy_putObj' _ D (.deferred none)) (fun r e => by cases e; exact ⟨_, hK', rfl⟩)).cell 0
    have hfin : s.reached t = 0 := by
      unfold MS.reached
      refine reachedIn_none s _ fun y hy => ?_
      rw [← hys, List.mem_map] at hy
      obtain ⟨e, he, rfl⟩ := hy
      exact hp e he
    refine ⟨.int .i64 0, ?_, by rw [hfin], Only.of_below ((hB.setCell (p := ⟨w.heap.size + 1, 0, none⟩) (by simp) _).trans (belowK_b (w := w) (Nat.le_refl _) _ D _ _ (by omega) hK' rfl rfl)) (Nat.le_refl _)⟩
    simp [results, Tryz.f21, go_sem, hc5]
  case stop =>
    rintro D c pre W hD hpre ⟨⟨rfl, ini, last, p, e1, e2, e3, hq1⟩, hB⟩ hK
    gi_wp2
    refine ⟨by simp, .inl ⟨_, _, rfl, run_takeDeferred hK, ?_⟩⟩
    have hc5 := (blk_kept hq1 (grownBy_putObj' _ D (.deferred none)) (fun r e => by cases e; exact ⟨_, hK, rfl⟩)).cell 0
    have hfin : s.reached t = p + 1 := by
      obtain ⟨rest, hr⟩ := hpre
      unfold MS.reached
      rw [← hr, e1, List.map_append, List.append_assoc]
      refine reachedIn_some s last.x p e3 rest _ fun y hy => ?_
      obtain ⟨e, he, rfl⟩ := List.mem_map.1 hy
      exact e2 e he
    refine ⟨.int .i64 (p + 1), ?_, by rw [hfin], Only.of_below (hB.trans (belowK_b (w := w) (Nat.le_refl _) W D _ _ (by omega) hK rfl rfl)) (Nat.le_refl _)⟩
    simp [results, Tryz.f21, go_sem, hc5]
end
end Go.Proofs.YtpcemipfanimgaaGreatDoor
/- Contracts: what the laws say that a target wants. -/
set_option linter.unusedVariables false
set_option linter.unusedSimpArgs false
namespace Go.Proofs.YtpcemipfanimgaaGreatDoor
open Go Go.RowKit Go.Sort Go.Lib Go.Shelf
set_option maxRecDepth 100000 in
set_option maxHeartbeats 2000000 in
theorem lwants_any {w : World} (t : ByteArray) (s : StoredR) (ht : t.size ≤ maxLen) (h1 : s.stream.size ≤ maxLen) :
    Calls Tryz.prog 12 #[.string t, s.val] w fun e w' => e = .returned (.bool (wantsL t s)) ∧ Only [] w w' := by
  have hsf := stF
  have ht' := ht
  unfold maxLen at ht'
  have hz := toList_lit s.ev.type linkT
  unfold linkT at hz
  have HC := Lib.hid (fun W => r1category_any s.stream W h1)
  unfold StoredR.val
  obtain ⟨r, hr⟩ : ∃ r, r = wantsL t s := ⟨_, rfl⟩
  rw [← hr]
  unfold wantsL at hr
  obtain ⟨z, hz0⟩ : ∃ z, z = ((decide (t.data.toList.take 4 = ceP) && decide (cat s.stream = some (ba (t.data.toList.drop 4)))) || (decide (t.data.toList.take 4 = etP) && decide (s.ev.type.data.toList = t.data.toList.drop 4))) := ⟨_, rfl⟩
  rw [← hz0] at hr
  cases hn : nameOk t with
  | false =>
    rw [hn] at hr
    have hr' : r = false := by rw [hr]; rfl
    clear hr
    subst hr'
    clear hz hz0
    go_enter Tryz.func12, Tryz.ntmps12
    go_wp2_with (go_at_call 36; refine (r1stream_any t _ ht).mono ?_; rintro e w' ⟨rfl, rfl⟩; rw [hn])
    go_ret
    exact ⟨rfl, (Only.refl [] w).alloc _⟩
  | true =>
    by_cases h5 : t.size < 5
    · rw [decide_eq_false (by omega : ¬5 ≤ t.size)] at hr
      have hr' : r = false := by rw [hr]; cases nameOk t <;> cases isSys s.stream <;> cases z <;> rfl
      clear hr
      subst hr'
      clear hz hz0
      go_enter Tryz.func12, Tryz.ntmps12
      go_wp2_with (go_at_call 36; refine (r1stream_any t _ ht).mono ?_; rintro e w' ⟨rfl, rfl⟩; rw [hn])
      go_ret
      exact ⟨rfl, (Only.refl [] w).alloc _⟩
    · rw [decide_eq_true (by omega : 5 ≤ t.size), hn] at hr
      cases hy : isSys s.stream with
      | true =>
        rw [hy] at hr
        have hr' : r = false := by rw [hr]; cases nameOk t <;> cases isSys s.stream <;> cases z <;> rfl
        clear hr
        subst hr'
        clear hz hz0
        go_enter Tryz.func12, Tryz.ntmps12
        go_wp2_with (first | (go_at_call 36; refine (r1stream_any t _ ht).mono ?_; rintro e w' ⟨rfl, rfl⟩; rw [hn]) | (go_at_call 43; refine (r1system_any s.stream _ h1).mono ?_; rintro e w' ⟨rfl, rfl⟩; rw [hy]))
        go_ret
        exact ⟨rfl, (Only.refl [] w).alloc _⟩
      | false =>
        by_cases hl : s.ev.type.data.toList = linkT
        · rw [hy, decide_eq_true hl] at hr
          have hr' : r = false := by rw [hr]; cases nameOk t <;> cases isSys s.stream <;> cases z <;> rfl
          clear hr
          subst hr'
          have hz' : (s.ev.type.toList == [36, 62]) = true := by rw [hz]; exact decide_eq_true hl
          clear hz hl hz0
          go_enter Tryz.func12, Tryz.ntmps12
          go_wp2_with (first | (go_at_call 36; refine (r1stream_any t _ ht).mono ?_; rintro e w' ⟨rfl, rfl⟩; rw [hn]) | (go_at_call 43; refine (r1system_any s.stream _ h1).mono ?_; rintro e w' ⟨rfl, rfl⟩; rw [hy]))
          go_ret
          exact ⟨rfl, (Only.refl [] w).alloc _⟩
        · rw [hy, decide_eq_false hl] at hr
          have hz' : (s.ev.type.toList == [36, 62]) = false := by rw [hz]; exact decide_eq_false hl
          clear hz hl
          have g4 : (4 : Int) ≤ (t.size : Int) := by omega
          have x1 := ext_take t 4 (by omega)
          have x2 := ext_drop t 4
          have z1 := toList_lit (t.extract 0 4) [36, 99, 101, 45]
          have z2 := toList_lit (t.extract 0 4) [36, 101, 116, 45]
          have z3 := toList_dec (catT s.stream) (t.extract 4 t.size)
          have z4 := toList_dec s.ev.type (t.extract 4 t.size)
          rw [x1, bts_ba] at z1 z2
          rw [← x1] at z1 z2
          rw [x2] at z3 z4
          rw [← x2] at z3 z4
          obtain ⟨b1, hb1⟩ : ∃ b1, b1 = decide (t.data.toList.take 4 = ceP) := ⟨_, rfl⟩
          obtain ⟨b4, hb4⟩ : ∃ b4, b4 = decide (t.data.toList.take 4 = etP) := ⟨_, rfl⟩
          obtain ⟨b2, hb2⟩ : ∃ b2, b2 = (cat s.stream).isSome := ⟨_, rfl⟩
          obtain ⟨b3, hb3⟩ : ∃ b3, b3 = decide (catT s.stream = t.extract 4 t.size) := ⟨_, rfl⟩
          obtain ⟨b5, hb5⟩ : ∃ b5, b5 = decide (s.ev.type = t.extract 4 t.size) := ⟨_, rfl⟩
          have hex : (b1 && b4) = false := by
            rw [hb1, hb4]
            by_cases q : t.data.toList.take 4 = ceP
            · rw [decide_eq_true q, q]; rfl
            · rw [decide_eq_false q]; rfl
          have hcat : decide (cat s.stream = some (ba (t.data.toList.drop 4))) = (b2 && b3) := by
            rw [hb2, hb3, x2]
            unfold catT
            cases cat s.stream with
            | none => rfl
            | some c => simp
          have htyp : decide (s.ev.type.data.toList = t.data.toList.drop 4) = b5 := by
            rw [hb5, x2]
            by_cases q : s.ev.type.data.toList = t.data.toList.drop 4
            · rw [decide_eq_true q, decide_eq_true (ba_eq.2 q)]
            · rw [decide_eq_false q, decide_eq_false (fun e => q (ba_eq.1 e))]
          have hr2 : r = ((b1 && (b2 && b3)) || (b4 && b5)) := by
            rw [hr, hz0, hcat, htyp, ← hb1, ← hb4]
            rfl
          have y1 : ((t.extract 0 4).toList == [36, 99, 101, 45]) = b1 := by rw [z1, hb1]; rfl
          have y2 : ((t.extract 0 4).toList == [36, 101, 116, 45]) = b4 := by rw [z2, hb4]; rfl
          clear z1 z2
          rw [← hb3] at z3
          rw [← hb5] at z4
          rw [← hb2] at HC
          have HR := Lib.hid hr2
          clear hb1 hb2 hb3 hb4 hb5 hcat htyp x1 x2 hr hr2 hz0
          cases b1 with
          | true =>
            cases b4 with
            | true => cases hex
            | false =>
              cases b2 with
              | true =>
                cases b3 with
                | true =>
                  go_enter Tryz.func12, Tryz.ntmps12
                  go_wp2_with (first
                    | (go_at_call 36; refine (r1stream_any t _ ht).mono ?_; rintro e w' ⟨rfl, rfl⟩; rw [hn])
                    | (go_at_call 43; refine (r1system_any s.stream _ h1).mono ?_; rintro e w' ⟨rfl, rfl⟩; rw [hy])
                    | (go_at_call 24; refine (HC.out _).mono ?_; rintro e w1 ⟨rfl, ho1⟩
                       have c1 := fun (e : Nat) (os : Array Obj) => cell_regrown ((ho1.blk (Blk.new w 26 _) (by simp)).cell 1) e os))
                  refine wp_region_quiet_below (by kernel_rfl) (by kernel_rfl) ?_
                  repeat (go_big_quiet_step (fail))
                  refine wpQuiet_nil ?_
                  rintro _ ⟨p, rfl⟩
                  go_wp2
                  go_ret
                  exact ⟨ret_b (by rw [HR.out]; rfl), (((Only.refl [] w).alloc _).trans ho1).trans (Only.regrown [] _ p.d p.os)⟩
                | false =>
                  go_enter Tryz.func12, Tryz.ntmps12
                  go_wp2_with (first
                    | (go_at_call 36; refine (r1stream_any t _ ht).mono ?_; rintro e w' ⟨rfl, rfl⟩; rw [hn])
                    | (go_at_call 43; refine (r1system_any s.stream _ h1).mono ?_; rintro e w' ⟨rfl, rfl⟩; rw [hy])
                    | (go_at_call 24; refine (HC.out _).mono ?_; rintro e w1 ⟨rfl, ho1⟩
                       have c1 := fun (e : Nat) (os : Array Obj) => cell_regrown ((ho1.blk (Blk.new w 26 _) (by simp)).cell 1) e os))
                  refine wp_region_quiet_below (by kernel_rfl) (by kernel_rfl) ?_
                  repeat (go_big_quiet_step (fail))
                  refine wpQuiet_nil ?_
                  rintro _ ⟨p, rfl⟩
                  go_wp2
                  go_ret
                  exact ⟨ret_b (by rw [HR.out]; rfl), (((Only.refl [] w).alloc _).trans ho1).trans (Only.regrown [] _ p.d p.os)⟩
              | false =>
                go_enter Tryz.func12, Tryz.ntmps12
                go_wp2_with (first
                  | (go_at_call 36; refine (r1stream_any t _ ht).mono ?_; rintro e w' ⟨rfl, rfl⟩; rw [hn])
                  | (go_at_call 43; refine (r1system_any s.stream _ h1).mono ?_; rintro e w' ⟨rfl, rfl⟩; rw [hy])
                  | (go_at_call 24; refine (HC.out _).mono ?_; rintro e w1 ⟨rfl, ho1⟩
                     have c1 := fun (e : Nat) (os : Array Obj) => cell_regrown ((ho1.blk (Blk.new w 26 _) (by simp)).cell 1) e os))
                refine wp_region_quiet_below (by kernel_rfl) (by kernel_rfl) ?_
                repeat (go_big_quiet_step (fail))
                refine wpQuiet_nil ?_
                rintro _ ⟨p, rfl⟩
                go_wp2
                go_ret
                exact ⟨ret_b (by rw [HR.out]; rfl), (((Only.refl [] w).alloc _).trans ho1).trans (Only.regrown [] _ p.d p.os)⟩
          | false =>
            cases b4 with
            | true =>
              cases b5 with
              | true =>
                go_enter Tryz.func12, Tryz.ntmps12
                go_wp2_with (first
                  | (go_at_call 36; refine (r1stream_any t _ ht).mono ?_; rintro e w' ⟨rfl, rfl⟩; rw [hn])
                  | (go_at_call 43; refine (r1system_any s.stream _ h1).mono ?_; rintro e w' ⟨rfl, rfl⟩; rw [hy])
                  | (go_at_call 24; refine (HC.out _).mono ?_; rintro e w1 ⟨rfl, ho1⟩
                     have c1 := fun (e : Nat) (os : Array Obj) => cell_regrown ((ho1.blk (Blk.new w 26 _) (by simp)).cell 1) e os))
                refine wp_region_quiet_below (by kernel_rfl) (by kernel_rfl) ?_
                repeat (go_big_quiet_step (fail))
                refine wpQuiet_nil ?_
                rintro _ ⟨p, rfl⟩
                go_wp2
                go_ret
                exact ⟨ret_b (by rw [HR.out]; rfl), (((Only.refl [] w).alloc _).trans ho1).trans (Only.regrown [] _ p.d p.os)⟩
              | false =>
                go_enter Tryz.func12, Tryz.ntmps12
                go_wp2_with (first
                  | (go_at_call 36; refine (r1stream_any t _ ht).mono ?_; rintro e w' ⟨rfl, rfl⟩; rw [hn])
                  | (go_at_call 43; refine (r1system_any s.stream _ h1).mono ?_; rintro e w' ⟨rfl, rfl⟩; rw [hy])
                  | (go_at_call 24; refine (HC.out _).mono ?_; rintro e w1 ⟨rfl, ho1⟩
                     have c1 := fun (e : Nat) (os : Array Obj) => cell_regrown ((ho1.blk (Blk.new w 26 _) (by simp)).cell 1) e os))
                refine wp_region_quiet_below (by kernel_rfl) (by kernel_rfl) ?_
                repeat (go_big_quiet_step (fail))
                refine wpQuiet_nil ?_
                rintro _ ⟨p, rfl⟩
                go_wp2
                go_ret
                exact ⟨ret_b (by rw [HR.out]; rfl), (((Only.refl [] w).alloc _).trans ho1).trans (Only.regrown [] _ p.d p.os)⟩
            | false =>
              go_enter Tryz.func12, Tryz.ntmps12
              go_wp2_with (first
                | (go_at_call 36; refine (r1stream_any t _ ht).mono ?_; rintro e w' ⟨rfl, rfl⟩; rw [hn])
                | (go_at_call 43; refine (r1system_any s.stream _ h1).mono ?_; rintro e w' ⟨rfl, rfl⟩; rw [hy])
                | (go_at_call 24; refine (HC.out _).mono ?_; rintro e w1 ⟨rfl, ho1⟩
                   have c1 := fun (e : Nat) (os : Array Obj) => cell_regrown ((ho1.blk (Blk.new w 26 _) (by simp)).cell 1) e os))
              refine wp_region_quiet_below (by kernel_rfl) (by kernel_rfl) ?_
              repeat (go_big_quiet_step (fail))
              refine wpQuiet_nil ?_
              rintro _ ⟨p, rfl⟩
              go_wp2
              go_ret
              exact ⟨ret_b (by rw [HR.out]; rfl), (((Only.refl [] w).alloc _).trans ho1).trans (Only.regrown [] _ p.d p.os)⟩
end Go.Proofs.YtpcemipfanimgaaGreatDoor
/- Links, plain: what every stored event is. No program is named here. -/
set_option linter.unusedVariables false
set_option linter.unusedSimpArgs false
namespace Go.Proofs.YtpcemipfanimgaaGreatDoor
open Go.RowKit
def MS.Neat (s : MS) : Prop := ∀ x ∈ s.all, nameOk x.stream = true ∧ x.ev.ok = true
theorem neat_new : MS.new.Neat := fun x hx => by cases hx
theorem check_events {c : Cmd} (h : c.check = 0) (hk : c.kind = 1) : ∀ e ∈ c.events, e.ok = true := by
  unfold Cmd.check at h
  split at h
  · omega
  split at h
  · omega
  split at h
  · rename_i q
    exact absurd h q.2
  · rename_i q
    have h0 : eventsE c.events = 0 := by
      apply Classical.byContradiction
      exact fun h2 => q ⟨hk, h2⟩
    unfold eventsE at h0
    split at h0
    · cases h0
    split at h0
    · cases h0
    split at h0
    · rename_i h2
      exact fun e he => List.all_eq_true.1 h2 e he
    · cases h0
theorem check_kinds {c : Cmd} (h : c.check = 0) : 1 ≤ c.kind ∧ c.kind ≤ 5 := by
  unfold Cmd.check at h
  split at h
  · omega
  · omega
theorem storedOf_ev (n : ByteArray) (now : Int) : ∀ (l : List EventR) (v p : Int), ∀ x ∈ storedOf n now l v p, ∃ e ∈ l, x.ev = e.canon
  | [], _, _, x, h => by cases h
  | e :: l, v, p, x, h => by
    simp only [storedOf, List.mem_cons] at h
    rcases h with rfl | h
    · exact ⟨e, by simp, rfl⟩
    · obtain ⟨e', he, h2⟩ := storedOf_ev n now l _ _ x h
      exact ⟨e', by simp [he], h2⟩
theorem do_events (s : MS) (c : Cmd) : (s.do c).2.all = s.all ∨ (nameOk c.stream = true ∧ ∀ e ∈ c.events, e.ok = true) := by
  unfold MS.do
  split
  · exact .inl rfl
  rename_i hc
  have h0 : c.check = 0 := by simpa using hc
  have hk := check_kinds h0
  dsimp only
  split
  · exact .inl rfl
  rename_i h45
  split
  · exact .inl rfl
  · by_cases h1 : c.kind = 1
    · exact .inr ⟨check_name h0 (by omega), check_events h0 h1⟩
    · left
      unfold MS.act
      dsimp only
      by_cases h2 : c.kind = 2
      · rw [if_pos h2]; rfl
      · rw [if_neg h2, if_pos (by omega)]
        split <;> rfl
theorem neat_do {s : MS} (h : s.Neat) (c : Cmd) : (s.do c).2.Neat := by
  rcases do_shape s c with ⟨h1, h2⟩ | ⟨y, h1, ⟨h2, h3⟩ | ⟨h2, h3⟩⟩
  · intro x hx; rw [h2] at hx; exact h x hx
  · intro x hx; rw [h3] at hx; exact h x hx
  · intro x hx
    rcases do_events s c with q | ⟨q1, q2⟩
    · rw [q] at hx; exact h x hx
    · rw [h3] at hx
      rcases List.mem_append.1 hx with q | q
      · exact h x q
      · refine ⟨by rw [storedOf_str _ _ _ _ _ x q]; exact q1, ?_⟩
        obtain ⟨e, he, h4⟩ := storedOf_ev _ _ _ _ _ x q
        rw [h4]
        exact q2 e he
theorem ev_sizes {e : EventR} (h : e.ok = true) : e.type.size ≤ 60 ∧ e.data.size ≤ 200 ∧ 1 ≤ e.id := by
  unfold EventR.ok at h
  simp only [Bool.and_eq_true, decide_eq_true_eq] at h
  exact ⟨(nameOk_size h.1.2).2, h.2, h.1.1⟩
theorem MS.Neat.sizes {s : MS} (h : s.Neat) {x : StoredR} (hx : x ∈ s.all) : x.stream.size ≤ 60 ∧ x.ev.type.size ≤ 60 ∧ x.ev.data.size ≤ 200 := by
  obtain ⟨h1, h2⟩ := h x hx
  have := ev_sizes h2
  exact ⟨(nameOk_size h1).2, this.1, this.2.1⟩
end Go.Proofs.YtpcemipfanimgaaGreatDoor
/- Contracts: what a target wants and has no link to yet; how many. -/
set_option linter.unusedVariables false
set_option linter.unusedSimpArgs false
namespace Go.Proofs.YtpcemipfanimgaaGreatDoor
open Go Go.RowKit Go.Sort Go.Lib Go.Shelf
set_option maxRecDepth 100000 in
theorem kwanted1_any {W : World} {b1 b2 : Nat} {r : Int} {t : ByteArray} (hB1 : Blk W b1 3 #[.int .i64 r]) (hB2 : Blk W b2 9 #[.string t]) (x : StoredR) (hs : x.stream.size ≤ 60) (ht : x.ev.type.size ≤ 60) :
    Calls Tryz.prog 104 #[.agg #[.int .i64 x.ev.id, .string x.ev.type, .string x.ev.data, .float .f64 x.ev.value, .string x.stream, .int .i64 x.version, .int .i64 x.position, .int .i64 x.time], .pointer (some ⟨b1, 0, none⟩), .pointer (some ⟨b2, 0, none⟩)] W
      fun e w' => e = .returned (.bool (decide (x.position < r) || !wantsT t x)) ∧ Only [] W w' := by
  have k1 := fun o => (((Only.refl [] W).alloc o).blk hB1 (by simp)).cell 0
  have k2 := fun o => (((Only.refl [] W).alloc o).blk hB2 (by simp)).cell 0
  have hsf := stF
  have HW := Lib.hid (fun W => wants_any (w := W) t x (by unfold maxLen; omega) (by omega))
  unfold StoredR.val at HW
  clear hB1 hB2
  by_cases h : x.position < r
  · rw [decide_eq_true h]
    go_enter Tryz.func104, Tryz.ntmps104
    go_wp2
    go_ret
    exact ⟨rfl, (Only.refl [] W).alloc _⟩
  · rw [decide_eq_false h]
    go_enter Tryz.func104, Tryz.ntmps104
    go_wp2_with (go_at_call 11; refine (HW.out _).mono ?_; rintro e w1 ⟨rfl, ho1⟩)
    go_ret
    exact ⟨rfl, ((Only.refl [] W).alloc _).trans ho1⟩
section
variable {a w : World} {R E : List Nat} {sb mb N : Nat} {s : MS}
set_option maxRecDepth 100000 in
set_option maxHeartbeats 1000000 in
theorem wanted_any (h : HasS a w R E sb mb s N) (hN : N ≤ 100000) (hn : s.Neat) (t : ByteArray) :
    Calls Tryz.prog 50 #[.pointer (some ⟨sb, 0, none⟩), .string t] w fun e w' => ∃ v, e = .returned v ∧ w'.ownsRow w.heap.size 26 8 v (s.wanted t).length ((s.wanted t).flatMap StoredR.cells) ∧ Only [] w w' := by
  have hlen : s.all.length ≤ 1000000 := by have := h.ok.all; omega
  have hO0 := (Only.refl [] w).alloc (.cells #[.string t] 9)
  have HR := Lib.hid (reached_any (h.keep hO0) hN t (fun x hx => by have := (hn.sizes hx).2.2; omega))
  have hB2 := Blk.new w 9 #[.string t]
  have c0 := hB2.cell 0
  go_enter Tryz.func50, Tryz.ntmps50
  go_wp2_with (go_at_call 21; refine HR.out.mono ?_; rintro e w1 ⟨rfl, ho1⟩)
  have hO1 : Only [] w (w1.alloc (.cells #[.int .i64 (s.reached t)] 3)) := (hO0.trans ho1).alloc _
  have HE := Lib.hid (has_every (h.keep hO1) hN)
  have hB1 := Blk.new w1 3 #[.int .i64 (s.reached t)]
  have hB3 := ((Only.refl [] w1).alloc (.cells #[.int .i64 (s.reached t)] 3)).blk (ho1.blk hB2 (by simp)) (by simp)
  have hz1 : w.heap.size + 1 ≤ w1.heap.size := by have := ho1.size; simp at this; omega
  clear c0 hB2 HR
  go_wp2_with (go_at_call 22; refine HE.out.mono ?_; rintro e w2 ⟨v2, rfl, hown2, ho2⟩)
  have hlt2 := hown2.lt
  have n1 : w1.heap.size ∉ v2.ownBlock.toList := fun q => by have := (hlt2 _ (by simpa using q)).1; simp at this; omega
  have n2 : w.heap.size ∉ v2.ownBlock.toList := fun q => by have := (hlt2 _ (by simpa using q)).1; simp at this; omega
  have hJ : JudgesW s.all v2.ownBlock.toList w2 (.pointer (some ⟨w1.heap.size, 0, none⟩)) (.pointer (some ⟨w.heap.size, 0, none⟩)) (fun x => decide (x.position < s.reached t) || !wantsT t x) := fun W hW x hx =>
    kwanted1_any (hW.blk (ho2.blk hB1 (by simp)) n1) (hW.blk (ho2.blk hB3 (by simp)) n2) x (hn.sizes hx).1 (hn.sizes hx).2.1
  have hD := deleteSt_anyW hown2 hlen hJ
  have HD := Lib.hid hD
  have hz2 : w1.heap.size + 1 ≤ w2.heap.size := by have := ho2.size; simp at this; omega
  clear hD hJ HE hB1 hB3
  go_wp2_with (go_at_call 103; refine HD.out.mono ?_; rintro e w3 ⟨v3, rfl, hown3, ho3⟩)
  go_ret
  exact ⟨_, rfl, own_base hown3 (by simp; omega), (hO1.trans ho2).step ho3 (fun g hg => .inr (by have := (hlt2 g (by simpa using hg)).1; simp at this; omega))⟩
set_option maxRecDepth 100000 in
theorem lags_any (h : HasS a w R E sb mb s N) (hN : N ≤ 100000) (hn : s.Neat) (t : ByteArray) :
    Calls Tryz.prog 18 #[.pointer (some ⟨sb, 0, none⟩), .string t] w fun e w' => e = .returned (.int .i64 (s.wanted t).length) ∧ Only [] w w' := by
  have HW := Lib.hid (wanted_any h hN hn t)
  have hl : (s.wanted t).length ≤ 1000000 := Nat.le_trans (List.length_filter_le _ _) (by have := h.ok.all; omega)
  clear h
  go_enter Tryz.func18, Tryz.ntmps18
  go_wp2_with (go_at_call 50; refine HW.out.mono ?_; rintro e w1 ⟨v1, rfl, hown1, ho1⟩; obtain ⟨A1, cap1, rfl, hnc1, hcm1⟩ := own_form hown1; unfold maxLen at hcm1)
  go_ret
  exact ⟨rfl, ho1⟩
end
end Go.Proofs.YtpcemipfanimgaaGreatDoor
/- Contracts: the next link's command. -/
set_option linter.unusedVariables false
set_option linter.unusedSimpArgs false
namespace Go.Proofs.YtpcemipfanimgaaGreatDoor
open Go Go.RowKit Go.Sort Go.Lib Go.Shelf
theorem inv_intro_k {P : Program} {C : World → Prop} {Q : Exit → Act → World → Prop} {l : List Oper} {H T : List Nat} {a0 : Act} {w0 : World} (I : Act → Array Bool → Act → World → Prop) (h0 : I a0 (listedOf l.toArray.size H) a0 w0)
    (hstep : ∀ i ∈ T, ∀ listed a w, i ∈ Region.ready .any l.toArray listed → I a0 listed a w → ∀ K : Act → World → Prop, Hid (∀ a' w', I a0 (listed.setIfInBounds i true) a' w' → K a' w') → wpList P l.toArray (CheckQ C Q K) (opsAt l [i]) a w)
    (hend : ∀ listed a w, I a0 listed a w → (∀ t ∈ T, listed.getD t false = true) → Q .normal a w) : InvGo P l C Q H T a0 w0 :=
  inv_intro I h0 (fun i hi listed a w hr hI => hstep i hi listed a w hr hI _ (fun _ _ h => h)) hend
def evV (p : Int) (d : ByteArray) : Array Value := #[.int .i64 p, .string ⟨#[36, 62]⟩, .string d, .float .f64 0]
def ev0 : Array Value := #[.int .i64 0, .string ⟨#[]⟩, .string ⟨#[]⟩, .float .f64 0]
def cmd0 : Array Value := #[.int .i64 0, .int .i64 0, .string ⟨#[]⟩, .int .i64 0, .slice none 0 0, .int .i64 0, .int .i64 0, .int .i64 0]
def cmdV (t : ByteArray) (k : Int) (v : Value) : Array Value := #[.int .i64 1, .int .i64 0, .string t, .int .i64 k, v, .int .i64 0, .int .i64 0, .int .i64 0]
structure NxI (W0 : World) (A0 : Act) (p : Int) (d : ByteArray) (f7 f8 f9 f10 : Bool) (ac : Act) (W : World) (v31 v32 v8 : Value) : Prop where
  act : ac = ((A0.put (some 31) v31).put (some 32) v32).put (some 8) v8
  only : Only [] W0 W
  h7 : f7 = true → v31 = .string d
  h8 : f8 = true → v32 = .agg (evV p d)
  h9 : f9 = true → ∃ b, v8 = .pointer (some ⟨b, 0, none⟩) ∧ W0.heap.size ≤ b ∧ Blk W b 24 (if f10 then evV p d else ev0)
  h10 : f10 = true → f9 = true
def NxJ (W0 : World) (p : Int) (d : ByteArray) (A0 : Act) (listed : Array Bool) (ac : Act) (W : World) : Prop :=
  ∃ v31 v32 v8, NxI W0 A0 p d (listed.getD 7 false) (listed.getD 8 false) (listed.getD 9 false) (listed.getD 10 false) ac W v31 v32 v8
structure NyI (W0 : World) (A0 : Act) (g : Nat) (n : Int) (t : ByteArray) (ev : Array Value) (f3 f4 f6 f7 f8 f9 : Bool) (ac : Act) (W : World) (v36 v37 v39 v40 v5 : Value) : Prop where
  act : ac = ((((A0.put (some 36) v36).put (some 37) v37).put (some 39) v39).put (some 40) v40).put (some 5) v5
  only : Only [g] W0 W
  only0 : f8 = false → Only [] W0 W
  h3 : f3 = true → v36 = .int .i64 n
  h4 : f4 = true → v37 = .int .i64 (n - 1)
  h6 : f6 = true → ∃ b, v39 = .slice (some ⟨b, 0, none⟩) 1 1 ∧ W0.heap.size ≤ b ∧ Blk W b 24 ev
  h7 : f7 = true → v40 = .agg (cmdV t (n - 1) v39)
  h8 : Blk W g 40 (if f8 then cmdV t (n - 1) v39 else cmd0)
  h9 : f9 = true → v5 = .bool true
  h86 : f8 = true → f6 = true ∧ f3 = true
  h76 : f7 = true → f6 = true
def NyJ (W0 : World) (g : Nat) (n : Int) (t : ByteArray) (ev : Array Value) (A0 : Act) (listed : Array Bool) (ac : Act) (W : World) : Prop :=
  ∃ v36 v37 v39 v40 v5, NyI W0 A0 g n t ev (listed.getD 3 false) (listed.getD 4 false) (listed.getD 6 false) (listed.getD 7 false) (listed.getD 8 false) (listed.getD 9 false) ac W v36 v37 v39 v40 v5
section
variable {a w : World} {R E : List Nat} {sb mb N : Nat} {s : MS}
def nextV (w w' : World) (o : Option Cmd) (e : Ending) : Prop := match o with
  | none => e = .returned (.tuple #[.agg cmd0, .bool false])
  | some c => ∃ b, e = .returned (.tuple #[c.val (.slice (some ⟨b, 0, none⟩) 1 1), .bool true]) ∧ w.heap.size ≤ b ∧ (∃ ev, c.events = [ev] ∧ Blk w' b 24 #[.int .i64 ev.id, .string ev.type, .string ev.data, .float .f64 ev.value])
set_option maxRecDepth 100000 in
set_option maxHeartbeats 4000000 in
theorem next_any (h : HasS a w R E sb mb s N) (hN : N ≤ 100000) (hn : s.Neat) (hT : Tab w) (t : ByteArray) (hts : t.size ≤ maxLen) :
    Calls Tryz.prog 16 #[.pointer (some ⟨sb, 0, none⟩), .string t] w fun e w' => nextV w w' (s.nextC t) e ∧ Only [] w w' := by
  have hlen : s.all.length ≤ 1000000 := by have := h.ok.all; omega
  have hwl : (s.wanted t).length ≤ 1000000 := Nat.le_trans (List.length_filter_le _ _) hlen
  have hO0 := (Only.refl [] w).alloc (.cells cmd0 40)
  have HW := Lib.hid (wanted_any (h.keep hO0) hN hn t)
  have HDl := Lib.hid (fun (W : World) (hW : Only [] w W) => has_deleted (h.keep hW) t)
  have hB := Blk.new w 40 cmd0
  unfold nextV MS.nextC
  unfold cmd0 at hO0 HW hB
  obtain ⟨l, hl⟩ : ∃ l, l = s.wanted t := ⟨_, rfl⟩
  have hmem : ∀ x ∈ l, x ∈ s.all := fun x hx => by rw [hl] at hx; exact (List.mem_filter.1 hx).1
  rw [← hl] at HW hwl ⊢
  clear hl
  have k0 := fun (W : World) (hW : Only [] _ W) i => (hW.blk hB (by simp)).free i
  cases l with
  | nil =>
    go_enter Tryz.func16, Tryz.ntmps16
    go_wp2_with (go_at_call 50; refine HW.out.mono ?_; rintro e w1 ⟨v1, rfl, hown1, ho1⟩; obtain ⟨A1, cap1, rfl, hnc1, hcm1⟩ := own_form hown1; unfold maxLen at hcm1
                 have hb1 := ho1.blk hB (by simp)
                 have k1 := fun i => hb1.free i
                 have k2 := fun i => hb1.cell i)
    refine bodyPost_ret (v := .tuple #[.agg #[.int .i64 0, .int .i64 0, .string ⟨#[]⟩, .int .i64 0, .slice none 0 0, .int .i64 0, .int .i64 0, .int .i64 0], .bool false]) (by simp [results, Tryz.results16, go_sem, k2]) rfl ⟨rfl, ?hw⟩
    case hw =>
      iterate 8 (refine Only.setCell ?_ (.inr (by simp)) _)
      exact hO0.trans ho1
  | cons y l =>
    have hy := hmem y (by simp)
    obtain ⟨s1, s2, s3⟩ := hn.sizes hy
    cases hd : (s.find t).deleted with
    | true =>
      rw [hd] at HDl
      simp only [if_true]
      go_enter Tryz.func16, Tryz.ntmps16
      go_wp2_with (first
        | (go_at_call 50; refine HW.out.mono ?_; rintro e w1 ⟨v1, rfl, hown1, ho1⟩; obtain ⟨A1, cap1, rfl, hnc1, hcm1⟩ := own_form hown1; unfold maxLen at hcm1)
        | (go_at_call 51; refine (HDl.out _ (hO0.trans ho1)).mono ?_; rintro e w2 ⟨rfl, ho2⟩
           have hb2 := ho2.blk (ho1.blk hB (by simp)) (by simp)
           have k1 := fun i => hb2.free i
           have k2 := fun i => hb2.cell i))
      refine bodyPost_ret (v := .tuple #[.agg #[.int .i64 0, .int .i64 0, .string ⟨#[]⟩, .int .i64 0, .slice none 0 0, .int .i64 0, .int .i64 0, .int .i64 0], .bool false]) (by simp [results, Tryz.results16, go_sem, k2]) rfl ⟨rfl, ?hw⟩
      case hw =>
        iterate 8 (refine Only.setCell ?_ (.inr (by simp)) _)
        exact (hO0.trans ho1).trans ho2
    | false =>
      rw [hd] at HDl
      simp only [Bool.false_eq_true, if_false]
      have hsf := stF
      have hyb : 0 ≤ y.version ∧ y.version ≤ 1000000 ∧ 0 ≤ y.position ∧ y.position ≤ 1000000 := by
        obtain ⟨i, hi, e⟩ := List.mem_iff_getElem.1 hy
        obtain ⟨k, e1, e2⟩ := h.inv.ver i hi
        have q1 := (List.getElem?_eq_some_iff.1 e2).1
        have q2 := (h.ok.find s.all[i].stream).2.2.2.1
        have q3 := h.inv.pos i hi
        rw [e] at e1 q1 q2 q3
        exact ⟨by omega, by omega, by omega, by omega⟩
      obtain ⟨n, hnn⟩ : ∃ n : Nat, n = (s.find t).places.length := ⟨_, rfl⟩
      have hn2 : n ≤ 1000000 := by have := (h.ok.find t).2.2.2.1; omega
      obtain ⟨d, hdd⟩ : ∃ d, d = linkData y.version y.stream := ⟨_, rfl⟩
      unfold linkCmd
      rw [← hnn, ← hdd]
      go_enter Tryz.func16, Tryz.ntmps16
      go_wp2_with (first
        | (go_at_call 50; refine HW.out.mono ?_; rintro e w1 ⟨v1, rfl, hown1, ho1⟩
           obtain ⟨A1, cap1, rfl, hnc1, hcm1, hel1⟩ := (Slc.of_own hown1).1.openE StoredR.cells (fun _ => rfl)
           unfold maxLen at hcm1
           obtain ⟨b1, off1, rfl, hb1, hcc1⟩ := hel1 0 (by simp))
        | (go_at_call 51; refine (HDl.out _ (hO0.trans ho1)).mono ?_; rintro e w2 ⟨rfl, ho2⟩
           have c0 : w2.cell? ⟨b1, off1, none⟩ = some (.int .i64 y.ev.id) := (ho2.cell (p := ⟨b1, off1, none⟩) hb1 (by simp)).trans (hcc1 0 (by omega))
           have c1 : w2.cell? ⟨b1, off1 + 1, none⟩ = some (.string y.ev.type) := (ho2.cell (p := ⟨b1, off1 + 1, none⟩) hb1 (by simp)).trans (hcc1 1 (by omega))
           have c2 : w2.cell? ⟨b1, off1 + 2, none⟩ = some (.string y.ev.data) := (ho2.cell (p := ⟨b1, off1 + 2, none⟩) hb1 (by simp)).trans (hcc1 2 (by omega))
           have c3 : w2.cell? ⟨b1, off1 + 3, none⟩ = some (.float .f64 y.ev.value) := (ho2.cell (p := ⟨b1, off1 + 3, none⟩) hb1 (by simp)).trans (hcc1 3 (by omega))
           have c4 : w2.cell? ⟨b1, off1 + 4, none⟩ = some (.string y.stream) := (ho2.cell (p := ⟨b1, off1 + 4, none⟩) hb1 (by simp)).trans (hcc1 4 (by omega))
           have c5 : w2.cell? ⟨b1, off1 + 5, none⟩ = some (.int .i64 y.version) := (ho2.cell (p := ⟨b1, off1 + 5, none⟩) hb1 (by simp)).trans (hcc1 5 (by omega))
           have c6 : w2.cell? ⟨b1, off1 + 6, none⟩ = some (.int .i64 y.position) := (ho2.cell (p := ⟨b1, off1 + 6, none⟩) hb1 (by simp)).trans (hcc1 6 (by omega))
           have c7 : w2.cell? ⟨b1, off1 + 7, none⟩ = some (.int .i64 y.time) := (ho2.cell (p := ⟨b1, off1 + 7, none⟩) hb1 (by simp)).trans (hcc1 7 (by omega))
           clear hel1 hcc1))
      have hO2 : Only [] w w2 := (hO0.trans ho1).trans ho2
      have hb2 := ho2.blk (ho1.blk hB (by simp)) (by simp)
      have hsz2 : w.heap.size + 1 ≤ w2.heap.size := by have q1 := ho1.size; have q2 := ho2.size; simp at q1; omega
      obtain ⟨W3, hW3⟩ : ∃ W3, W3 = w2.alloc (.cells #[.int .i64 y.ev.id, .string y.ev.type, .string y.ev.data, .float .f64 y.ev.value, .string y.stream, .int .i64 y.version, .int .i64 y.position, .int .i64 y.time] 26) := ⟨_, rfl⟩
      have hY : Blk W3 w2.heap.size 26 #[.int .i64 y.ev.id, .string y.ev.type, .string y.ev.data, .float .f64 y.ev.value, .string y.stream, .int .i64 y.version, .int .i64 y.position, .int .i64 y.time] := by rw [hW3]; exact Blk.new w2 _ _
      have hO3 : Only [] w W3 := by rw [hW3]; exact hO2.alloc _
      have hb3 : Blk W3 w.heap.size 40 cmd0 := by rw [hW3]; exact ((Only.refl [] w2).alloc _).blk hb2 (by simp)
      have hsz3 : W3.heap.size = w2.heap.size + 1 := by rw [hW3]; simp
      rw [← hW3]
      clear hW3 c0 c1 c2 c3 c4 c5 c6 c7 ho1 ho2 hb2 HW HDl k0 hnc1 hcm1 hown1 hb1 hB
      have ep := IntWalk.i64_in (y.position + 1) ⟨by omega, by omega⟩
      have HLk := Lib.hid (fun (W : World) (hW : Only [] W3 W) => link_any (w := W) y.version y.stream (hT.only (hO3.trans hW)) (by omega) (by omega) (by omega))
      have HCt := Lib.hid (fun (W : World) (hW : Only [] W3 W) => has_count (h.keep (hO3.trans hW)) t)
      rw [← hnn] at HCt
      have en := IntWalk.i64_in ((n : Int) - 1) ⟨by omega, by omega⟩
      rw [← hdd] at HLk
      clear hy h hn hT hnn hdd hyb
      have c1 := Within.cell (S := []) (hY.cell 4) (by simp)
      have c2 := Within.cell (S := []) (hY.cell 5) (by simp)
      have c3 := Within.cell (S := []) (hY.cell 6) (by simp)
      refine wp_region_inv2 (C := fun W => ∃ p : Within [] W3, W = p.W) [0, 1, 2, 3, 4, 5, 6] [7, 8, 9, 10] (by kernel_rfl) (by kernel_rfl) (by intro c d u a w h; cases d <;> exact h) ⟨⟨_, (Only.refl _ _).drew⟩, rfl⟩ ?_
      show wpQuiet _ _ _ _ [_, _, _, _, _, _, _] _
      repeat (go_big_quiet_step (fail))
      refine wpQuiet_nil ?_
      clear c1 c2 c3
      refine inv_intro_k (NxJ W3 (y.position + 1) d) ?_ ?_ ?_
      · refine ⟨undef, undef, undef, rfl, (Only.refl _ _).drew, ?_, ?_, ?_, ?_⟩
        all_goals (intro q; exfalso; revert q; decide)
      · intro i hi listed ac W hr hI K HK
        obtain ⟨v31, v32, v8, hA⟩ := hI
        have hself := ready_self hr
        have hset := flag_set hself.2
        obtain ⟨rfl, hOW, h7, h8, h9, h10⟩ := hA
        simp only [List.mem_cons, List.not_mem_nil, or_false] at hi
        unfold NxJ at HK
        have H7 := Lib.hid h7
        have H8 := Lib.hid h8
        have H9 := Lib.hid h9
        have H10 := Lib.hid h10
        have HSET := Lib.hid hset
        clear h7 h8 h9 h10 hset
        rcases hi with rfl | rfl | rfl | rfl
        · have HC := Lib.hid (HLk.out W hOW)
          have hk := HK.out
          rw [HSET.out 7, HSET.out 8, HSET.out 9, HSET.out 10] at hk
          clear HK
          have HK := Lib.hid hk
          clear hk
          clear hself
          show wpList _ _ _ [_] _ _
          go_frame
          go_wp2_with (go_at_call 52; refine HC.out.mono ?_; rintro e W' ⟨rfl, ho'⟩)
          refine check_of (S := []) (hOW.trans ho') (HK.out _ _ ⟨_, v32, v8, rfl, hOW.trans ho', fun _ => rfl, H8.out, fun q => ?_, H10.out⟩)
          obtain ⟨b, r1, r2, r3⟩ := H9.out q
          exact ⟨b, r1, r2, ho'.blk r3 (by simp)⟩
        · have L7 := Lib.hid (ready_dep hr 7 (by kernel_rfl))
          obtain rfl := H7.out L7.out
          have hk := HK.out
          rw [HSET.out 7, HSET.out 8, HSET.out 9, HSET.out 10] at hk
          clear HK
          have HK := Lib.hid hk
          clear hk
          clear hself
          show wpList _ _ _ [_] _ _
          go_frame
          go_wp2_with fail
          exact check_of (S := []) hOW (HK.out _ _ ⟨_, _, v8, rfl, hOW, fun _ => rfl, fun _ => rfl, H9.out, H10.out⟩)
        · have L10 : Hid (listed.getD 10 false = false) := by
            unfold Hid
            cases q : listed.getD 10 false
            · rfl
            · have := H10.out q
              rw [hself.1] at this
              cases this
          have hk := HK.out
          rw [HSET.out 7, HSET.out 8, HSET.out 9, HSET.out 10] at hk
          clear HK
          have HK := Lib.hid hk
          clear hk
          clear hself
          have hzW := hOW.size
          have hOn := hOW.alloc (.cells ev0 24)
          have hbn := Blk.new W 24 ev0
          unfold ev0 at hOn hbn
          show wpList _ _ _ [_] _ _
          go_frame
          go_wp2_with fail
          refine check_of (S := []) hOn (HK.out _ _ ⟨v31, v32, _, rfl, hOn, H7.out, H8.out, fun _ => ⟨_, rfl, hzW, ?_⟩, fun _ => rfl⟩)
          show Blk _ _ _ (if listed.getD 10 false = true then _ else _)
          rw [L10.out]
          exact hbn
        · have L7 := Lib.hid (ready_dep hr 7 (by kernel_rfl))
          have L8 := Lib.hid (ready_dep hr 8 (by kernel_rfl))
          have L9 := Lib.hid (ready_dep hr 9 (by kernel_rfl))
          obtain rfl := H8.out L8.out
          obtain ⟨b, rfl, r2, r3⟩ := H9.out L9.out
          rw [hself.1] at r3
          have r3 : Blk W b 24 ev0 := r3
          have hk := HK.out
          rw [HSET.out 7, HSET.out 8, HSET.out 9, HSET.out 10] at hk
          clear HK
          have HK := Lib.hid hk
          clear hk
          clear hself
          unfold ev0 at r3
          have d1 := fun i => r3.cell i
          have d2 := fun i => r3.free i
          have hOs := fun u v x y => (((hOW.setCell (p := ⟨b, 0, none⟩) (.inr r2) u).setCell (p := ⟨b, 1, none⟩) (.inr r2) v).setCell (p := ⟨b, 2, none⟩) (.inr r2) x).setCell (p := ⟨b, 3, none⟩) (.inr r2) y
          have hBs := fun u v x y => (((r3.set 0 u).set 1 v).set 2 x).set 3 y
          have HO := Lib.hid hOs
          have HB := Lib.hid hBs
          clear hOs hBs
          show wpList _ _ _ [_] _ _
          go_frame
          unfold evV
          go_wp2_with fail
          exact check_of (S := []) (HO.out _ _ _ _) (HK.out _ _ ⟨v31, _, _, rfl, HO.out _ _ _ _, H7.out, fun _ => rfl, fun _ => ⟨b, rfl, r2, HB.out _ _ _ _⟩, fun _ => L9.out⟩)
      · intro listed ac W hI hall
        obtain ⟨v31, v32, v8, hA⟩ := hI
        rw [hall 7 (by simp), hall 8 (by simp), hall 9 (by simp), hall 10 (by simp)] at hA
        obtain ⟨rfl, hOW, h7, h8, h9, _⟩ := hA
        obtain rfl := h7 rfl
        obtain rfl := h8 rfl
        obtain ⟨b, rfl, r2, r3⟩ := h9 rfl
        have r3 : Blk W b 24 (evV (y.position + 1) d) := r3
        clear h7 h8 h9 hall
        have hO4 := hO3.trans hOW
        have hb4 := hOW.blk hb3 (by simp)
        have hz4 := hOW.size
        have hgl : w.heap.size < W.heap.size := by omega
        have hbg : b ≠ w.heap.size := by omega
        have HCt2 := Lib.hid (fun (W' : World) (hW : Only [] W W') => HCt.out W' (hOW.trans hW))
        clear HCt HLk
        go_frame
        unfold evV at r3
        go_wp2_with fail
        have c0 := Within.cell (S := [w.heap.size]) (show W.cell? ⟨b, 0, none⟩ = some (.int .i64 (y.position + 1)) from r3.cell 0) (by simpa using hbg)
        have c1 := Within.cell (S := [w.heap.size]) (show W.cell? ⟨b, 1, none⟩ = some (.string ⟨#[36, 62]⟩) from r3.cell 1) (by simpa using hbg)
        have c2 := Within.cell (S := [w.heap.size]) (show W.cell? ⟨b, 2, none⟩ = some (.string d) from r3.cell 2) (by simpa using hbg)
        have c3 := Within.cell (S := [w.heap.size]) (show W.cell? ⟨b, 3, none⟩ = some (.float .f64 0) from r3.cell 3) (by simpa using hbg)
        refine wp_region_inv2 (C := fun W' => ∃ p : Within [w.heap.size] W, W' = p.W) [0, 1, 2, 5] [3, 4, 6, 7, 8, 9] (by kernel_rfl) (by kernel_rfl) (by intro c d u a w h; cases d <;> exact h) ⟨⟨_, (Only.refl _ _).drew⟩, rfl⟩ ?_
        show wpQuiet _ _ _ _ [_, _, _, _] _
        repeat (go_big_quiet_step (fail))
        refine wpQuiet_nil ?_
        clear c0 c1 c2 c3
        refine inv_intro_k (NyJ W w.heap.size n t (evV (y.position + 1) d)) ?_ ?_ ?_
        · refine ⟨undef, undef, undef, undef, .bool false, rfl, (Only.refl _ _).drew, fun _ => (Only.refl _ _).drew, ?_, ?_, ?_, ?_, ?_, ?_, ?_, ?_⟩
          all_goals (first | (intro q; exfalso; revert q; decide) | skip)
          exact ((Only.refl [] W).drew).blk hb4 (by simp)
        · intro i hi listed ac W' hr hI K HK
          obtain ⟨v36, v37, v39, v40, v5, hA⟩ := hI
          have hself := ready_self hr
          have hset := flag_set hself.2
          obtain ⟨rfl, hOg, hOg0, h3, h4, h6, h7, h8, h9, h86, h76⟩ := hA
          simp only [List.mem_cons, List.not_mem_nil, or_false] at hi
          unfold NyJ at HK
          have H3 := Lib.hid h3
          have H4 := Lib.hid h4
          have H6 := Lib.hid h6
          have H7 := Lib.hid h7
          have H8 := Lib.hid h8
          have H9 := Lib.hid h9
          have H86 := Lib.hid h86
          have H76 := Lib.hid h76
          have HO0 := Lib.hid hOg0
          have HSET := Lib.hid hset
          clear h3 h4 h6 h7 h8 h9 h86 h76 hset hOg0
          rcases hi with rfl | rfl | rfl | rfl | rfl | rfl
          · have L8 : Hid (listed.getD 8 false = false) := by
              unfold Hid
              cases q : listed.getD 8 false
              · rfl
              · have := (H86.out q).2
                rw [hself.1] at this
                cases this
            have hO0' := HO0.out L8.out
            have HC := Lib.hid (HCt2.out W' hO0')
            have hk := HK.out
            rw [HSET.out 3, HSET.out 4, HSET.out 6, HSET.out 7, HSET.out 8, HSET.out 9] at hk
            clear HK
            have HK := Lib.hid hk
            clear hk
            clear hself
            show wpList _ _ _ [_] _ _
            go_frame
            go_wp2_with (go_at_call 53; refine HC.out.mono ?_; rintro e W'' ⟨rfl, ho'⟩)
            refine check_of (S := [w.heap.size]) (hOg.trans ho'.of_nil) (HK.out _ _ ⟨_, v37, v39, v40, v5, rfl, hOg.trans ho'.of_nil, fun _ => hO0'.trans ho', fun _ => rfl, H4.out, fun q => ?_, H7.out, ho'.blk H8.out (by simp), H9.out, fun q => ⟨(H86.out q).1, rfl⟩, H76.out⟩)
            obtain ⟨b6, r4, r5, r6⟩ := H6.out q
            exact ⟨b6, r4, r5, ho'.blk r6 (by simp)⟩
          · have L3 := Lib.hid (ready_dep hr 3 (by kernel_rfl))
            obtain rfl := H3.out L3.out
            have hk := HK.out
            rw [HSET.out 3, HSET.out 4, HSET.out 6, HSET.out 7, HSET.out 8, HSET.out 9] at hk
            clear HK
            have HK := Lib.hid hk
            clear hk
            clear hself
            show wpList _ _ _ [_] _ _
            go_frame
            go_wp2_with fail
            exact check_of (S := [w.heap.size]) hOg (HK.out _ _ ⟨_, _, v39, v40, v5, rfl, hOg, HO0.out, fun _ => rfl, fun _ => rfl, H6.out, H7.out, H8.out, H9.out, H86.out, H76.out⟩)
          · have L8 : Hid (listed.getD 8 false = false) := by
              unfold Hid
              cases q : listed.getD 8 false
              · rfl
              · have := (H86.out q).1
                rw [hself.1] at this
                cases this
            have L7 : Hid (listed.getD 7 false = false) := by
              unfold Hid
              cases q : listed.getD 7 false
              · rfl
              · have := H76.out q
                rw [hself.1] at this
                cases this
            have hO0' := HO0.out L8.out
            have hzz := hO0'.size
            have ha := (Only.refl [] W').alloc (.cells (evV (y.position + 1) d) 24)
            have hbn := Blk.new W' 24 (evV (y.position + 1) d)
            have hh8 := ha.blk H8.out (by simp)
            have hk := HK.out
            rw [HSET.out 3, HSET.out 4, HSET.out 6, HSET.out 7, HSET.out 8, HSET.out 9] at hk
            clear HK
            have HK := Lib.hid hk
            clear hk
            clear hself
            rw [L8.out] at hh8
            have hh8 : Blk (W'.alloc (.cells (evV (y.position + 1) d) 24)) w.heap.size 40 cmd0 := hh8
            unfold evV at ha hbn hh8
            show wpList _ _ _ [_] _ _
            go_frame
            go_wp2_with fail
            refine check_of (S := [w.heap.size]) (hOg.trans ha.of_nil) (HK.out _ _ ⟨v36, v37, _, v40, v5, rfl, hOg.trans ha.of_nil, fun _ => hO0'.trans ha, H3.out, H4.out, fun _ => ⟨_, rfl, hzz, hbn⟩, fun q => ?_, ?_, H9.out, fun q => ?_, fun q => ?_⟩)
            · have q : listed.getD 7 false = true := q
              rw [L7.out] at q
              cases q
            · show Blk _ _ _ (if listed.getD 8 false = true then _ else _)
              rw [L8.out]
              exact hh8
            · have q : listed.getD 8 false = true := q
              rw [L8.out] at q
              cases q
            · rfl
          · have L4 := Lib.hid (ready_dep hr 4 (by kernel_rfl))
            have L6 := Lib.hid (ready_dep hr 6 (by kernel_rfl))
            obtain rfl := H4.out L4.out
            obtain ⟨b6, rfl, r4, r5⟩ := H6.out L6.out
            have hk := HK.out
            rw [HSET.out 3, HSET.out 4, HSET.out 6, HSET.out 7, HSET.out 8, HSET.out 9] at hk
            clear HK
            have HK := Lib.hid hk
            clear hk
            clear hself
            show wpList _ _ _ [_] _ _
            go_frame
            go_wp2_with fail
            exact check_of (S := [w.heap.size]) hOg (HK.out _ _ ⟨v36, _, _, _, v5, rfl, hOg, HO0.out, H3.out, fun _ => rfl, H6.out, fun _ => rfl, H8.out, H9.out, H86.out, fun _ => L6.out⟩)
          · have L7 := Lib.hid (ready_dep hr 7 (by kernel_rfl))
            have L3 := Lib.hid (ready_dep hr 3 (by kernel_rfl))
            have L6 := Lib.hid (H76.out L7.out)
            obtain rfl := H7.out L7.out
            obtain ⟨b6, rfl, r4, r5⟩ := H6.out L6.out
            have hb8 := H8.out
            rw [hself.1] at hb8
            have hb8 : Blk W' w.heap.size 40 cmd0 := hb8
            have hk := HK.out
            rw [HSET.out 3, HSET.out 4, HSET.out 6, HSET.out 7, HSET.out 8, HSET.out 9] at hk
            clear HK
            have HK := Lib.hid hk
            clear hk
            clear hself
            unfold cmd0 at hb8
            have d1 := fun i => hb8.cell i
            have d2 := fun i => hb8.free i
            have hOs := fun u1 u2 u3 u4 u5 u6 u7 u8 => ((((((((Only.refl [w.heap.size] W').setCell (p := ⟨w.heap.size, 0, none⟩) (.inl (by simp)) u1).setCell (p := ⟨w.heap.size, 1, none⟩) (.inl (by simp)) u2).setCell (p := ⟨w.heap.size, 2, none⟩) (.inl (by simp)) u3).setCell (p := ⟨w.heap.size, 3, none⟩) (.inl (by simp)) u4).setCell (p := ⟨w.heap.size, 4, none⟩) (.inl (by simp)) u5).setCell (p := ⟨w.heap.size, 5, none⟩) (.inl (by simp)) u6).setCell (p := ⟨w.heap.size, 6, none⟩) (.inl (by simp)) u7).setCell (p := ⟨w.heap.size, 7, none⟩) (.inl (by simp)) u8
            have hBs := fun u1 u2 u3 u4 u5 u6 u7 u8 => (((((((hb8.set 0 u1).set 1 u2).set 2 u3).set 3 u4).set 4 u5).set 5 u6).set 6 u7).set 7 u8
            have HOs := Lib.hid hOs
            have HBs := Lib.hid hBs
            have hne6 : b6 ∉ [w.heap.size] := by simp; omega
            clear hOs hBs
            show wpList _ _ _ [_] _ _
            go_frame
            unfold cmdV
            go_wp2_with fail
            exact check_of (S := [w.heap.size]) (hOg.trans (HOs.out _ _ _ _ _ _ _ _)) (HK.out _ _ ⟨v36, v37, _, _, v5, rfl, hOg.trans (HOs.out _ _ _ _ _ _ _ _), fun q => (by cases q), H3.out, H4.out, fun _ => ⟨b6, rfl, r4, (HOs.out _ _ _ _ _ _ _ _).blk r5 hne6⟩, fun _ => rfl, HBs.out _ _ _ _ _ _ _ _, H9.out, fun _ => ⟨L6.out, L3.out⟩, H76.out⟩)
          · have hk := HK.out
            rw [HSET.out 3, HSET.out 4, HSET.out 6, HSET.out 7, HSET.out 8, HSET.out 9] at hk
            clear HK
            have HK := Lib.hid hk
            clear hk
            clear hself
            show wpList _ _ _ [_] _ _
            go_frame
            go_wp2_with fail
            exact check_of (S := [w.heap.size]) hOg (HK.out _ _ ⟨v36, v37, v39, v40, _, rfl, hOg, HO0.out, H3.out, H4.out, H6.out, H7.out, H8.out, fun _ => rfl, H86.out, H76.out⟩)
        · intro listed ac W' hI hall
          obtain ⟨v36, v37, v39, v40, v5, hA⟩ := hI
          rw [hall 3 (by simp), hall 4 (by simp), hall 6 (by simp), hall 7 (by simp), hall 8 (by simp), hall 9 (by simp)] at hA
          obtain ⟨rfl, hOg, _, h3, h4, h6, h7, h8, h9, _, _⟩ := hA
          obtain rfl := h3 rfl
          obtain rfl := h4 rfl
          obtain ⟨b6, rfl, r4, r5⟩ := h6 rfl
          obtain rfl := h7 rfl
          obtain rfl := h9 rfl
          have h8 : Blk W' w.heap.size 40 (cmdV t ((n : Int) - 1) (.slice (some ⟨b6, 0, none⟩) 1 1)) := h8
          clear h3 h4 h6 h7 h9 hall
          go_frame
          have d1 := fun i => h8.cell i
          unfold cmdV at d1
          go_wp2_with fail
          refine bodyPost_ret (v := .tuple #[.agg #[.int .i64 1, .int .i64 0, .string t, .int .i64 ((n : Int) - 1), .slice (some ⟨b6, 0, none⟩) 1 1, .int .i64 0, .int .i64 0, .int .i64 0], .bool true]) (by simp [results, Tryz.results16, go_sem, d1]) rfl ⟨⟨b6, rfl, by omega, r5⟩, hO4.step hOg (fun g hg => .inr (by simp at hg; omega))⟩
end
end Go.Proofs.YtpcemipfanimgaaGreatDoor
/- Links, plain: a rising list made compact; all targets of a state. No program is named here. -/
set_option linter.unusedVariables false
set_option linter.unusedSimpArgs false
namespace Go.Proofs.YtpcemipfanimgaaGreatDoor
open Go.RowKit
abbrev BL := List UInt8
theorem bl_cases {a b : BL} (h : a ≤ b) : a < b ∨ a = b := by
  by_cases q : a = b
  · exact .inr q
  · refine .inl ?_
    apply Classical.byContradiction
    intro q2
    exact q (List.le_antisymm h (List.not_lt.1 q2))
/-- Of a rising list the compact one rises strictly, and has the same in it. -/
theorem compactUpTo_spec (d : Array BL) (hs : ∀ i j, i ≤ j → j < d.size → d[i]! ≤ d[j]!) : ∀ m, m + 1 ≤ d.size →
    (Lib.compactUpTo d (m + 1)).Pairwise (· < ·) ∧ (∀ x ∈ Lib.compactUpTo d (m + 1), x ≤ d[m]!) ∧ (∀ x, x ∈ Lib.compactUpTo d (m + 1) ↔ ∃ j, j < m + 1 ∧ d[j]! = x) := by
  intro m
  have hstep : ∀ q, Lib.compactUpTo d (q + 1) = Lib.compactUpTo d q ++ if Lib.keeps d q then [d[q]!] else [] := by
    intro q
    unfold Lib.compactUpTo
    rw [List.range_succ, List.filter_append, List.map_append]
    congr 1
    by_cases h : Lib.keeps d q <;> simp [h]
  induction m with
  | zero =>
    intro h
    have h0 : Lib.compactUpTo d 0 = [] := rfl
    rw [hstep, h0, Lib.keeps_lt_one d 0 (by omega)]
    refine ⟨by simp, by simp, fun x => ?_⟩
    simp only [List.nil_append, if_true, List.mem_singleton]
    constructor
    · rintro rfl; exact ⟨0, by omega, rfl⟩
    · rintro ⟨j, hj, rfl⟩
      have : j = 0 := by omega
      rw [this]
  | succ m ih =>
    intro h
    obtain ⟨i1, i2, i3⟩ := ih (by omega)
    have hle := hs m (m + 1) (by omega) (by omega)
    rw [hstep]
    rcases bl_cases hle with q | q
    · have hk : Lib.keeps d (m + 1) = true := Lib.keeps_pos (by
        show d[m + 1]! ≠ d[m + 1 - 1]!
        rw [Nat.add_sub_cancel]
        intro e
        rw [e] at q
        exact List.lt_irrefl _ q)
      rw [hk]
      refine ⟨?_, ?_, fun x => ?_⟩
      · rw [if_pos rfl, List.pairwise_append]
        refine ⟨i1, by simp, fun x hx y hy => ?_⟩
        rw [List.mem_singleton] at hy
        subst hy
        exact List.lt_of_le_of_lt (i2 x hx) q
      · intro x hx
        rcases List.mem_append.1 hx with hx | hx
        · exact List.le_of_lt (List.lt_of_le_of_lt (i2 x hx) q)
        · simp at hx
          rw [hx]
          exact List.le_refl _
      · rw [List.mem_append, i3]
        simp only [if_true, List.mem_singleton]
        constructor
        · rintro (⟨j, hj, rfl⟩ | rfl)
          · exact ⟨j, by omega, rfl⟩
          · exact ⟨m + 1, by omega, rfl⟩
        · rintro ⟨j, hj, rfl⟩
          by_cases e : j = m + 1
          · right; rw [e]
          · exact .inl ⟨j, by omega, rfl⟩
    · have hk : Lib.keeps d (m + 1) = false := Lib.keeps_neg (by omega) (by
        rw [Nat.add_sub_cancel]
        exact q.symm)
      rw [hk]
      simp only [Bool.false_eq_true, if_false, List.append_nil]
      refine ⟨i1, fun x hx => by rw [← q]; exact i2 x hx, fun x => ?_⟩
      rw [i3]
      constructor
      · rintro ⟨j, hj, rfl⟩; exact ⟨j, by omega, rfl⟩
      · rintro ⟨j, hj, rfl⟩
        by_cases e : j = m + 1
        · exact ⟨m, by omega, by rw [e]; exact q⟩
        · exact ⟨j, by omega, rfl⟩
def blsort (l : List BL) : List BL := l.mergeSort fun x y => decide (x ≤ y)
theorem blsort_rising (l : List BL) : (blsort l).Pairwise (· ≤ ·) := by
  have := List.pairwise_mergeSort (le := fun (x y : BL) => decide (x ≤ y)) (fun a b c h1 h2 => by
    simp only [decide_eq_true_eq] at *
    exact List.le_trans h1 h2) (fun a b => by
    simp only [Bool.or_eq_true, decide_eq_true_eq]
    exact List.le_total a b) l
  exact this.imp (fun h => by simpa using h)
theorem blsort_mem (l : List BL) (x : BL) : x ∈ blsort l ↔ x ∈ l := List.mem_mergeSort
theorem compact_spec (l : List BL) : (Lib.compact (blsort l)).Pairwise (· < ·) ∧ ∀ x, x ∈ Lib.compact (blsort l) ↔ x ∈ l := by
  have hr := blsort_rising l
  have hm := blsort_mem l
  obtain ⟨z, hz⟩ : ∃ z, z = blsort l := ⟨_, rfl⟩
  rw [← hz] at hr hm ⊢
  unfold Lib.compact
  have hg : ∀ i, i < z.length → z.toArray[i]! = z[i]! := fun i hi => by simp
  by_cases h0 : z.length = 0
  · have : z = [] := List.length_eq_zero_iff.1 h0
    subst this
    refine ⟨by simp [Lib.compactUpTo], fun x => ?_⟩
    rw [← hm]
    simp [Lib.compactUpTo]
  · obtain ⟨m, hm1⟩ : ∃ m, z.length = m + 1 := ⟨z.length - 1, by omega⟩
    obtain ⟨q1, q2, q3⟩ := compactUpTo_spec z.toArray (fun i j hij hj => by
      have hj : j < z.length := by simpa using hj
      rw [hg i (by omega), hg j hj, getElem!_pos z i (by omega), getElem!_pos z j hj]
      rcases Nat.lt_or_ge i j with q | q
      · rw [List.pairwise_iff_getElem] at hr
        exact hr i j (by omega) hj q
      · have : i = j := by omega
        subst this
        exact List.le_refl _) m (by simp; omega)
    rw [hm1]
    refine ⟨q1, fun x => ?_⟩
    rw [q3, ← hm, List.mem_iff_getElem]
    constructor
    · rintro ⟨j, hj, rfl⟩
      refine ⟨j, by omega, ?_⟩
      rw [hg j (by omega), getElem!_pos z j (by omega)]
    · rintro ⟨j, hj, rfl⟩
      refine ⟨j, by omega, ?_⟩
      rw [hg j (by omega), getElem!_pos z j (by omega)]
def targetsAll (s : MS) : List ByteArray := (Lib.compact (blsort ((s.all.flatMap targetsOf).map fun t => t.data.toList))).map ba
theorem targetsAll_mem (s : MS) (t : ByteArray) : t ∈ targetsAll s ↔ ∃ x ∈ s.all, wantsL t x = true := by
  unfold targetsAll
  rw [List.mem_map]
  constructor
  · rintro ⟨l, hl, rfl⟩
    rw [(compact_spec _).2, List.mem_map] at hl
    obtain ⟨t, ht, rfl⟩ := hl
    obtain ⟨x, hx, h2⟩ := List.mem_flatMap.1 ht
    exact ⟨x, hx, by rw [ba_bts, ← wants_eq]; exact wantsT_iff.2 h2⟩
  · rintro ⟨x, hx, h⟩
    rw [← wants_eq] at h
    refine ⟨t.data.toList, ?_, ba_bts t⟩
    rw [(compact_spec _).2, List.mem_map]
    exact ⟨t, List.mem_flatMap.2 ⟨x, hx, wantsT_iff.1 h⟩, rfl⟩
theorem targetsAll_rising (s : MS) : (targetsAll s).Pairwise (fun a b => a.data.toList < b.data.toList) := by
  unfold targetsAll
  rw [List.pairwise_map]
  refine (compact_spec _).1.imp fun {a b} h => ?_
  rw [bts_ba, bts_ba]
  exact h
theorem plain_some {s : MS} {t : ByteArray} (h : t ∈ targetsAll s) : 0 < (plainL t s.all).length := by
  obtain ⟨x, hx, hw⟩ := (targetsAll_mem s t).1 h
  exact List.length_pos_of_mem (List.mem_filter.2 ⟨hx, hw⟩)
end Go.Proofs.YtpcemipfanimgaaGreatDoor
/- Contracts: all targets of a state. -/
set_option linter.unusedVariables false
set_option linter.unusedSimpArgs false
namespace Go.Proofs.YtpcemipfanimgaaGreatDoor
open Go Go.RowKit Go.Sort Go.Lib Go.Shelf
theorem only_putRowG {α : Type} [Inhabited α] (enc : α → Value) (w : World) (g q : Nat) (d : Array α) : Only [g] w (putRow enc (Sort.ahead w q) g 0 d) :=
  ⟨rfl, rfl, rfl, by simp [putRow, mapBlock, Sort.ahead], fun k _ hk => by
    have : g ≠ k := by simp at hk; omega
    simp [putRow, mapBlock, Sort.ahead, Array.getElem?_modify, this]⟩
theorem strs_enc (l : List ByteArray) : strs l = (l.map fun s => s.data.toList).map encStr := by
  unfold strs
  rw [List.map_map]
  rfl
theorem strs_ba (l : List (List UInt8)) : strs (l.map ba) = l.map encStr := by
  unfold strs
  rw [List.map_map]
  rfl
section
variable {a w : World} {R E : List Nat} {sb mb N : Nat} {s : MS}
/-- Sort of a row of texts of one's own. -/
theorem sortS_any {w : World} {base : Nat} {A : Option Addr} {cap : Nat} {l : List ByteArray} (hown : w.ownsRow base 9 1 (.slice A l.length cap) l.length (strs l)) (hl : l.length ≤ 10000000) :
    Calls Tryz.prog 55 #[.slice A l.length cap] w fun e w' => e = .returned (.tuple #[]) ∧ w'.ownsRow base 9 1 (.slice A l.length cap) l.length ((blsort (l.map fun s => s.data.toList)).map encStr) ∧ ∃ S, Only S w w' ∧ ∀ g ∈ S, base ≤ g := by
  obtain ⟨ss, hss⟩ : ∃ ss, ss = l.map fun s => s.data.toList := ⟨_, rfl⟩
  have hlen : ss.length = l.length := by rw [hss, List.length_map]
  rw [strs_enc, ← hss, ← hlen] at hown
  rw [← hss, ← hlen]
  by_cases hv : (Value.slice A ss.length cap) = .slice none 0 0
  · injection hv with e1 e2 e3
    have h0 : ss = [] := List.length_eq_zero_iff.1 e2
    subst h0
    refine (Tryz.slices_Sort_string_none A cap w).mono ?_
    rintro e w' ⟨rfl, rfl⟩
    have hz : blsort [] = [] := List.length_eq_zero_iff.1 (by unfold blsort; simp)
    rw [hz]
    exact ⟨rfl, hown, [], Only.refl _ _, by simp⟩
  · obtain ⟨g, cap', e, hb, hg, hn, hm, hz, hH⟩ := holds_of_ownsRow (enc := encStr) (zs := ss) hown hv
    injection e with e1 e2 e3
    subst e1 e3
    refine (Tryz.slices_Sort_string g 0 cap ss w hH hg (by omega)).mono ?_
    rintro e w' ⟨rfl, n, os, rfl⟩
    have hr := ownsRow_putRow (enc := encStr) (q := n) (ys := blsort ss) (k := ss.length) hown (by unfold blsort; simp) (by omega)
    rw [List.take_of_length_le (by unfold blsort; simp)] at hr
    have hO := only_putRowG encStr w g n (blsort ss).toArray
    have hO2 : Only [g] w (grow (putRow encStr (Sort.ahead w n) g 0 (blsort ss).toArray) os) := hO.trans (Only.regrown [g] _ _ os)
    refine ⟨rfl, ?_, [g], hO2, by simpa using hb⟩
    exact own_only hr (Only.regrown [] _ _ os) (by simp)
theorem compactS_any {w : World} {base : Nat} {A : Option Addr} {cap : Nat} {zs : List (List UInt8)} (hown : w.ownsRow base 9 1 (.slice A zs.length cap) zs.length (zs.map encStr)) (hl : zs.length ≤ 10000000) :
    Calls Tryz.prog 56 #[.slice A zs.length cap] w fun e w' => ∃ v, e = .returned v ∧ w'.ownsRow base 9 1 v (Lib.compact zs).length ((Lib.compact zs).map encStr) ∧ ∃ S, Only S w w' ∧ ∀ g ∈ S, base ≤ g := by
  by_cases hv : (Value.slice A zs.length cap) = .slice none 0 0
  · injection hv with e1 e2 e3
    have h0 : zs = [] := List.length_eq_zero_iff.1 e2
    subst h0
    refine (Tryz.slices_Compact_string_empty A cap w).mono ?_
    rintro e w' ⟨rfl, rfl⟩
    exact ⟨_, rfl, hown, [], Only.refl _ _, by simp⟩
  · obtain ⟨g, cap', e, hb, hg, hn, hm, hz, hH⟩ := holds_of_ownsRow (enc := encStr) (zs := zs) hown hv
    injection e with e1 e2 e3
    subst e1 e3
    refine (Tryz.slices_Compact_string g 0 cap zs w hH (by omega) hn).mono ?_
    rintro e w' ⟨rfl, q, rfl⟩
    have hle : (Lib.compact zs).length ≤ zs.length := by
      unfold Lib.compact Lib.compactUpTo
      rw [List.length_map]
      exact Nat.le_trans (List.length_filter_le _ _) (by simp)
    have hr := ownsRow_putRow (enc := encStr) (q := q) (ys := Lib.compact zs ++ List.replicate (zs.length - (Lib.compact zs).length) []) (k := (Lib.compact zs).length) hown (by rw [List.length_append, List.length_replicate]; omega) hle
    rw [List.take_left] at hr
    exact ⟨_, rfl, hr, [g], only_putRowG encStr w g q _, by simpa using hb⟩
def targK (s : MS) (k : Nat) : List ByteArray := (s.all.take k).flatMap targetsOf
theorem targK_succ (s : MS) {k : Nat} (h : k < s.all.length) : targK s (k + 1) = targK s k ++ targetsOf s.all[k] := by
  unfold targK
  rw [List.take_succ_eq_append_getElem h, List.flatMap_append]
  simp
theorem targetsOf_few (x : StoredR) : (targetsOf x).length ≤ 2 := by
  unfold targetsOf
  split
  · simp
  · refine Nat.le_trans (List.length_filter_le _ _) ?_
    rw [List.length_append, List.length_map]
    cases cat x.stream <;> simp
theorem targK_few (s : MS) : ∀ k, k ≤ s.all.length → (targK s k).length ≤ 2 * k
  | 0, _ => by simp [targK]
  | k + 1, h => by
    rw [targK_succ s (by omega), List.length_append]
    have := targK_few s k (by omega)
    have := targetsOf_few s.all[k]
    omega
set_option maxRecDepth 100000 in
set_option maxHeartbeats 2000000 in
theorem targetsAll_any (h : HasS a w R E sb mb s N) (hN : N ≤ 100000) (hn : s.Neat) :
    Calls Tryz.prog 20 #[.pointer (some ⟨sb, 0, none⟩)] w fun e w' => ∃ v, e = .returned v ∧ w'.ownsRow w.heap.size 9 1 v (targetsAll s).length (strs (targetsAll s)) ∧ Only [] w w' := by
  have hlen : s.all.length ≤ 1000000 := by have := h.ok.all; omega
  have HE := Lib.hid (has_every h hN)
  have hsf := stF
  clear h
  go_enter Tryz.func20, Tryz.ntmps20
  go_wp2_with (go_at_call 22; refine HE.out.mono ?_; rintro e w1 ⟨v1, rfl, hown1, ho1⟩
               obtain ⟨A1, cap1, rfl, hnc1, hcm1, hel1⟩ := (Slc.of_own hown1).1.openE StoredR.cells (fun _ => rfl)
               unfold maxLen at hcm1)
  have hz1 := ho1.size
  go_loopw [3, 9] (fun o i wr => ∃ (k : Nat) (A : Option Addr) (cap : Nat), k ≤ s.all.length ∧ i = .int .i64 k ∧ o = .slice A (targK s k).length cap ∧ wr.ownsRow w1.heap.size 9 1 (.slice A (targK s k).length cap) (targK s k).length (strs (targK s k)) ∧ Only [] w1 wr) (fun _ i _ => s.all.length - (intOf i).toNat)
  case atStart => exact ⟨0, none, 0, Nat.zero_le _, rfl, rfl, World.ownsRow_nil _ _ _ _, Only.refl _ _⟩
  case round =>
    obtain ⟨k, A, cap, hk, rfl, rfl, hown, hO⟩ := hrel
    have hfew := targK_few s k hk
    by_cases hlt : k < s.all.length
    · obtain ⟨b, off, rfl, hbb, hcc⟩ := hel1 k hlt
      have hnx := targK_succ s hlt
      obtain ⟨x, hx⟩ : ∃ x, x = s.all[k] := ⟨_, rfl⟩
      have hxs := hn.sizes (x := x) (by rw [hx]; exact List.getElem_mem hlt)
      rw [← hx] at hcc hnx
      have c0 : wr.cell? ⟨b, off + k * 8, none⟩ = some (.int .i64 x.ev.id) := (hO.cell hbb (by simp)).trans (hcc 0 (by omega))
      have c1 : wr.cell? ⟨b, off + k * 8 + 1, none⟩ = some (.string x.ev.type) := (hO.cell hbb (by simp)).trans (hcc 1 (by omega))
      have c2 : wr.cell? ⟨b, off + k * 8 + 2, none⟩ = some (.string x.ev.data) := (hO.cell hbb (by simp)).trans (hcc 2 (by omega))
      have c3 : wr.cell? ⟨b, off + k * 8 + 3, none⟩ = some (.float .f64 x.ev.value) := (hO.cell hbb (by simp)).trans (hcc 3 (by omega))
      have c4 : wr.cell? ⟨b, off + k * 8 + 4, none⟩ = some (.string x.stream) := (hO.cell hbb (by simp)).trans (hcc 4 (by omega))
      have c5 : wr.cell? ⟨b, off + k * 8 + 5, none⟩ = some (.int .i64 x.version) := (hO.cell hbb (by simp)).trans (hcc 5 (by omega))
      have c6 : wr.cell? ⟨b, off + k * 8 + 6, none⟩ = some (.int .i64 x.position) := (hO.cell hbb (by simp)).trans (hcc 6 (by omega))
      have c7 : wr.cell? ⟨b, off + k * 8 + 7, none⟩ = some (.int .i64 x.time) := (hO.cell hbb (by simp)).trans (hcc 7 (by omega))
      have hfx := targetsOf_few x
      have HTx := Lib.hid (fun W => targets_any (w := W) x (by unfold maxLen; omega) (by omega))
      unfold StoredR.val at HTx
      obtain ⟨T, hTk⟩ : ∃ T, T = targetsOf x := ⟨_, rfl⟩
      obtain ⟨L, hL⟩ : ∃ L, L = targK s k := ⟨_, rfl⟩
      have HNX : Hid (targK s (k + 1) = L ++ T) := by unfold Hid; rw [hnx, hTk, hL]
      rw [← hTk] at HTx hfx
      rw [← hL] at hown hfew ⊢
      clear hcc hx hel1 hnx hTk hL HE
      go_wp2_with (first
        | (go_at_call 42; refine (HTx.out _).mono ?_; rintro e w2 ⟨v2, rfl, hown2, ho2⟩
           have hO2 : Only [] wr w2 := ((Only.refl [] wr).alloc _).trans ho2
           obtain ⟨A2, cap2, rfl, _, _⟩ := own_form hown2
           obtain ⟨A4, c4', w4, hr4, hown4, hO4, _⟩ := run_app (P := Tryz.prog) (w := w2) 51 51 w1.heap.size 9 (.string ⟨#[]⟩) 1 16 Tryz.underlying51 infoS rfl (by decide) (own_only hown hO2 (by simp)) (Slc.of_own hown2).1 (strs_one T) (by omega) (by unfold maxLen; omega) (Nat.le_trans hO.size hO2.size)
           have HR4 := Lib.hid hr4
           clear hr4)
        | (at_builtin; refine Lib.wpList_append_run _ rfl (.tmp 13) (.tmp 15) 51 51 rfl _ _ rfl rfl _ _ HR4.out ?_))
      have hb3 := fun g hg => (World.ownsRow.lt hown g hg).1
      have hO5 : Only [] w1 w4 := (hO.trans hO2).step hO4 (fun g hg => .inr (by have := hb3 g (by simpa using hg); omega))
      refine ⟨⟨k + 1, A4, c4', hlt, by simp, ?_, ?_, hO5⟩, by simp [intOf]; omega⟩
      · rw [HNX.out, List.length_append]
      · rw [HNX.out, List.length_append]
        simpa [strs] using hown4
    · have hkl : k = s.all.length := by omega
      subst hkl
      obtain ⟨L, hL⟩ : ∃ L, L = targK s s.all.length := ⟨_, rfl⟩
      rw [← hL] at hown hfew ⊢
      have hfin : Hid (targetsAll s = (Lib.compact (blsort (L.map fun s => s.data.toList))).map ba) := by
        unfold Hid targetsAll
        rw [hL]
        unfold targK
        rw [List.take_length]
      have HSo := Lib.hid (sortS_any hown (by omega))
      have hbl : (blsort (L.map fun s => s.data.toList)).length = L.length := by unfold blsort; simp
      obtain ⟨zs, hzs⟩ : ∃ zs, zs = blsort (L.map fun s => s.data.toList) := ⟨_, rfl⟩
      rw [← hzs] at HSo hbl hfin
      have hnil : L.length ≤ 10000000 := by omega
      clear hL hel1 HE hzs
      go_wp2_with (first
        | (go_at_call 55; refine HSo.out.mono ?_; rintro e w2 ⟨rfl, hown2, S2, hO2, hS2⟩
           rw [← hbl] at hown2
           have HCo := Lib.hid (compactS_any hown2 (by omega))
           rw [hbl] at HCo)
        | (go_at_call 56; refine HCo.out.mono ?_; rintro e w3 ⟨v3, rfl, hown3, S3, hO3, hS3⟩))
      go_ret
      rw [hfin.out, strs_ba, List.length_map]
      exact ⟨_, rfl, own_base hown3 hz1, ((ho1.trans hO).step hO2 (fun g hg => .inr (by have := hS2 g hg; omega))).step hO3 (fun g hg => .inr (by have := hS3 g hg; omega))⟩
end
end Go.Proofs.YtpcemipfanimgaaGreatDoor
/- alive of the laws of links: a first call whose answer is fixed. -/
set_option linter.unusedVariables false
set_option linter.unusedSimpArgs false
namespace Go.Proofs.YtpcemipfanimgaaGreatDoor
open Go Go.RowKit Go.Sort
def k25n : ByteArray := ⟨#[99, 97, 114, 116, 45, 49]⟩
def k25e : EventR := ⟨5, ⟨#[109, 97, 100, 101]⟩, ⟨#[]⟩, 0⟩
def k25c : Cmd := ⟨1, 0, k25n, -1, [k25e], MetaR.zero⟩
def k25S : MS := (MS.new.do k25c).2
def k25x : StoredR := ⟨k25e, k25n, 0, 0, 0⟩
def k25t : ByteArray := ⟨#[36, 99, 101, 45, 99, 97, 114, 116]⟩
def k25u : ByteArray := ⟨#[36, 101, 116, 45, 109, 97, 100, 101]⟩
def k25d : ByteArray := ⟨#[36, 99, 101, 45, 100, 111, 103]⟩
theorem k25_all : k25S.all = [k25x] := by kernel_rfl
theorem k25_want : k25S.wanted k25t = [k25x] := by kernel_rfl
theorem k25_next : k25S.nextC k25t = some (linkCmd k25t 0 k25x) := by kernel_rfl
theorem k25_none : k25S.nextC k25d = none := by kernel_rfl
theorem k25_tgt : targetsOf k25x = [k25t, k25u] := by kernel_rfl
theorem k25_data : linkData 0 k25n = ⟨#[48, 64, 99, 97, 114, 116, 45, 49]⟩ := by
  unfold linkData
  rw [show (0 : Int) = ((0 : Nat) : Int) from rfl, Lib.itoa_nonneg, dec_small (by decide)]
  rfl
theorem two_rising {l : List ByteArray} {a b : ByteArray} (hab : a.data.toList < b.data.toList) (hr : l.Pairwise (fun x y => x.data.toList < y.data.toList)) (hm : ∀ x, x ∈ l ↔ x = a ∨ x = b) : l = [a, b] := by
  have hne : a ≠ b := fun e => by rw [e] at hab; exact List.lt_irrefl _ hab
  cases l with
  | nil => exact absurd ((hm a).2 (.inl rfl)) (by simp)
  | cons x l =>
    rw [List.pairwise_cons] at hr
    have hx := (hm x).1 (by simp)
    have hxa : x = a := by
      rcases hx with h | h
      · exact h
      · have ha : a ∈ x :: l := (hm a).2 (.inl rfl)
        rcases List.mem_cons.1 ha with q | q
        · exact q.symm
        · have := hr.1 a q
          rw [h] at this
          exact absurd (List.lt_trans this hab) (List.lt_irrefl _)
    subst hxa
    have hb : b ∈ l := by
      rcases List.mem_cons.1 ((hm b).2 (.inr rfl)) with q | q
      · exact absurd q.symm hne
      · exact q
    cases l with
    | nil => cases hb
    | cons y l =>
      rw [List.pairwise_cons] at hr
      have hy : y = b := by
        rcases (hm y).1 (by simp) with q | q
        · have := hr.1 y (by simp)
          rw [q] at this
          exact absurd this (List.lt_irrefl _)
        · exact q
      subst hy
      cases l with
      | nil => rfl
      | cons z l =>
        have h1 := hr.1 z (by simp)
        have h2 := hr.2.1 z (by simp)
        rcases (hm z).1 (by simp) with q | q
        · rw [q] at h1
          exact absurd h1 (List.lt_irrefl _)
        · rw [q] at h2
          exact absurd h2 (List.lt_irrefl _)
theorem k25_targets : targetsAll k25S = [k25t, k25u] := by
  refine two_rising (by decide) (targetsAll_rising _) fun x => ?_
  rw [targetsAll_mem, k25_all]
  simp only [List.mem_singleton, exists_eq_left]
  rw [← wants_eq, wantsT_iff, k25_tgt]
  simp
theorem k25_ok : CmdOk k25c := ⟨by decide, fun e he => by simp [k25c] at he; subst he; decide⟩
theorem k25_neat : k25S.Neat := neat_do neat_new k25c
theorem k25_ev {a w : World} {e1 : Nat} (h : Blk w e1 24 #[.int .i64 5, .string ⟨#[109, 97, 100, 101]⟩, .string ⟨#[]⟩, .float .f64 0]) : EvIn a w [e1] (.slice (some ⟨e1, 0, none⟩) 1 1) k25c.events := ev_in (e := k25e) h (by simp)
theorem k25_do {a w : World} {R : List Nat} {e1 sb mb : Nat} (h : HasS a w R [e1] sb mb MS.new 0) (he : Blk w e1 24 #[.int .i64 5, .string ⟨#[109, 97, 100, 101]⟩, .string ⟨#[]⟩, .float .f64 0]) :
    Calls Tryz.prog 15 #[.pointer (some ⟨sb, 0, none⟩), .agg #[.int .i64 1, .int .i64 0, .string ⟨#[99, 97, 114, 116, 45, 49]⟩, .int .i64 (-1), .slice (some ⟨e1, 0, none⟩) 1 1, .int .i64 0, .int .i64 0, .int .i64 0]] w fun e w' => (∃ v, e = .returned v) ∧ HasS a w' R [e1] sb mb k25S 1 :=
  (has_do (c := k25c) h (by omega) k25_ok (k25_ev he)).mono fun e w' ⟨h1, h2, h3⟩ => ⟨⟨_, h1⟩, h2⟩
set_option maxRecDepth 100000 in
set_option maxHeartbeats 4000000 in
theorem alive25_any (w : World) (hT : Tab w) : Calls Tryz.prog 10 #[] w fun e w' => e = .returned (.bool true) ∧ Only [] w w' := by
  have hsf := stF
  have HTg := Lib.hid (fun (W : World) (R : List Nat) (E : List Nat) (h : HasS w W R E (w.heap.size + 1) w.heap.size k25S 1) => by
    have := targetsAll_any h (by omega) k25_neat
    rw [k25_targets] at this
    exact this)
  have HN1 := Lib.hid (fun (W : World) (R : List Nat) (E : List Nat) (h : HasS w W R E (w.heap.size + 1) w.heap.size k25S 1) => (show Calls Tryz.prog 16 #[.pointer (some ⟨w.heap.size + 1, 0, none⟩), .string ⟨#[36, 99, 101, 45, 99, 97, 114, 116]⟩] W fun e w' =>
      ∃ b, e = .returned (.tuple #[.agg #[.int .i64 1, .int .i64 0, .string ⟨#[36, 99, 101, 45, 99, 97, 114, 116]⟩, .int .i64 (-1), .slice (some ⟨b, 0, none⟩) 1 1, .int .i64 0, .int .i64 0, .int .i64 0], .bool true]) ∧ W.heap.size ≤ b ∧ Blk w' b 24 #[.int .i64 1, .string ⟨#[36, 62]⟩, .string ⟨#[48, 64, 99, 97, 114, 116, 45, 49]⟩, .float .f64 0] ∧ Only [] W w' from by
    have := next_any h (by omega) k25_neat (hT.only h.only) k25t (by unfold maxLen; decide)
    rw [k25_next] at this
    refine Calls.mono this ?_
    rintro e w' ⟨⟨b, h1, h2, ev, h3, h4⟩, h5⟩
    injection h3 with h3
    subst h3
    have h4 : Blk w' b 24 #[.int .i64 1, .string ⟨#[36, 62]⟩, .string (linkData 0 k25n), .float .f64 0] := h4
    rw [k25_data] at h4
    exact ⟨b, h1, h2, h4, h5⟩))
  have HN2 := Lib.hid (fun (W : World) (R : List Nat) (E : List Nat) (h : HasS w W R E (w.heap.size + 1) w.heap.size k25S 1) => (show Calls Tryz.prog 16 #[.pointer (some ⟨w.heap.size + 1, 0, none⟩), .string ⟨#[36, 99, 101, 45, 100, 111, 103]⟩] W fun e w' =>
      e = .returned (.tuple #[.agg #[.int .i64 0, .int .i64 0, .string ⟨#[]⟩, .int .i64 0, .slice none 0 0, .int .i64 0, .int .i64 0, .int .i64 0], .bool false]) ∧ Only [] W w' from by
    have := next_any h (by omega) k25_neat (hT.only h.only) k25d (by unfold maxLen; decide)
    rw [k25_none] at this
    exact this))
  have HLg := Lib.hid (fun (W : World) (R : List Nat) (E : List Nat) (h : HasS w W R E (w.heap.size + 1) w.heap.size k25S 1) => (show Calls Tryz.prog 18 #[.pointer (some ⟨w.heap.size + 1, 0, none⟩), .string ⟨#[36, 99, 101, 45, 99, 97, 114, 116]⟩] W fun e w' => e = .returned (.int .i64 1) ∧ Only [] W w' from by
    have := lags_any h (by omega) k25_neat k25t
    rw [k25_want] at this
    exact this))
  go_enter Tryz.func10, Tryz.ntmps10
  go_wp2_with (first
    | (go_at_call 14; refine (has_newS w w (Only.refl [] w) [] (by simp)).mono ?_; rintro e w1 ⟨rfl, h0, ho1⟩)
    | (go_at_call 40; refine (lput_any _ _ _ _ _ _).mono ?_; rintro e w2 ⟨rfl, ho2⟩
       have h1 := (h0.boxE (.cells #[.int .i64 5, .string ⟨#[109, 97, 100, 101]⟩, .string ⟨#[]⟩, .float .f64 0] 24)).keep ho2
       have hE0 := ho2.blk (Blk.new w1 24 #[.int .i64 5, .string ⟨#[109, 97, 100, 101]⟩, .string ⟨#[]⟩, .float .f64 0]) (by simp))
    | (go_at_call 15; refine (k25_do h1 hE0).mono ?_; rintro e w3 ⟨⟨v3, rfl⟩, h3⟩)
    | (go_at_call 20; refine (HTg.out _ _ _ h3).mono ?_; rintro e w4 ⟨v4, rfl, hown4, ho4⟩
       have h4 := h3.keep ho4
       obtain ⟨A4, cap4, rfl, hnc4, hcm4, hel4⟩ := (Slc.of_own hown4).1.openS
       unfold maxLen at hcm4
       obtain ⟨b4, off4, rfl, hb4, hc4⟩ := hel4 0 (by simp)
       have hc5 : w4.cell? ⟨b4, off4 + 1, none⟩ = some (.string k25u) := by
         obtain ⟨b', off', e, _, q⟩ := hel4 1 (by simp)
         cases e
         exact q
       unfold k25t at hc4
       unfold k25u at hc5)
    | (go_at_call 16; (have hh := HN1); clear HN1; refine (hh.out _ _ _ h4).mono ?_; clear hh; rintro e w5 ⟨b5, rfl, hb5, hE5, ho5⟩
       have h5 := h4.keep (ho5.alloc (.cells #[.int .i64 1, .int .i64 0, .string ⟨#[36, 99, 101, 45, 99, 97, 114, 116]⟩, .int .i64 (-1), .slice (some ⟨b5, 0, none⟩) 1 1, .int .i64 0, .int .i64 0, .int .i64 0] 40))
       have hC5 := Blk.new w5 40 #[.int .i64 1, .int .i64 0, .string ⟨#[36, 99, 101, 45, 99, 97, 114, 116]⟩, .int .i64 (-1), .slice (some ⟨b5, 0, none⟩) 1 1, .int .i64 0, .int .i64 0, .int .i64 0])
    | (go_at_call 16; refine (HN2.out _ _ _ h5).mono ?_; rintro e w6 ⟨rfl, ho6⟩
       have h6 := h5.keep (ho6.alloc (.cells #[.int .i64 0, .int .i64 0, .string ⟨#[]⟩, .int .i64 0, .slice none 0 0, .int .i64 0, .int .i64 0, .int .i64 0] 40))
       have hO6 : Only [] w5 (w6.alloc (.cells #[.int .i64 0, .int .i64 0, .string ⟨#[]⟩, .int .i64 0, .slice none 0 0, .int .i64 0, .int .i64 0, .int .i64 0] 40)) := (((Only.refl [] w5).alloc _).trans ho6).alloc _
       have hO46 : Only [] w4 (w6.alloc (.cells #[.int .i64 0, .int .i64 0, .string ⟨#[]⟩, .int .i64 0, .slice none 0 0, .int .i64 0, .int .i64 0, .int .i64 0] 40)) := ho5.trans hO6
       have d0 := (hO46.cell (p := ⟨b4, off4, none⟩) hb4 (by simp)).trans hc4
       have d1 := (hO46.cell (p := ⟨b4, off4 + 1, none⟩) hb4 (by simp)).trans hc5
       have d2 := fun i => (hO6.blk hE5 (by simp)).cell i
       have d3 := fun i => ((ho6.alloc (.cells #[.int .i64 0, .int .i64 0, .string ⟨#[]⟩, .int .i64 0, .slice none 0 0, .int .i64 0, .int .i64 0, .int .i64 0] 40)).blk hC5 (by simp)).cell i)
    | (go_at_call 18; refine (HLg.out _ _ _ h6).mono ?_; rintro e w7 ⟨rfl, ho7⟩))
  go_ret
  exact ⟨rfl, h6.only.trans ho7⟩
end Go.Proofs.YtpcemipfanimgaaGreatDoor
