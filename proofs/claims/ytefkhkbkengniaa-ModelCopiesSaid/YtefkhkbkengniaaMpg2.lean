/- Contracts: IndexFunc and DeleteFunc of stored events, by a closure that looks at a state. -/
import Derived.Test.YtefkhkbkengniaaMpg1
set_option linter.unusedVariables false
set_option linter.unusedSimpArgs false
namespace Go.Proofs.Ytefkhkbkengniaa
open Go.RowKit
/-- What is asked of the predicate: in every world in which only these blocks turned. -/
def Judges (S : List Nat) (w : World) (cv : Value) (p : StoredR → Bool) : Prop := ∀ W, Only S w W → ∀ x : StoredR,
  Calls Try.prog 58 #[.agg #[.int .i64 x.ev.id, .string x.ev.type, .string x.ev.data, .float .f64 x.ev.value, .string x.stream, .int .i64 x.version, .int .i64 x.position, .int .i64 x.time], cv] W fun e W' => e = .returned (.bool (p x)) ∧ Only [] W W'
set_option maxRecDepth 100000 in
set_option maxHeartbeats 1000000 in
theorem indexSt_any {w : World} {v : Value} {l : List StoredR} {p : StoredR → Bool} {cv : Value} (hl : Slc w 8 v l.length (l.flatMap StoredR.cells)) (hb : l.length ≤ 1000000) (HP : Judges [] w cv p) :
    Calls Try.prog 86 #[v, .func (.func 58) #[] #[cv]] w fun e w' => e = .returned (.int .i64 (idxP p l 0)) ∧ Only [] w w' := by
  obtain ⟨A, cap, rfl, hnc, hcm, hel⟩ := hl.openE StoredR.cells (fun _ => rfl)
  unfold maxLen at hcm
  obtain ⟨R, hR⟩ : ∃ R, R = idxP p l 0 := ⟨_, rfl⟩
  rw [← hR]
  have HR := Lib.hid hR
  have HJ := Lib.hid HP
  clear hR HP
  go_enter Try.func86, Try.ntmps86
  go_wp2
  go_loopw [5, 8] (fun _ i wr => ∃ k : Nat, k ≤ l.length ∧ i = .int .i64 k ∧ Hid (R = idxP p (l.drop k) k) ∧ Only [] w wr) (fun _ i _ => l.length - (intOf i).toNat)
  case atStart => exact ⟨0, Nat.zero_le _, rfl, HR, Only.refl _ _⟩
  case round =>
    obtain ⟨k, hk, rfl, hT, hO⟩ := hrel
    by_cases hlt : k < l.length
    · obtain ⟨b, off, rfl, hbb, hcc⟩ := hel k hlt
      have hd := idxP_drop p l k hlt k
      obtain ⟨s, hs⟩ : ∃ s, s = l[k] := ⟨_, rfl⟩
      rw [← hs] at hcc hd
      have c0 : wr.cell? ⟨b, off + k * 8, none⟩ = some (.int .i64 s.ev.id) := (hO.cell hbb (by simp)).trans (hcc 0 (by omega))
      have c1 : wr.cell? ⟨b, off + k * 8 + 1, none⟩ = some (.string s.ev.type) := (hO.cell hbb (by simp)).trans (hcc 1 (by omega))
      have c2 : wr.cell? ⟨b, off + k * 8 + 2, none⟩ = some (.string s.ev.data) := (hO.cell hbb (by simp)).trans (hcc 2 (by omega))
      have c3 : wr.cell? ⟨b, off + k * 8 + 3, none⟩ = some (.float .f64 s.ev.value) := (hO.cell hbb (by simp)).trans (hcc 3 (by omega))
      have c4 : wr.cell? ⟨b, off + k * 8 + 4, none⟩ = some (.string s.stream) := (hO.cell hbb (by simp)).trans (hcc 4 (by omega))
      have c5 : wr.cell? ⟨b, off + k * 8 + 5, none⟩ = some (.int .i64 s.version) := (hO.cell hbb (by simp)).trans (hcc 5 (by omega))
      have c6 : wr.cell? ⟨b, off + k * 8 + 6, none⟩ = some (.int .i64 s.position) := (hO.cell hbb (by simp)).trans (hcc 6 (by omega))
      have c7 : wr.cell? ⟨b, off + k * 8 + 7, none⟩ = some (.int .i64 s.time) := (hO.cell hbb (by simp)).trans (hcc 7 (by omega))
      have hcall := HJ.out wr hO s
      have hsf := stF
      clear hcc hs hel
      cases hq : p s with
      | true =>
        rw [hq] at hcall hd
        have HN : Hid (R = k) := by unfold Hid; rw [hT.out, hd]; rfl
        have HC := Lib.hid hcall
        clear hcall hd hq hT
        go_wp2_with (go_at_call 58; refine HC.out.mono ?_; rintro e w1 ⟨rfl, ho1⟩)
        go_ret
        exact ⟨by rw [HN.out]; rfl, hO.trans ho1⟩
      | false =>
        rw [hq] at hcall hd
        have HN : Hid (R = idxP p (l.drop (k + 1)) ((k + 1 : Nat) : Int)) := by
          unfold Hid
          rw [hT.out, hd]
          simp
        have HC := Lib.hid hcall
        clear hcall hd hq hT
        go_wp2_with (go_at_call 58; refine HC.out.mono ?_; rintro e w1 ⟨rfl, ho1⟩)
        exact ⟨⟨k + 1, hlt, by simp, HN, hO.trans ho1⟩, by simp [intOf]; omega⟩
    · have HN : Hid (R = -1) := by unfold Hid; rw [hT.out, List.drop_of_length_le (by omega)]; rfl
      clear hel
      go_wp2
      go_ret
      exact ⟨by rw [HN.out]; rfl, hO⟩
theorem zeroStV (w : World) : (zeroValue 48).run Try.prog w = .ok (.agg #[.int .i64 0, .string ⟨#[]⟩, .string ⟨#[]⟩, .float .f64 0, .string ⟨#[]⟩, .int .i64 0, .int .i64 0, .int .i64 0]) w := by kernel_rfl
theorem sizeStV (w : World) : (Go.sizeOf 48).run Try.prog w = .ok 8 w := by kernel_rfl
theorem zeroSt : (∀ v ∈ (Value.agg #[.int .i64 0, .string ⟨#[]⟩, .string ⟨#[]⟩, .float .f64 0, .string ⟨#[]⟩, .int .i64 0, .int .i64 0, .int .i64 0]).cells.toList, v.oneCell' = true) ∧ (Value.agg #[.int .i64 0, .string ⟨#[]⟩, .string ⟨#[]⟩, .float .f64 0, .string ⟨#[]⟩, .int .i64 0, .int .i64 0, .int .i64 0]).cells.size = 8 := by
  constructor
  · simp [Value.cells, Value.oneCell']
  · rfl
set_option maxRecDepth 100000 in
set_option maxHeartbeats 2000000 in
theorem deleteSt_any {w : World} {base : Nat} {v : Value} {l : List StoredR} {p : StoredR → Bool} {cv : Value} (hl : w.ownsRow base 48 8 v l.length (l.flatMap StoredR.cells)) (hb : l.length ≤ 1000000) (HP : Judges v.ownBlock.toList w cv p) :
    Calls Try.prog 57 #[v, .func (.func 58) #[] #[cv]] w fun e w' => ∃ v', e = .returned v' ∧ w'.ownsRow base 48 8 v' (l.filter (fun x => !p x)).length ((l.filter (fun x => !p x)).flatMap StoredR.cells) ∧ Only v.ownBlock.toList w w' := by
  have hix := indexSt_any (Slc.of_own hl).1 hb (p := p) (cv := cv) (fun W hW => HP W hW.of_nil)
  obtain ⟨j0, hj, hy0, hy1, hy2⟩ := info_parts infoSt
  have hsp := idxP_spec p l 0
  rcases hsp with ⟨e1, e2⟩ | ⟨k0, hk0, e1, ht, e2⟩
  · rw [e1] at hix
    rw [e2]
    obtain ⟨A, cap, rfl, _, _⟩ := own_form hl
    have HI := Lib.hid hix
    clear hix e1 e2
    go_enter Try.func57, Try.ntmps57
    go_wp2_with (go_at_call 86; refine HI.out.mono ?_; rintro e w1 ⟨rfl, ho1⟩)
    go_ret
    exact ⟨_, rfl, own_only hl ho1 (by simp), ho1.of_nil⟩
  · rw [e1, Int.zero_add] at hix
    rcases own_blk hl with ⟨rfl, rfl⟩ | ⟨g, cap, cs0, rest, rfl, hbg, hB0, hnc, hcm, hsz, hcs0⟩
    · exact absurd hk0 (Nat.not_lt_zero _)
    have hne : ((k0 : Int) == -1) = false := beq_eq_false_iff_ne.2 (by omega)
    have HI := Lib.hid hix
    have HJ := Lib.hid HP
    have hK0 := KeptAt.start (p := p) hk0 e2
    unfold maxLen at hcm
    obtain ⟨f, hf⟩ : ∃ f, f = l.filter (fun x => !p x) := ⟨_, rfl⟩
    rw [← hf]
    have HF := Lib.hid hf
    clear hix HP e1 e2 ht hf
    go_enter Try.func57, Try.ntmps57
    go_wp2_with (go_at_call 86; refine HI.out.mono ?_; rintro e w1 ⟨rfl, ho1⟩)
    go_loopw [5, 6, 7] (fun s5 s6 _ wr => ∃ (i j : Nat) (ys : List StoredR) (cs : Array Value), s5 = .int .i64 i ∧ s6 = .int .i64 j ∧ KeptAt p l ys i j ∧ Blk wr g 48 cs ∧ cs.toList = ys.flatMap StoredR.cells ++ rest ∧ Only [g] w wr) (fun _ j _ _ => l.length - (intOf j).toNat)
    case atStart => exact ⟨k0, k0 + 1, l, cs0, rfl, by simp, hK0, ho1.blk hB0 (by simp), hcs0, ho1.of_nil⟩
    case round =>
      obtain ⟨i, j, ys, cs, rfl, rfl, hK, hB, hcs, hO⟩ := hrel
      have hij := hK.lt
      have hjl := hK.le
      have hyl := hK.len
      have hcl : ∀ q, (cs.toList).length = q → q = cap * 8 := by
        intro q hq
        have h1 := flat_len StoredR.cells 8 ys (fun _ _ => rfl)
        have h2 := flat_len StoredR.cells 8 l (fun _ _ => rfl)
        have h3 : cs0.toList.length = cap * 8 := by simpa using hsz
        rw [hcs0] at h3
        rw [hcs] at hq
        simp only [List.length_append] at h3 hq
        omega
      have hcsz : cs.size = cap * 8 := hcl _ (by simp)
      by_cases hlt : j < l.length
      · obtain ⟨hjy, hyj⟩ := hK.get hlt
        have hskip := hK.skip hlt
        have hkeep := hK.keep hlt
        obtain ⟨s, hs⟩ : ∃ s, s = l[j] := ⟨_, rfl⟩
        rw [← hs] at hyj hskip hkeep
        have c0 : wr.cell? ⟨g, j * 8, none⟩ = some (.int .i64 s.ev.id) := (blk_elem hB hcs hjy (r := 0) (by omega)).trans (by rw [hyj]; rfl)
        have c1 : wr.cell? ⟨g, j * 8 + 1, none⟩ = some (.string s.ev.type) := (blk_elem hB hcs hjy (by omega)).trans (by rw [hyj]; rfl)
        have c2 : wr.cell? ⟨g, j * 8 + 2, none⟩ = some (.string s.ev.data) := (blk_elem hB hcs hjy (by omega)).trans (by rw [hyj]; rfl)
        have c3 : wr.cell? ⟨g, j * 8 + 3, none⟩ = some (.float .f64 s.ev.value) := (blk_elem hB hcs hjy (by omega)).trans (by rw [hyj]; rfl)
        have c4 : wr.cell? ⟨g, j * 8 + 4, none⟩ = some (.string s.stream) := (blk_elem hB hcs hjy (by omega)).trans (by rw [hyj]; rfl)
        have c5 : wr.cell? ⟨g, j * 8 + 5, none⟩ = some (.int .i64 s.version) := (blk_elem hB hcs hjy (by omega)).trans (by rw [hyj]; rfl)
        have c6 : wr.cell? ⟨g, j * 8 + 6, none⟩ = some (.int .i64 s.position) := (blk_elem hB hcs hjy (by omega)).trans (by rw [hyj]; rfl)
        have c7 : wr.cell? ⟨g, j * 8 + 7, none⟩ = some (.int .i64 s.time) := (blk_elem hB hcs hjy (by omega)).trans (by rw [hyj]; rfl)
        have hcall := fun (W : World) (hW : Only [g] w W) => HJ.out W (hW.mono (by simp [Value.ownBlock])) s
        have hsf := stF
        clear hs hyj
        cases hq : p s with
        | true =>
          rw [hq] at hcall
          have HC := Lib.hid hcall
          have HK := Lib.hid (hskip hq)
          clear hcall hskip hkeep hK hq
          go_wp2_with (go_at_call 58; refine (HC.out _ (hO.alloc _)).mono ?_; rintro e w2 ⟨rfl, ho2⟩)
          have hB2 := ho2.blk (((Only.refl [] _).alloc _).blk hB (by simp)) (by simp)
          exact ⟨⟨i, j + 1, ys, cs, rfl, by simp, HK.out, hB2, hcs, (hO.alloc _).trans ho2.of_nil⟩, by simp [intOf]; omega⟩
        | false =>
          rw [hq] at hcall
          have HC := Lib.hid hcall
          have HK := Lib.hid (hkeep hq)
          clear hcall hskip hkeep hK hq
          have hiy : i < ys.length := by omega
          have hset := fun (W : World) (hW : Blk W g 48 cs) => blk_set8 hW hcs hiy s
          have HSet := Lib.hid hset
          obtain ⟨o, ho⟩ : ∃ o, o = ys[i] := ⟨_, rfl⟩
          have HO := Lib.hid ho
          clear hset ho
          go_wp2_with (go_at_call 58; refine (HC.out _ (hO.alloc _)).mono ?_; rintro e w2 ⟨rfl, ho2⟩
                       have hB2 := ho2.blk (((Only.refl [] _).alloc _).blk hB (by simp)) (by simp)
                       have hX2 := ho2.blk (Blk.new wr 48 _) (by simp)
                       have e0 : w2.cell? ⟨g, i * 8, none⟩ = some (.int .i64 o.ev.id) := (blk_elem hB2 hcs hiy (r := 0) (by omega)).trans (by rw [← HO.out]; rfl)
                       have e1 : w2.cell? ⟨g, i * 8 + 1, none⟩ = some (.string o.ev.type) := (blk_elem hB2 hcs hiy (by omega)).trans (by rw [← HO.out]; rfl)
                       have e2 : w2.cell? ⟨g, i * 8 + 2, none⟩ = some (.string o.ev.data) := (blk_elem hB2 hcs hiy (by omega)).trans (by rw [← HO.out]; rfl)
                       have e3 : w2.cell? ⟨g, i * 8 + 3, none⟩ = some (.float .f64 o.ev.value) := (blk_elem hB2 hcs hiy (by omega)).trans (by rw [← HO.out]; rfl)
                       have e4 : w2.cell? ⟨g, i * 8 + 4, none⟩ = some (.string o.stream) := (blk_elem hB2 hcs hiy (by omega)).trans (by rw [← HO.out]; rfl)
                       have e5 : w2.cell? ⟨g, i * 8 + 5, none⟩ = some (.int .i64 o.version) := (blk_elem hB2 hcs hiy (by omega)).trans (by rw [← HO.out]; rfl)
                       have e6 : w2.cell? ⟨g, i * 8 + 6, none⟩ = some (.int .i64 o.position) := (blk_elem hB2 hcs hiy (by omega)).trans (by rw [← HO.out]; rfl)
                       have e7 : w2.cell? ⟨g, i * 8 + 7, none⟩ = some (.int .i64 o.time) := (blk_elem hB2 hcs hiy (by omega)).trans (by rw [← HO.out]; rfl)
                       have d2 := fun i => hB2.free i
                       have d3 := fun i => hX2.cell i)
          obtain ⟨cs2, hb2, hc2⟩ := HSet.out w2 hB2
          refine ⟨⟨i + 1, j + 1, ys.set i s, cs2, by simp, by simp, HK.out, hb2, hc2, ?hw⟩, by simp [intOf]; omega⟩
          case hw =>
            iterate 8 (refine Only.setCell ?_ (.inl (by simp)) _)
            exact (hO.alloc _).trans ho2.of_nil
      · have hje : j = l.length := by omega
        have hfin : (l.filter (fun x => !p x)) = ys.take i := by
          rw [hK.done, hje, List.take_length]
        have hfl : (ys.take i).length = i := by simp; omega
        have hclr : ∀ ty, (Builtin.clear_ #[45] ty #[.slice (some ⟨g, i * 8, none⟩) (l.length - i) (cap - i)]).run Try.prog wr = .ok (.tuple #[]) (wr.setCells g (i * 8) (Builtin.zeroCells (Value.agg #[.int .i64 0, .string ⟨#[]⟩, .string ⟨#[]⟩, .float .f64 0, .string ⟨#[]⟩, .int .i64 0, .int .i64 0, .int .i64 0]).cells (l.length - i)).toList) := fun ty =>
          run_clearK wr 45 48 ty _ Try.underlying45 zeroStV zeroSt.1 8 zeroSt.2 g (i * 8) _ _ (by omega) (fun q hq => by
            rw [hB.cell, Array.getElem?_eq_getElem (by omega)]
            rfl) (fun q hq => hB.free _)
        obtain ⟨cs2, hb2, hs2, hg2⟩ := hB.sets (Builtin.zeroCells (Value.agg #[.int .i64 0, .string ⟨#[]⟩, .string ⟨#[]⟩, .float .f64 0, .string ⟨#[]⟩, .int .i64 0, .int .i64 0, .int .i64 0]).cells (l.length - i)).toList (i * 8)
        have hfrm := HF.out
        rw [hfin] at hfrm
        have htk : cs2.toList.take ((ys.take i).length * 8) = (ys.take i).flatMap StoredR.cells := by
          rw [hfl, ← flat_take]
          apply List.ext_getElem?
          intro q
          by_cases hq : q < i * 8
          · have h1 := flat_len StoredR.cells 8 ys (fun _ _ => rfl)
            rw [List.getElem?_take_of_lt hq, List.getElem?_take_of_lt hq, Array.getElem?_toList, hg2 q hq, ← Array.getElem?_toList, hcs, List.getElem?_append_left (by omega)]
          · rw [List.getElem?_eq_none (by simp; omega), List.getElem?_eq_none (by simp; omega)]
        have hown : (wr.setCells g (i * 8) (Builtin.zeroCells (Value.agg #[.int .i64 0, .string ⟨#[]⟩, .string ⟨#[]⟩, .float .f64 0, .string ⟨#[]⟩, .int .i64 0, .int .i64 0, .int .i64 0]).cells (l.length - i)).toList).ownsRow base 48 8 (.slice (some ⟨g, 0, none⟩) i cap) f.length (f.flatMap StoredR.cells) := by
          have := blk_own (xs := ys.take i) (cap := cap) hbg hb2 (by omega) (by unfold maxLen; omega) (by omega) htk
          rw [hfl] at this
          rw [hfrm, hfl]
          exact this
        have hend : Only [g] w (wr.setCells g (i * 8) (Builtin.zeroCells (Value.agg #[.int .i64 0, .string ⟨#[]⟩, .string ⟨#[]⟩, .float .f64 0, .string ⟨#[]⟩, .int .i64 0, .int .i64 0, .int .i64 0]).cells (l.length - i)).toList) := hO.setCells (.inl (by simp)) _ _
        obtain ⟨WE, hWE⟩ : ∃ WE, WE = wr.setCells g (i * 8) (Builtin.zeroCells (Value.agg #[.int .i64 0, .string ⟨#[]⟩, .string ⟨#[]⟩, .float .f64 0, .string ⟨#[]⟩, .int .i64 0, .int .i64 0, .int .i64 0]).cells (l.length - i)).toList := ⟨_, rfl⟩
        rw [← hWE] at hclr hown hend
        clear hWE hfrm htk hg2 hs2 hb2 hfin hB hcs hK HF
        go_wp2
        go_ret
        exact ⟨_, rfl, hown, hend⟩
end Go.Proofs.Ytefkhkbkengniaa
