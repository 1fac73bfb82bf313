/- Contracts: insert, remove; none, is, open, Join, New. -/
import Derived.Test.YthjgplgfcbhihaaGc1
import Derived.Test.YthjgplgfcbhihaaPlan3
import Derived.Test.YthjgplgfcbhihaaRegion
set_option linter.unusedVariables false
set_option linter.unusedSimpArgs false
namespace Go.Proofs.Ythjgplgfcbhihaa
open Go.RowKit Go Go.Sort
theorem infoI : (Try.prog.info? 3).map (fun i => (i.zero, i.size, i.bytes)) = some (some (.int .i64 0), 1, 8) := by kernel_rfl
theorem sizeIV (w : World) : (Go.sizeOf 3).run Try.prog w = .ok 1 w := by kernel_rfl
set_option maxRecDepth 100000 in
theorem insert_any {w : World} {v : Value} {xs : List Int} (h : Own w v xs) (hr : Ris xs) (hb : xs.length ≤ 1000000000) (n : Int) :
    Calls Try.prog 35 #[v, .int .i64 n] w fun e w' => ∃ v', e = .returned v' ∧ RowTo w v w' v' (insL xs n) := by
  have hB := bsearch_any h.slc hr hb n
  have hlb := lb_le xs n
  obtain ⟨A, cap, rfl, _, _⟩ := own_form h
  cases hc : xs.contains n with
  | true =>
    have hR : insL xs n = xs := by unfold insL; rw [if_pos hc]
    rw [hR]
    rw [hc] at hB
    have HB := Lib.hid hB
    clear hB hc hR
    go_enter Try.func35, Try.ntmps35
    go_wp2_with (go_at_call 48; refine HB.out.mono ?_; rintro e w1 ⟨rfl, ho1⟩)
    go_ret
    exact ⟨_, rfl, RowTo.same h ho1⟩
  | false =>
    have hR : insL xs n = xs.take (lb xs n) ++ n :: xs.drop (lb xs n) := by unfold insL; rw [hc]; rfl
    rw [hR]
    rw [hc] at hB
    obtain ⟨i, hi⟩ : ∃ i, i = lb xs n := ⟨_, rfl⟩
    rw [← hi] at hB hlb ⊢
    have HB := Lib.hid hB
    have hlt := h.lt
    clear hB hc hR hi
    go_enter Try.func35, Try.ntmps35
    go_wp2_with (first
      | (go_at_call 48; refine HB.out.mono ?_; rintro e w1 ⟨rfl, ho1⟩)
      | (go_at_call 49; refine (insertI_any ((h.only0 ho1).only0 ((Only.refl [] w1).alloc _)) hb hlb (Blk.new w1 3 _) (fun g hg => by have := hlt g hg; have := ho1.size; omega)).mono ?_; rintro e w2 ⟨v2, rfl, ho2⟩))
    go_ret
    exact ⟨_, rfl, RowTo.first0 (ho1.alloc _) ho2⟩
set_option maxRecDepth 100000 in
theorem remove_any {w : World} {v : Value} {xs : List Int} (h : Own w v xs) (hr : Ris xs) (hb : xs.length ≤ 1000000000) (n : Int) :
    Calls Try.prog 50 #[v, .int .i64 n] w fun e w' => ∃ v', e = .returned (.tuple #[v', .bool (xs.contains n)]) ∧ RowTo w v w' v' (remL xs n) := by
  have hB := bsearch_any h.slc hr hb n
  have hf := lb_found (n := n) hr
  obtain ⟨A, cap, rfl, _, _⟩ := own_form h
  cases hc : xs.contains n with
  | false =>
    have hR : remL xs n = xs := by unfold remL; rw [hc]; rfl
    rw [hR]
    rw [hc] at hB
    have HB := Lib.hid hB
    clear hB hc hR
    go_enter Try.func50, Try.ntmps50
    go_wp2_with (go_at_call 48; refine HB.out.mono ?_; rintro e w1 ⟨rfl, ho1⟩)
    go_ret2
    exact ⟨_, rfl, RowTo.same h ho1⟩
  | true =>
    have hR : remL xs n = xs.take (lb xs n) ++ xs.drop (lb xs n + 1) := by unfold remL; rw [if_pos hc]
    have hlt : lb xs n < xs.length := (List.getElem?_eq_some_iff.1 (hf hc)).1
    rw [hR]
    rw [hc] at hB
    obtain ⟨i, hi⟩ : ∃ i, i = lb xs n := ⟨_, rfl⟩
    rw [← hi] at hB hlt ⊢
    have HB := Lib.hid hB
    have hD := fun (W : World) (hW : Only [] w W) => deleteI_any (h.only0 hW) hb hlt
    obtain ⟨ys, hys⟩ : ∃ ys, ys = xs.take i ++ xs.drop (i + 1) := ⟨_, rfl⟩
    rw [← hys] at hD ⊢
    rw [Int.natCast_add, show ((1 : Nat) : Int) = 1 from rfl] at hD
    have HD := Lib.hid hD
    clear hB hc hR hi hf hD hys
    go_enter Try.func50, Try.ntmps50
    go_wp2_with (first
      | (go_at_call 48; refine HB.out.mono ?_; rintro e w1 ⟨rfl, ho1⟩)
      | (go_at_call 34; refine (HD.out _ ho1).mono ?_; rintro e w2 ⟨v2, rfl, ho2⟩; obtain ⟨A2, cap2, rfl, _, _⟩ := own_form ho2.own))
    go_ret2
    exact ⟨_, rfl, RowTo.first0 ho1 ho2⟩
section
variable {w : World} {gb fb tb : Nat} {vw vp va vs : Value} {pf : ByteArray → Value} {g : GS}
set_option maxRecDepth 100000 in
theorem none_any (h : GAt w gb fb tb vw vp va vs pf g) : Calls Try.prog 29 #[.pointer (some ⟨gb, 0, none⟩)] w fun e w' => e = .returned (.bool false) ∧ w = w' := by
  have c5 : w.cell? ⟨gb, 5, none⟩ = some (.map (some fb)) := h.blk.cell 5
  have hne := fun w => run_eql_map_nil (P := Try.prog) w 50 _ _ (some fb) Try.underlying50
  clear h
  go_enter Try.func29, Try.ntmps29
  go_wp2
  go_ret
  exact ⟨rfl, rfl⟩
set_option maxRecDepth 100000 in
theorem noneN_any (w : World) : Calls Try.prog 29 #[.pointer none] w fun e w' => e = .returned (.bool true) ∧ w = w' := by
  go_enter Try.func29, Try.ntmps29
  go_wp2
  go_ret
  exact ⟨rfl, rfl⟩
theorem zeroInts (w : World) : (zeroValue 22).run Try.prog w = .ok (.slice none 0 0) w := by kernel_rfl
theorem zeroInt (w : World) : (zeroValue 3).run Try.prog w = .ok (.int .i64 0) w := by kernel_rfl
theorem flightIs (g : GS) (pf : ByteArray → Value) (who : ByteArray) : (aget (g.flight.map fun p => (p.1, pf p.1)) who).isSome = g.is who := by
  rw [aget_mapk (fun k _ => pf k)]
  unfold GS.is
  cases aget g.flight who <;> rfl
set_option maxRecDepth 100000 in
theorem is_any (h : GAt w gb fb tb vw vp va vs pf g) (who : ByteArray) : Calls Try.prog 30 #[.pointer (some ⟨gb, 0, none⟩), .string who] w fun e w' => e = .returned (.bool (g.is who)) ∧ w = w' := by
  have c5 : w.cell? ⟨gb, 5, none⟩ = some (.map (some fb)) := h.blk.cell 5
  have HN := Lib.hid (none_any h)
  have HI := Lib.hid (flightIs g pf who)
  go_enter Try.func30, Try.ntmps30
  go_wp2_with (first
    | (go_at_call 29; refine HN.out.mono ?_; rintro e w1 ⟨rfl, rfl⟩)
    | (refine wpList_lookup_ok_is rfl 50 rfl keyEnc_string Try.underlying50 Try.underlying9 (zeroInts _) who rfl rfl h.flight _ _ rfl HI.out ?_))
  go_ret
  exact ⟨rfl, rfl⟩
theorem isN_any (who : ByteArray) (w : World) : Calls Try.prog 30 #[.pointer none, .string who] w fun e w' => e = .returned (.bool false) ∧ w = w' := by
  go_enter Try.func30, Try.ntmps30
  go_wp2_with (go_at_call 29; refine (noneN_any _).mono ?_; rintro e w1 ⟨rfl, rfl⟩)
  go_ret
  exact ⟨rfl, rfl⟩
/-- The row of somebody's flight: nil, where he isn't there. -/
def fv (pf : ByteArray → Value) (g : GS) (who : ByteArray) : Value := if g.is who then pf who else .slice none 0 0
theorem flightOf (g : GS) (pf : ByteArray → Value) (who : ByteArray) : (aget (g.flight.map fun p => (p.1, pf p.1)) who).getD (.slice none 0 0) = fv pf g who := by
  rw [aget_mapk (fun k _ => pf k)]
  unfold fv GS.is
  cases aget g.flight who <;> rfl
theorem GAt.fl (h : GAt w gb fb tb vw vp va vs pf g) (who : ByteArray) : Own w (fv pf g who) (g.fl who) := by
  unfold fv GS.is GS.fl
  cases hx : aget g.flight who with
  | none => exact Own.nil w
  | some l =>
    refine h.rows.own (pf who, l) ?_
    unfold rowsOf
    simp only [List.mem_cons]
    exact .inr (.inr (.inr (.inr (List.mem_map.2 ⟨(who, l), aget_mem hx, rfl⟩))))
theorem GAt.ownW (h : GAt w gb fb tb vw vp va vs pf g) : Own w vw g.waiting := h.rows.own (vw, g.waiting) (by simp [rowsOf])
theorem GAt.ownP (h : GAt w gb fb tb vw vp va vs pf g) : Own w vp g.parked := h.rows.own (vp, g.parked) (by simp [rowsOf])
theorem GAt.ownA (h : GAt w gb fb tb vw vp va vs pf g) : Own w va g.acked := h.rows.own (va, g.acked) (by simp [rowsOf])
theorem GAt.ownS (h : GAt w gb fb tb vw vp va vs pf g) : Own w vs g.skipped := h.rows.own (vs, g.skipped) (by simp [rowsOf])
theorem triesOf (g : GS) (n : Int) : (aget (g.tries.map fun p => (p.1, Value.int .i64 p.2)) n).getD (.int .i64 0) = .int .i64 (g.tr n) := by
  rw [aget_mapk (fun _ k => Value.int .i64 k)]
  unfold GS.tr
  cases aget g.tries n <;> rfl
set_option maxRecDepth 100000 in
theorem tries_any (h : GAt w gb fb tb vw vp va vs pf g) (n : Int) : Calls Try.prog 18 #[.pointer (some ⟨gb, 0, none⟩), .int .i64 n] w fun e w' => e = .returned (.int .i64 (g.tr n)) ∧ w = w' := by
  have c9 : w.cell? ⟨gb, 9, none⟩ = some (.map (some tb)) := h.blk.cell 9
  have HN := Lib.hid (none_any h)
  have HI := Lib.hid (triesOf g n)
  go_enter Try.func18, Try.ntmps18
  go_wp2_with (first
    | (go_at_call 29; refine HN.out.mono ?_; rintro e w1 ⟨rfl, rfl⟩)
    | (refine wpList_lookup_is rfl 51 rfl (keyEnc_int .i64) Try.underlying51 Try.underlying3 (zeroInt _) n rfl rfl h.tries _ HI.out ?_))
  go_ret
  exact ⟨rfl, rfl⟩
set_option maxRecDepth 100000 in
theorem clone_any {w : World} {v : Value} {xs : List Int} (h : Slc w 1 v xs.length (ints xs)) (hb : xs.length ≤ 1000000000) :
    Calls Try.prog 36 #[v] w fun e w' => ∃ v', e = .returned v' ∧ Own w' v' xs ∧ (∀ g, v'.ownBlock = some g → w.heap.size ≤ g) ∧ Only [] w w' := by
  obtain ⟨i0, hi, hz0, hz1, hz2⟩ := info_parts infoI
  obtain ⟨A, cap, rfl, hnc, hcm, hl, hc⟩ := h.cell
  have hq := fun W a n c n' c' => Lib.run_eql_slice_nil (P := Try.prog) W 22 _ a n c n' c' Try.underlying22
  cases A with
  | none =>
    have h0 : xs = [] := by
      rcases hc with q | ⟨b, off, q, _⟩
      · exact List.length_eq_zero_iff.1 q
      · cases q
    subst h0
    go_enter Try.func36, Try.ntmps36
    go_wp2
    go_ret
    exact ⟨_, rfl, Own.nil _, (fun g hg => by cases hg), Only.refl _ _⟩
  | some ad =>
    obtain ⟨b, off, sp⟩ := ad
    have hcell : ∀ j u, (ints xs)[j]? = some u → (w.alloc (.cells #[] 3)).cell? ((⟨b, off, sp⟩ : Addr).add j) = some u := by
      intro j u hu
      have hj : j < (ints xs).length := (List.getElem?_eq_some_iff.1 hu).1
      rcases hc with q | ⟨b', off', q, hb', hcc⟩
      · rw [hl] at hj; omega
      · cases q
        have := hcc j hj
        rw [hu] at this
        rw [show ((⟨b, off, none⟩ : Addr).add j) = ⟨b, off + j, none⟩ by simp [Addr.add]]
        exact (World.cell?_alloc_lt w _ ⟨b, off + j, none⟩ hb').trans this
    have hcl : (ints xs).length = xs.length * 1 := hl
    unfold maxLen at hcm
    clear hl hc
    go_enter Try.func36, Try.ntmps36
    go_wp2_with (at_builtin; refine wpList_append_own _ rfl (.tmp 5) (.tmp 6) 22 rfl w.heap.size 3 i0 (.int .i64 0) 1 8 Try.underlying22 hi hz0 hz1 hz2 rfl (by decide) _ 0 [] rfl (World.ownsRow_made w #[] 0 (Nat.le_refl _) (Nat.zero_le _) rfl) ⟨b, off, sp⟩ xs.length cap (ints xs) rfl hcl hcell ?c2 ?c3 ?c4 ?c5 ?_)
    case c2 => intro u hu; unfold ints at hu; obtain ⟨z, _, rfl⟩ := List.mem_map.1 hu; rfl
    case c3 => unfold maxLen; omega
    case c4 => omega
    case c5 => simp
    intro v' w4 hown' hgrow _
    have hown2 : w4.ownsRow w.heap.size 3 1 v' xs.length (ints xs) := by simpa using hown'
    have ho4 : Only [] w w4 := ((Only.refl [] w).alloc _).grown hgrow (fun k hk => .inr (by cases hk; exact Nat.le_refl _))
    clear hgrow
    go_wp2
    go_ret
    exact ⟨_, rfl, own_base hown2 (Nat.zero_le _), fun g hg => (hown2.lt g hg).1, ho4⟩
/-- What a call gives that clones a row. -/
def RowRet (w : World) (xs : List Int) (e : Ending) (w' : World) : Prop := ∃ v', e = .returned v' ∧ Own w' v' xs ∧ (∀ b, v'.ownBlock = some b → w.heap.size ≤ b) ∧ Only [] w w'
set_option maxRecDepth 100000 in
theorem parked_any (h : GAt w gb fb tb vw vp va vs pf g) (hb : g.parked.length ≤ 1000000000) : Calls Try.prog 17 #[.pointer (some ⟨gb, 0, none⟩)] w (RowRet w g.parked) := by
  have c : w.cell? ⟨gb, 6, none⟩ = some vp := h.blk.cell 6
  obtain ⟨A, cap, rfl, _, _⟩ := own_form h.ownP
  have hsl := h.ownP.slc
  have HC := Lib.hid (clone_any hsl hb)
  have HN := Lib.hid (none_any h)
  clear hsl
  go_enter Try.func17, Try.ntmps17
  go_wp2_with (first
    | (go_at_call 29; refine HN.out.mono ?_; rintro e w1 ⟨rfl, rfl⟩)
    | (go_at_call 36; refine HC.out.mono ?_; rintro e w2 ⟨v2, rfl, ho2, hf2, hk2⟩))
  go_ret
  exact ⟨_, rfl, ho2, hf2, hk2⟩
set_option maxRecDepth 100000 in
theorem waiting_any (h : GAt w gb fb tb vw vp va vs pf g) (hb : g.waiting.length ≤ 1000000000) : Calls Try.prog 15 #[.pointer (some ⟨gb, 0, none⟩)] w (RowRet w g.waiting) := by
  have c : w.cell? ⟨gb, 4, none⟩ = some vw := h.blk.cell 4
  obtain ⟨A, cap, rfl, _, _⟩ := own_form h.ownW
  have hsl := h.ownW.slc
  have HC := Lib.hid (clone_any hsl hb)
  have HN := Lib.hid (none_any h)
  clear hsl
  go_enter Try.func15, Try.ntmps15
  go_wp2_with (first
    | (go_at_call 29; refine HN.out.mono ?_; rintro e w1 ⟨rfl, rfl⟩)
    | (go_at_call 36; refine HC.out.mono ?_; rintro e w2 ⟨v2, rfl, ho2, hf2, hk2⟩))
  go_ret
  exact ⟨_, rfl, ho2, hf2, hk2⟩
set_option maxRecDepth 100000 in
theorem acked_any (h : GAt w gb fb tb vw vp va vs pf g) (hb : g.acked.length ≤ 1000000000) : Calls Try.prog 16 #[.pointer (some ⟨gb, 0, none⟩)] w (RowRet w g.acked) := by
  have c : w.cell? ⟨gb, 7, none⟩ = some va := h.blk.cell 7
  obtain ⟨A, cap, rfl, _, _⟩ := own_form h.ownA
  have hsl := h.ownA.slc
  have HC := Lib.hid (clone_any hsl hb)
  have HN := Lib.hid (none_any h)
  clear hsl
  go_enter Try.func16, Try.ntmps16
  go_wp2_with (first
    | (go_at_call 29; refine HN.out.mono ?_; rintro e w1 ⟨rfl, rfl⟩)
    | (go_at_call 36; refine HC.out.mono ?_; rintro e w2 ⟨v2, rfl, ho2, hf2, hk2⟩))
  go_ret
  exact ⟨_, rfl, ho2, hf2, hk2⟩
set_option maxRecDepth 100000 in
theorem skipped_any (h : GAt w gb fb tb vw vp va vs pf g) (hb : g.skipped.length ≤ 1000000000) : Calls Try.prog 27 #[.pointer (some ⟨gb, 0, none⟩)] w (RowRet w g.skipped) := by
  have c : w.cell? ⟨gb, 8, none⟩ = some vs := h.blk.cell 8
  obtain ⟨A, cap, rfl, _, _⟩ := own_form h.ownS
  have hsl := h.ownS.slc
  have HC := Lib.hid (clone_any hsl hb)
  have HN := Lib.hid (none_any h)
  clear hsl
  go_enter Try.func27, Try.ntmps27
  go_wp2_with (first
    | (go_at_call 29; refine HN.out.mono ?_; rintro e w1 ⟨rfl, rfl⟩)
    | (go_at_call 36; refine HC.out.mono ?_; rintro e w2 ⟨v2, rfl, ho2, hf2, hk2⟩))
  go_ret
  exact ⟨_, rfl, ho2, hf2, hk2⟩
set_option maxRecDepth 100000 in
theorem flight_any (h : GAt w gb fb tb vw vp va vs pf g) (who : ByteArray) (hb : (g.fl who).length ≤ 1000000000) : Calls Try.prog 12 #[.pointer (some ⟨gb, 0, none⟩), .string who] w (RowRet w (g.fl who)) := by
  have c5 : w.cell? ⟨gb, 5, none⟩ = some (.map (some fb)) := h.blk.cell 5
  have hsl := (h.fl who).slc
  have HS := Lib.hid (is_any h who)
  have HI := Lib.hid (flightOf g pf who)
  cases hi : g.is who with
  | false =>
    have h0 : g.fl who = [] := by
      unfold GS.is at hi
      unfold GS.fl
      cases hx : aget g.flight who with
      | none => rfl
      | some l => rw [hx] at hi; cases hi
    rw [h0]
    rw [hi] at HS
    clear hsl
    go_enter Try.func12, Try.ntmps12
    go_wp2_with (go_at_call 30; refine HS.out.mono ?_; rintro e w1 ⟨rfl, rfl⟩)
    go_ret
    exact ⟨_, rfl, Own.nil _, (fun b hb => by cases hb), Only.refl _ _⟩
  | true =>
    rw [hi] at HS
    obtain ⟨fo, hfo⟩ : ∃ fo, fo = fv pf g who := ⟨_, rfl⟩
    rw [← hfo] at hsl HI
    have hC := clone_any hsl hb
    have HC := Lib.hid hC
    clear hsl hC hfo
    go_enter Try.func12, Try.ntmps12
    go_wp2_with (first
      | (go_at_call 30; refine HS.out.mono ?_; rintro e w1 ⟨rfl, rfl⟩)
      | (refine wpList_lookup_is rfl 50 rfl keyEnc_string Try.underlying50 Try.underlying9 (zeroInts _) who rfl rfl h.flight _ HI.out ?_)
      | (go_at_call 36; refine HC.out.mono ?_; rintro e w2 ⟨v2, rfl, ho2, hf2, hk2⟩))
    go_ret
    exact ⟨_, rfl, ho2, hf2, hk2⟩
end
end Go.Proofs.Ythjgplgfcbhihaa
