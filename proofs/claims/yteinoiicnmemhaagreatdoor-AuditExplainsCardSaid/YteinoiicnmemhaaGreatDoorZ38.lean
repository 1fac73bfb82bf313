/- Proved here: contracts of functions and plain laws, part 38 of one proof. Conditions: each theorem names its own. -/
import Derived.Test.YteinoiicnmemhaaGreatDoorZ18
import Derived.Test.YteinoiicnmemhaaGreatDoorZ31
import Derived.Lib.AppendZeros
set_option linter.unusedSimpArgs false
set_option linter.unusedVariables false
namespace Go.Proofs.YteinoiicnmemhaaGreatDoor
section
open Go.RowKit Go.MapKept Go.Maps Go.WideMaps Go.Sort
open Go.WideElems (Fit rd rg pl rd_mk rg_of)
/-- How an element reads where nobody looks at it. -/
def blind (_ : Value) : Option (DataW Unit × List MemPlace) := some (.nil, [])
theorem MapIs.owns {P : Program} {k : TypeId} (hk : P.underlying k = some .string) {w : World} {b : Nat} {kv : List (ByteArray × Value)} (h : MapIs Value.string w b kv) (hn : kv.length ≤ maxLen) (hs : ∀ p ∈ kv, p.1.size ≤ maxLen) :
    ∃ D0 : DataW Unit, w.ownsMap P k blind b kv.length D0 ∧ (strKeys D0).Perm (kv.map fun p => p.1.data.toList) ∧ Maps.size D0 = kv.length := by
  obtain ⟨es, clock, hb, hst, hm⟩ := h
  have hl : es.size = kv.length := by have := congrArg List.length hm; simpa using this
  have hx : ∀ x ∈ es.toList, ∃ s : ByteArray, x.key = .string s ∧ s.size ≤ maxLen := by
    intro x hx
    have : (x.key, x.val) ∈ kv.map (fun p => (Value.string p.1, p.2)) := by rw [← hm]; exact List.mem_map.2 ⟨x, hx, rfl⟩
    obtain ⟨p, hp, e⟩ := List.mem_map.1 this
    simp only [Prod.mk.injEq] at e
    exact ⟨p.1, e.1.symm, hs p hp⟩
  have hr : ∀ x ∈ es.toList, ∀ s, x.key = .string s → s.size ≤ maxLen → rg P k blind x = (.string s.data.toList, .nil) := by
    intro x _ s e h1
    have h2 := rd_mk (R := blind) (val := x.val) (born := x.born) (keyOf_string_mk hk h1) (rfl : blind x.val = some (.nil, []))
    rw [← e] at h2
    exact rg_of h2
  refine ⟨_, ⟨es, clock, hb, ⟨by omega, hst, ?_⟩, by omega, rfl⟩, ?_, ?_⟩
  · intro x hx'
    obtain ⟨s, e, h1⟩ := hx x hx'
    refine ⟨(.string s.data.toList, .nil), ?_⟩
    have h2 := rd_mk (R := blind) (val := x.val) (born := x.born) (keyOf_string_mk hk h1) (rfl : blind x.val = some (.nil, []))
    rw [← e] at h2
    exact h2
  · refine ((WideShapes.sorted_perm _).map _).trans ?_
    have e1 : (es.toList.map (rg P k blind)).map (fun p => strOf p.1) = kv.map fun p => p.1.data.toList := by
      apply List.ext_getElem?
      intro i
      have hi := congrArg (fun l => l[i]?) hm
      simp only [List.getElem?_map] at hi ⊢
      cases h1 : es.toList[i]? with
      | none =>
        rw [h1] at hi
        cases h2 : kv[i]? with
        | none => rfl
        | some p => rw [h2] at hi; simp at hi
      | some x =>
        rw [h1] at hi
        cases h2 : kv[i]? with
        | none => rw [h2] at hi; simp at hi
        | some p =>
          rw [h2] at hi
          simp only [Option.map_some, Option.some.injEq, Prod.mk.injEq] at hi
          have hp : p.1.size ≤ maxLen := hs p (List.mem_of_getElem? h2)
          have := hr x (List.mem_of_getElem? h1) p.1 hi.1 hp
          simp [this, strOf]
    rw [e1]
  · show (List.foldr DataW.insert [] (es.toList.map (rg P k blind))).length = _
    rw [(WideShapes.sorted_perm _).length_eq]
    simp [hl]
theorem strs_of (l : List (List UInt8)) : (l.map encStr) = strs (l.map fun x => ⟨x.toArray⟩) := by
  simp [strs, encStr]
theorem keysM_any (mb : Option Nat) (W : World) : Calls Tryz.prog 36 #[.map mb] W fun e w' => e = .returned (.func (.func 75) #[] #[.pointer (some ⟨W.heap.size, 0, none⟩)]) ∧ w' = W.alloc (.cells #[.map mb] 70) := callsIn_wide.1 (Tryz.maps_Keys_36 mb W)
theorem run_append_none {P : Program} (w : World) (t e ty : TypeId) (A : Option Addr) (size n cap m c : Nat) (ht : P.underlying t = some (.slice e)) (hs : (Go.sizeOf e).run P w = .ok size w) (hnc : n ≤ cap) (hm : m = 0) :
    (Builtin.append_ #[t, t] ty #[.slice A n cap, .slice none m c]).run P w = .ok (.slice A n cap) w := by
  subst hm
  exact run_append_nothing w t e ty A size n cap c ht hs hnc
theorem infoSg : (Tryz.prog.info? 9).map (fun i => (i.zero, i.size, i.bytes)) = some (some (.string ⟨#[]⟩), 1, 16) := by kernel_rfl
theorem sizeSgV (w : World) : (Go.sizeOf 9).run Tryz.prog w = .ok 1 w := by kernel_rfl
set_option maxRecDepth 100000 in
theorem growS_any (w : World) (n : Nat) (hn : n ≤ 2000000) : Calls Tryz.prog 73 #[.slice none 0 0, .int .i64 n] w fun e w' => ∃ v, e = .returned v ∧ w'.ownsRow w.heap.size 9 1 v 0 [] ∧ Only [] w w' := by
  obtain ⟨i0, hi, hz0, hz1, hz2⟩ := info_parts infoSg
  by_cases h0 : n = 0
  · subst h0
    go_enter Tryz.func73, Tryz.ntmps73
    go_wp2
    go_ret
    exact ⟨_, rfl, World.ownsRow_nil _ _ _ _, Only.refl _ _⟩
  · have hpos : 0 < n := by omega
    have hposi : (0 : Int) < n := by omega
    have happ := fun ty => Lib.run_append_nil_zeros (P := Tryz.prog) w 96 3 ty 9 i0 (.string ⟨#[]⟩) .i64 .i64 Tryz.underlying96 Tryz.underlying3 hi hz0 n hpos (by omega) (by omega) (by rw [hz2]; omega)
    have hge := grownCap_ge w n 0 9
    have hle := grownCap_le_maxLen w n 0 9 (by unfold maxLen; omega)
    go_enter Tryz.func73, Tryz.ntmps73
    go_wp2_with (at_builtin; refine Lib.wpList_append_run _ rfl (.tmp 20) (.tmp 21) 96 3 rfl _ _ rfl rfl _ _ (happ _) ?_)
    go_ret
    refine ⟨_, rfl, ⟨rfl, .inr ⟨w.heap.size, grownCap w n 0 9, _, rfl, Nat.le_refl _, Blk.new w 9 _, Nat.zero_le _, hle, ?_, by simp⟩⟩, ((Only.refl [] w).alloc _).drew⟩
    simp [Builtin.zeroCells]
    omega
set_option maxRecDepth 100000 in
set_option maxHeartbeats 2000000 in
theorem concatS_any {w : World} {g : Nat} {v1 v2 : Value} {ns ms : List ByteArray} (hB : Blk w g 96 #[v1, v2]) (h1 : Slc w 1 v1 ns.length (strs ns)) (h2 : Slc w 1 v2 ms.length (strs ms)) (b1 : ns.length ≤ 1000000) (b2 : ms.length ≤ 1000000) :
    Calls Tryz.prog 34 #[.slice (some ⟨g, 0, none⟩) 2 2] w fun e w' => ∃ v, e = .returned v ∧ w'.ownsRow w.heap.size 9 1 v (ns ++ ms).length (strs (ns ++ ms)) ∧ Only [] w w' := by
  obtain ⟨i0, hi, hz0, hz1, hz2⟩ := info_parts infoSg
  obtain ⟨A1, c1, hv1, p1, p2, p3, p4⟩ := h1.cell
  obtain ⟨A2, c2, hv2, q1, q2, q3, q4⟩ := h2.cell
  subst hv1 hv2
  have hg := hB.lt
  have d0 : w.cell? ⟨g, 0, none⟩ = some (.slice A1 ns.length c1) := hB.cell 0
  have d1 : w.cell? ⟨g, 1, none⟩ = some (.slice A2 ms.length c2) := hB.cell 1
  unfold maxLen at p2 q2
  have HG := Lib.hid (fun (n : Nat) (hn : n ≤ 2000000) => growS_any w n hn)
  go_enter Tryz.func34, Tryz.ntmps34
  go_wp2
  go_loopw [3, 11] (fun sz i wr => ∃ k : Nat, k ≤ 2 ∧ i = .int .i64 k ∧ sz = .int .i64 ((if k = 0 then 0 else if k = 1 then ns.length else ns.length + ms.length : Nat) : Int) ∧ wr = w) (fun _ i _ => 2 - (intOf i).toNat)
  case atStart => exact ⟨0, by omega, rfl, rfl, rfl⟩
  case round =>
    obtain ⟨k, hk, rfl, rfl, hwr⟩ := hrel
    have hwr' := hwr.symm
    subst hwr'
    rcases (by omega : k = 0 ∨ k = 1 ∨ k = 2) with rfl | rfl | rfl
    · go_wp2
      exact ⟨⟨1, by omega, rfl, by simp, trivial⟩, by simp [intOf]⟩
    · go_wp2
      exact ⟨⟨2, by omega, rfl, by simp, trivial⟩, by simp [intOf]⟩
    · have hgr := growS_any w (ns.length + ms.length) (by omega)
      rw [Int.natCast_add] at hgr
      have HGr := Lib.hid hgr
      go_wp2_with (go_at_call 73; refine HGr.out.mono ?_; rintro e w1 ⟨v0, rfl, hown0, ho0⟩)
      go_loopw [6, 27] (fun o i wx => ∃ k : Nat, k ≤ 2 ∧ i = .int .i64 k ∧ Only [] w wx ∧ wx.ownsRow w.heap.size 9 1 o (if k = 0 then [] else if k = 1 then ns else ns ++ ms).length (strs (if k = 0 then [] else if k = 1 then ns else ns ++ ms))) (fun _ i _ => 2 - (intOf i).toNat)
      case atStart => exact ⟨0, by omega, rfl, ho0, hown0⟩
      case round =>
        obtain ⟨k, hk, rfl, hO, hown⟩ := hrel
        obtain ⟨Ao, co, rfl, hco1, hco2⟩ := own_form hown
        have e0 : wr.cell? ⟨g, 0, none⟩ = some (.slice A1 ns.length c1) := (hO.cell hg (by simp)).trans d0
        have e1 : wr.cell? ⟨g, 1, none⟩ = some (.slice A2 ms.length c2) := (hO.cell hg (by simp)).trans d1
        rcases (by omega : k = 0 ∨ k = 1 ∨ k = 2) with rfl | rfl | rfl
        · simp only [if_true] at hown hco1 ⊢
          cases A1 with
          | none =>
            have hn0 : ns = [] := by
              rcases p4 with q | ⟨_, _, q, _⟩
              · exact List.length_eq_zero_iff.1 q
              · cases q
            have HN0 := Lib.hid hn0
            have HAp := Lib.hid (fun ty => run_append_none wr 96 9 ty Ao 1 (([] : List ByteArray)).length co (ns).length c1 Tryz.underlying96 (sizeSgV _) hco1 (by rw [hn0]; rfl))
            clear hn0
            have hown2 : wr.ownsRow w.heap.size 9 1 (.slice Ao (([] : List ByteArray)).length co) (([] : List ByteArray) ++ ns).length (strs (([] : List ByteArray) ++ ns)) := by
              rw [HN0.out, List.append_nil]
              exact hown
            have HO2 := Lib.hid hown2
            clear hown2
            go_wp2_with (at_builtin; refine Lib.wpList_append_run _ rfl (.tmp 31) (.tmp 32) 96 96 rfl _ _ rfl rfl _ _ (HAp.out _) ?_)
            exact ⟨⟨1, by omega, rfl, hO, by simpa using HO2.out⟩, by simp [intOf]⟩
          | some ad =>
            obtain ⟨bs, os, sp⟩ := ad
            have hcell : ∀ j u, (strs ns)[j]? = some u → wr.cell? ((⟨bs, os, sp⟩ : Addr).add j) = some u := by
              intro j u hu
              have hj : j < (strs ns).length := (List.getElem?_eq_some_iff.1 hu).1
              rcases p4 with q | ⟨b', off', q, hb', hcc⟩
              · rw [p3] at hj; omega
              · cases q
                have := hcc j hj
                rw [hu] at this
                rw [show ((⟨bs, os, none⟩ : Addr).add j) = ⟨bs, os + j, none⟩ by simp [Addr.add]]
                exact (hO.cell hb' (by simp)).trans this
            have HCell := Lib.hid hcell
            clear hcell
            go_wp2_with (at_builtin; refine wpList_append_own _ rfl (.tmp 31) (.tmp 32) 96 rfl w.heap.size 9 i0 (.string ⟨#[]⟩) 1 16 Tryz.underlying96 hi hz0 hz1 hz2 rfl (by decide) (.slice Ao (([] : List ByteArray)).length co) (([] : List ByteArray)).length _ rfl hown ⟨bs, os, sp⟩ (ns).length c1 (strs ns) rfl (by simp [strs]) HCell.out ?c2 ?c3 ?c4 ?c5 ?_)
            case c2 =>
              intro u hu
              obtain ⟨x, _, rfl⟩ := List.mem_map.1 hu
              rfl
            case c3 => unfold maxLen; (try simp); omega
            case c4 => (try simp); omega
            case c5 => exact hO.size
            intro v' w4 hown' hgrow _
            have ho4 : Only [] w w4 := hO.grown hgrow (fun k hk => .inr (hown.lt k hk).1)
            have hown2 : w4.ownsRow w.heap.size 9 1 v' (([] : List ByteArray) ++ ns).length (strs (([] : List ByteArray) ++ ns)) := by
              rw [show strs (([] : List ByteArray) ++ ns) = strs (([] : List ByteArray)) ++ strs (ns) by simp [strs], List.length_append]
              first | exact hown' | simpa using hown'
            have HO2 := Lib.hid hown2
            clear hgrow hown' hown2
            go_wp2
            exact ⟨⟨1, by omega, rfl, ho4, by simpa using HO2.out⟩, by simp [intOf]⟩
        · simp only [Nat.one_ne_zero, if_false, if_true] at hown hco1 ⊢
          cases A2 with
          | none =>
            have hn0 : ms = [] := by
              rcases q4 with q | ⟨_, _, q, _⟩
              · exact List.length_eq_zero_iff.1 q
              · cases q
            have HN0 := Lib.hid hn0
            have HAp := Lib.hid (fun ty => run_append_none wr 96 9 ty Ao 1 (ns).length co (ms).length c2 Tryz.underlying96 (sizeSgV _) hco1 (by rw [hn0]; rfl))
            clear hn0
            have hown2 : wr.ownsRow w.heap.size 9 1 (.slice Ao (ns).length co) (ns ++ ms).length (strs (ns ++ ms)) := by
              rw [HN0.out, List.append_nil]
              exact hown
            have HO2 := Lib.hid hown2
            clear hown2
            go_wp2_with (at_builtin; refine Lib.wpList_append_run _ rfl (.tmp 31) (.tmp 32) 96 96 rfl _ _ rfl rfl _ _ (HAp.out _) ?_)
            exact ⟨⟨2, by omega, rfl, hO, by simpa using HO2.out⟩, by simp [intOf]⟩
          | some ad =>
            obtain ⟨bs, os, sp⟩ := ad
            have hcell : ∀ j u, (strs ms)[j]? = some u → wr.cell? ((⟨bs, os, sp⟩ : Addr).add j) = some u := by
              intro j u hu
              have hj : j < (strs ms).length := (List.getElem?_eq_some_iff.1 hu).1
              rcases q4 with q | ⟨b', off', q, hb', hcc⟩
              · rw [q3] at hj; omega
              · cases q
                have := hcc j hj
                rw [hu] at this
                rw [show ((⟨bs, os, none⟩ : Addr).add j) = ⟨bs, os + j, none⟩ by simp [Addr.add]]
                exact (hO.cell hb' (by simp)).trans this
            have HCell := Lib.hid hcell
            clear hcell
            go_wp2_with (at_builtin; refine wpList_append_own _ rfl (.tmp 31) (.tmp 32) 96 rfl w.heap.size 9 i0 (.string ⟨#[]⟩) 1 16 Tryz.underlying96 hi hz0 hz1 hz2 rfl (by decide) (.slice Ao (ns).length co) (ns).length _ rfl hown ⟨bs, os, sp⟩ (ms).length c2 (strs ms) rfl (by simp [strs]) HCell.out ?c2 ?c3 ?c4 ?c5 ?_)
            case c2 =>
              intro u hu
              obtain ⟨x, _, rfl⟩ := List.mem_map.1 hu
              rfl
            case c3 => unfold maxLen; (try simp); omega
            case c4 => (try simp); omega
            case c5 => exact hO.size
            intro v' w4 hown' hgrow _
            have ho4 : Only [] w w4 := hO.grown hgrow (fun k hk => .inr (hown.lt k hk).1)
            have hown2 : w4.ownsRow w.heap.size 9 1 v' (ns ++ ms).length (strs (ns ++ ms)) := by
              rw [show strs (ns ++ ms) = strs (ns) ++ strs (ms) by simp [strs], List.length_append]
              first | exact hown' | simpa using hown'
            have HO2 := Lib.hid hown2
            clear hgrow hown' hown2
            go_wp2
            exact ⟨⟨2, by omega, rfl, ho4, by simpa using HO2.out⟩, by simp [intOf]⟩
        · go_wp2
          go_ret
          exact ⟨_, rfl, hown, hO⟩
end
end Go.Proofs.YteinoiicnmemhaaGreatDoor
