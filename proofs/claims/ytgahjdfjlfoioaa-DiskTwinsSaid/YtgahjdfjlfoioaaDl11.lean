/- SameTexts; all: every file and what is in it. -/
import Derived.Test.YtgahjdfjlfoioaaDl10
import Derived.Test.YtgahjdfjlfoioaaDk14
import Derived.Laws.AppendOwn
import Derived.RegionTactic
set_option linter.unusedVariables false
namespace Go.Proofs.Ytgahjdfjlfoioaa
open Go.RowKit Go.Sort
theorem infoS : (Try.prog.info? 9).map (fun i => (i.zero, i.size, i.bytes)) = some (some (.string ⟨#[]⟩), 1, 16) := by kernel_rfl
theorem take_ne {α : Type} [DecidableEq α] {l m : List α} (hl : l.length = m.length) (j : Nat) (h : j < l.length) (hm : j < m.length) (hn : l[j] ≠ m[j]) : l ≠ m := by
  intro e
  subst e
  exact hn rfl
theorem strs_cell {w : World} {A : Option Addr} {l : List ByteArray} {j : Nat} (hc : l.length = 0 ∨ ∃ b off, A = some ⟨b, off, none⟩ ∧ b < w.heap.size ∧ ∀ j, j < (strs l).length → w.cell? ⟨b, off + j, none⟩ = (strs l)[j]?) (hj : j < l.length) :
    ∃ b off, A = some ⟨b, off, none⟩ ∧ b < w.heap.size ∧ w.cell? ⟨b, off + j, none⟩ = some (.string l[j]) := by
  rcases hc with q | ⟨b, off, q1, q2, q3⟩
  · omega
  · refine ⟨b, off, q1, q2, ?_⟩
    rw [q3 j (by simpa [strs] using hj)]
    simp [strs, hj]
set_option maxRecDepth 100000 in
set_option maxHeartbeats 1000000 in
theorem sameTexts_any {w : World} {v1 v2 : Value} {l m : List ByteArray} (h1 : Slc w 1 v1 l.length (strs l)) (h2 : Slc w 1 v2 m.length (strs m)) :
    Calls Try.prog 29 #[v1, v2] w fun e w' => e = .returned (.bool (decide (l = m))) ∧ Only [] w w' := by
  obtain ⟨A1, cap1, rfl, hnc1, hcm1, hl1, hc1⟩ := h1.cell
  obtain ⟨A2, cap2, rfl, hnc2, hcm2, hl2, hc2⟩ := h2.cell
  unfold maxLen at hcm1 hcm2
  by_cases hlen : l.length = m.length
  case neg =>
    have hd : decide (l = m) = false := by simp; intro e; exact hlen (by rw [e])
    have hb : ((l.length : Int) != (m.length : Int)) = true := by rw [bne_iff_ne]; omega
    have hb' : (l.length != m.length) = true := by rw [bne_iff_ne]; exact hlen
    rw [hd]
    clear hd hlen
    go_enter Try.func29, Try.ntmps29
    go_wp2
    go_ret
    exact ⟨rfl, Only.refl _ _⟩
  case pos =>
    have hb : ((l.length : Int) != (m.length : Int)) = false := by simp [hlen]
    have hb' : (l.length != m.length) = false := by simp [hlen]
    have HL := Lib.hid hlen
    clear hlen
    go_enter Try.func29, Try.ntmps29
    go_wp2
    go_loopw [5] (fun i wr => ∃ j : Nat, j ≤ l.length ∧ i = .int .i64 j ∧ Hid (l.take j = m.take j) ∧ Only [] w wr) (fun i _ => l.length - (intOf i).toNat)
    case atStart => exact ⟨0, Nat.zero_le _, rfl, rfl, Only.refl _ _⟩
    case round =>
      obtain ⟨j, hj, rfl, hT, hO⟩ := hrel
      by_cases hlt : j < l.length
      case neg =>
        have he : Hid (l = m) := by
          have := hT.out
          rw [List.take_of_length_le (by omega), List.take_of_length_le (by have := HL.out; omega)] at this
          exact this
        clear hT
        go_wp2
        go_ret
        exact ⟨by rw [decide_eq_true he.out]; rfl, hO⟩
      case pos =>
        have hltm : j < m.length := by have := HL.out; omega
        obtain ⟨b1, off1, rfl, hb1, q1⟩ := strs_cell hc1 hlt
        obtain ⟨b2, off2, rfl, hb2, q2⟩ := strs_cell hc2 hltm
        rw [← hO.cell hb1 (by simp)] at q1
        rw [← hO.cell hb2 (by simp)] at q2
        obtain ⟨x, hx⟩ : ∃ x, x = l[j] := ⟨_, rfl⟩
        obtain ⟨y, hy⟩ : ∃ y, y = m[j] := ⟨_, rfl⟩
        rw [← hx] at q1
        rw [← hy] at q2
        clear hc1 hc2
        by_cases hxy : x = y
        · have hnext : Hid (l.take (j + 1) = m.take (j + 1)) := by
            unfold Hid
            rw [List.take_succ_eq_append_getElem hlt, List.take_succ_eq_append_getElem hltm, hT.out, ← hx, ← hy, hxy]
          clear hx hT
          subst hxy
          clear hy
          go_wp2
          go_region
          all_goals
            go_wp2
            exact ⟨⟨j + 1, hlt, by simp, hnext, hO.drew⟩, by simp [intOf]; omega⟩
        · have hne : decide (l = m) = false := by
            have := take_ne HL.out j hlt hltm (by rw [← hx, ← hy]; exact hxy)
            simp [this]
          have HN := Lib.hid hne
          have hxe : (x.toList == y.toList) = false := by
            have : x.toList ≠ y.toList := fun e => hxy (WideShapes.bytes_inj (by rw [← ByteArray.toList_eq, ← ByteArray.toList_eq]; exact e))
            simpa using this
          clear hne hx hy hT hxy
          go_wp2
          go_region
          all_goals
            go_wp2
            go_ret
            exact ⟨by rw [HN.out]; rfl, hO.drew⟩
theorem own_only {S : List Nat} {w w' : World} {base size n : Nat} {e : TypeId} {v : Value} {xs : List Value} (h : w.ownsRow base e size v n xs) (k : Only S w w') (hn : ∀ g, v.ownBlock = some g → g ∉ S) : w'.ownsRow base e size v n xs := by
  obtain ⟨h1, h2⟩ := h
  rcases h2 with ⟨rfl, rfl⟩ | ⟨g, cap, cur, rfl, hb, hg, q⟩
  · exact ⟨h1, .inl ⟨rfl, rfl⟩⟩
  · exact ⟨h1, .inr ⟨g, cap, cur, rfl, hb, (k.block g (lt_of_block hg) (hn g rfl)).trans hg, q⟩⟩
/-- A file, and what is in it. -/
def oneOf (d : DS) (s : ByteArray) : List ByteArray := [s, (d.read s 0 (d.size s).1).1]
def allOf (d : DS) : List ByteArray := (d.list ⟨#[]⟩).flatMap (oneOf d)
theorem oneOf_take (d : DS) (N : List ByteArray) (j : Nat) (h : j < N.length) : strs ((N.take (j + 1)).flatMap (oneOf d)) = strs ((N.take j).flatMap (oneOf d)) ++ [.string N[j], .string (d.read N[j] 0 (d.size N[j]).1).1] := by
  rw [List.take_succ_eq_append_getElem h, List.flatMap_append]
  simp [strs, oneOf]
theorem oneOf_len (d : DS) (N : List ByteArray) : (N.flatMap (oneOf d)).length = N.length * 2 := by
  induction N with
  | nil => rfl
  | cons a l ih => rw [List.flatMap_cons, List.length_append, ih]; simp [oneOf]; omega
theorem list_few {d : DS} (h : d.fs.length ≤ 200) (p : ByteArray) : (d.list p).length ≤ 200 := by
  unfold DS.list
  split
  · refine Nat.le_trans (List.length_filter_le _ _) ?_
    simpa [DS.names] using h
  · simp
set_option maxRecDepth 100000 in
set_option maxHeartbeats 2000000 in
theorem all_any {w : World} {db mb : Nat} {d : DS} {kv : Value} {M : Nat} (h : DiskAt w db mb d kv) (hk : d.Ok M) (hM : M ≤ 1125899906842624) :
    Calls Try.prog 28 #[.pointer (some ⟨db, 0, none⟩)] w fun e w' => ∃ v, e = .returned v ∧ Slc w' 1 v (allOf d).length (strs (allOf d)) ∧ (∀ g, v.ownBlock = some g → w.heap.size ≤ g) ∧ Only [] w w' := by
  have hfew := list_few hk.few ⟨#[]⟩
  obtain ⟨i0, hi, hz0, hz1, hz2⟩ := info_parts infoS
  obtain ⟨N, hN⟩ : ∃ N, N = d.list ⟨#[]⟩ := ⟨_, rfl⟩
  unfold allOf
  rw [← hN] at hfew ⊢
  have HLs := Lib.hid (list_any h hk.fs ⟨#[]⟩)
  have HN := Lib.hid hN
  clear hN
  go_enter Try.func28, Try.ntmps28
  go_wp2_with (go_at_call 23; refine HLs.out.mono ?_; rintro e w1 ⟨v1, rfl, hs1, hg1, ho1⟩; rw [← HN.out] at hs1; obtain ⟨A1, cap1, rfl, hnc1, hcm1, hl1, hc1⟩ := hs1.cell)
  unfold maxLen at hcm1
  go_loopw [4, 5] (fun u i wr => ∃ j : Nat, j ≤ N.length ∧ i = .int .i64 j ∧ wr.ownsRow w1.heap.size 9 1 u (j * 2) (strs ((N.take j).flatMap (oneOf d))) ∧ Only [] w1 wr) (fun _ i _ => N.length - (intOf i).toNat)
  case atStart => exact ⟨0, Nat.zero_le _, rfl, World.ownsRow_nil _ _ _ _, Only.refl _ _⟩
  case round =>
    obtain ⟨j, hj, rfl, hown, hO⟩ := hrel
    by_cases hlt : j < N.length
    case neg =>
      have hjn : j = N.length := by omega
      rw [hjn, List.take_length, ← oneOf_len d N] at hown
      clear hjn
      go_wp2
      go_ret
      obtain ⟨q1, q2⟩ := Slc.of_own hown
      refine ⟨_, rfl, q1, fun g hg => ?_, ho1.trans hO⟩
      have := (q2 g hg).1
      have := ho1.size
      omega
    case pos =>
      obtain ⟨b1, off1, rfl, hb1, q1⟩ := strs_cell hc1 hlt
      rw [← hO.cell hb1 (by simp)] at q1
      have hts := oneOf_take d N j hlt
      obtain ⟨x, hx⟩ : ∃ x, x = N[j] := ⟨_, rfl⟩
      rw [← hx] at q1 hts
      have HT := Lib.hid hts
      have hgx : (d.get x).b.size ≤ 1125899906842624 := Nat.le_trans (hk.fs.fok.get x).2.2 hM
      have hsz := size_any (h.only0 (ho1.trans hO)) x
      have HS := Lib.hid hsz
      have hrd : ∀ W, Only [] wr W → _ := fun W hW => read_any (h.only0 ((ho1.trans hO).trans hW)) x 0 (d.size x).1 hgx
      have HR := Lib.hid hrd
      clear hx hts hc1 hsz hrd hgx
      have q1' : ∀ W, Only [] wr W → W.cell? ⟨b1, off1 + j, none⟩ = some (.string x) := fun W hW => (hW.cell (Nat.lt_of_lt_of_le hb1 hO.size) (by simp)).trans q1
      have Q1 := Lib.hid q1'
      clear q1'
      go_wp2_with (first
        | (go_at_call 21; refine HS.out.mono ?_; rintro e w2 ⟨rfl, hw2⟩; have c2 := Q1.out w2 hw2)
        | (go_at_call 20; refine (HR.out _ hw2).mono ?_; rintro e w3 ⟨rfl, hw3⟩; have c3 := Q1.out w3 (hw2.trans hw3))
        | (at_builtin; refine wpList_append_own _ rfl (.tmp 37) (.tmp 43) 40 rfl w1.heap.size 9 i0 (.string ⟨#[]⟩) 1 16 Try.underlying40 hi hz0 hz1 hz2 rfl (by decide) _ _ _ rfl (World.ownsRow.alloc (own_only hown (hw2.trans hw3) (by simp)) _) ⟨w3.heap.size, 0, none⟩ 2 2 [.string x, .string (d.read x 0 (d.size x).1).1] rfl rfl ?c1 ?c2 ?c3 ?c4 ?c5 ?_))
      case c1 =>
        intro i u hu
        have hb := heap_alloc_new w3 (.cells #[.string x, .string (d.read x 0 (d.size x).1).1] 9)
        match i with
        | 0 => exact (cell_of_row _ _ 0 _ _ _ hb).trans hu
        | 1 => exact (cell_of_row _ _ 1 _ _ _ hb).trans hu
        | i + 2 => simp at hu
      case c2 => simp [Value.oneCell']
      case c3 => unfold maxLen; omega
      case c4 => omega
      case c5 => have := hO.size; have := hw2.size; have := hw3.size; simp; omega
      intro v' w4 hown' hgrow _
      rw [← HT.out] at hown'
      have ho4 : Only [] w1 w4 := (((hO.trans (hw2.trans hw3)).alloc _).grown hgrow (fun k hk => .inr (hown.lt k hk).1))
      clear hgrow
      go_wp2
      exact ⟨⟨j + 1, hlt, by simp, by rw [show (j + 1) * 2 = j * 2 + 2 by omega]; exact hown', ho4⟩, by simp [intOf]; omega⟩
end Go.Proofs.Ytgahjdfjlfoioaa
