/- Proved here: contracts of functions and plain laws, part 3 of 6 of one proof. Conditions: each theorem names its own. -/
import Derived.Test.YthjgplgfcbhihaaGreatP2
import Derived.Test.YthjgplgfcbhihaaGreatProg
/- Contract: Who: the sorted keys of a map with texts as keys; names stay short. -/
set_option linter.unusedVariables false
set_option linter.unusedSimpArgs false
namespace Go.Proofs.YthjgplgfcbhihaaGreat
open Go.RowKit Go.MapKept Go.Maps Go.WideMaps
open Go.WideElems (Fit rd rg pl rd_mk rg_of)
/-- How an element reads where nobody looks at it. -/
def blind (_ : Value) : Option (DataW Unit × List MemPlace) := some (.nil, [])
theorem MapIs.owns {P : Program} {k : TypeId} (hk : P.underlying k = some .string) {w : World} {b : Nat} {kv : List (ByteArray × Value)} (h : MapIs Value.string w b kv) (hn : kv.length ≤ maxLen) (hs : ∀ p ∈ kv, p.1.size ≤ maxLen) :
    ∃ D0 : DataW Unit, w.ownsMap P k blind b kv.length D0 ∧ (strKeys D0).Perm (kv.map fun p => p.1.data.toList) ∧ Maps.size D0 = kv.length := by
  obtain ⟨es, clock, hb, hst, hm⟩ := h
  have hl : es.size = kv.length := by have := congrArg List.length hm; simpa using this
  have hx : ∀ x ∈ es.toList, ∃ s : ByteArray, x.key = .string s ∧ s.size ≤ maxLen := by
    intro x hx
    have : (x.key, x.val) ∈ kv.map (fun p => (Value.string p.1, p.2)) := by rw [← hm]; exact List.mem_map.2 ⟨x, hx, rfl⟩
    obtain ⟨p, hp, e⟩ := List.mem_map.1 this
    simp only [Prod.mk.injEq] at e
    exact ⟨p.1, e.1.symm, hs p hp⟩
  have hr : ∀ x ∈ es.toList, ∀ s, x.key = .string s → s.size ≤ maxLen → rg P k blind x = (.string s.data.toList, .nil) := by
    intro x _ s e h1
    have h2 := rd_mk (R := blind) (val := x.val) (born := x.born) (keyOf_string_mk hk h1) (rfl : blind x.val = some (.nil, []))
    rw [← e] at h2
    exact rg_of h2
  refine ⟨_, ⟨es, clock, hb, ⟨by omega, hst, ?_⟩, by omega, rfl⟩, ?_, ?_⟩
  · intro x hx'
    obtain ⟨s, e, h1⟩ := hx x hx'
    refine ⟨(.string s.data.toList, .nil), ?_⟩
    have h2 := rd_mk (R := blind) (val := x.val) (born := x.born) (keyOf_string_mk hk h1) (rfl : blind x.val = some (.nil, []))
    rw [← e] at h2
    exact h2
  · refine ((WideShapes.sorted_perm _).map _).trans ?_
    have e1 : (es.toList.map (rg P k blind)).map (fun p => strOf p.1) = kv.map fun p => p.1.data.toList := by
      apply List.ext_getElem?
      intro i
      have hi := congrArg (fun l => l[i]?) hm
      simp only [List.getElem?_map] at hi ⊢
      cases h1 : es.toList[i]? with
      | none =>
        rw [h1] at hi
        cases h2 : kv[i]? with
        | none => rfl
        | some p => rw [h2] at hi; simp at hi
      | some x =>
        rw [h1] at hi
        cases h2 : kv[i]? with
        | none => rw [h2] at hi; simp at hi
        | some p =>
          rw [h2] at hi
          simp only [Option.map_some, Option.some.injEq, Prod.mk.injEq] at hi
          have hp : p.1.size ≤ maxLen := hs p (List.mem_of_getElem? h2)
          have := hr x (List.mem_of_getElem? h1) p.1 hi.1 hp
          simp [this, strOf]
    rw [e1]
  · show (List.foldr DataW.insert [] (es.toList.map (rg P k blind))).length = _
    rw [(WideShapes.sorted_perm _).length_eq]
    simp [hl]

theorem strs_sorted (l : List (List UInt8)) : (l.map encStr) = strs (l.map fun x => ⟨x.toArray⟩) := by
  simp [strs, encStr]


/-! ## names are short -/
def GS.Nm (g : GS) : Prop := ∀ p ∈ g.flight, p.1.size ≤ 60
namespace GS
variable {g : GS}
theorem new_nm (f b r : Int) : (new f b r).Nm := fun p hp => by cases hp
theorem nm_aput (h : g.Nm) {who : ByteArray} (hw : who.size ≤ 60) (l : List Int) : ∀ p ∈ aput g.flight who l, p.1.size ≤ 60 := fun p hp => by
  rcases aput_in hp with rfl | q
  · exact hw
  · exact h p q
theorem nm_is (h : g.Nm) {who : ByteArray} (hi : g.is who = true) : who.size ≤ 60 := by
  unfold is at hi
  cases hx : aget g.flight who with
  | none => rw [hx] at hi; cases hi
  | some l => exact h _ (aget_mem hx)
theorem join_nm (h : g.Nm) (who : ByteArray) : (g.join who).2.Nm := by
  unfold join
  split
  · exact h
  split
  · exact h
  split
  · exact h
  · rename_i q _ _
    exact nm_aput h (by omega) []
theorem leave_nm (h : g.Nm) (who : ByteArray) : (g.leave who).2.Nm := by
  unfold leave
  split
  · exact fun p hp => h p ((adel_sublist g.flight who).subset hp)
  · exact h
theorem feed_nm (h : g.Nm) (n : Int) : (g.feed n).2.Nm := by
  unfold feed
  split <;> exact h
theorem take1_nm (h : g.Nm) (who : ByteArray) {n : Int} {t : GS} (he : g.take1 who = some (n, t)) : t.Nm := by
  unfold take1 at he
  split at he
  · cases he
  · rename_i q
    split at he
    · cases he
    · injection he with he
      injection he with e1 e2
      subst e1 e2
      have hi : g.is who = true := by
        cases hh : g.is who with
        | true => rfl
        | false => exact absurd (.inl hh) q
      exact nm_aput h (nm_is h hi) _
theorem take_nm (h : g.Nm) (who : ByteArray) (l : List Int) : (g.take who l).2.Nm := by
  unfold take
  split
  · rename_i hi
    dsimp only
    split
    · exact h
    · exact nm_aput h (nm_is h hi) _
  · exact h
theorem forget_nm (h : g.Nm) : g.forget.Nm := h
theorem ack_nm (h : g.Nm) (who : ByteArray) (l : List Int) : (g.ack who l).2.Nm := by
  have h1 := take_nm h who l
  unfold ack
  dsimp only
  split
  · exact h1
  · exact forget_nm h1
theorem nak1_fl (how : Int) (g : GS) (n : Int) : (nak1 how g n).flight = g.flight := by
  unfold nak1
  split
  · rfl
  split <;> rfl
theorem nakAll_fl (how : Int) : ∀ (d : List Int) (g : GS), (d.foldl (nak1 how) g).flight = g.flight
  | [], _ => rfl
  | x :: d, g => by rw [List.foldl_cons, nakAll_fl how d, nak1_fl]
theorem nak_nm (h : g.Nm) (who : ByteArray) (how : Int) (l : List Int) : (g.nak who how l).2.Nm := by
  have h1 := take_nm h who l
  unfold nak
  split
  · exact h
  · dsimp only
    have hk : ((g.take who l).1.foldl (nak1 how) (g.take who l).2).Nm := fun p hp => h1 p (by rw [nakAll_fl] at hp; exact hp)
    split
    · exact hk
    · exact forget_nm hk
theorem lateGo_nm : ∀ (l : List ByteArray) (n : Int) {g : GS}, g.Nm → (lateGo l n g).2.Nm
  | [], _, _, h => h
  | w :: l, n, g, h => lateGo_nm l _ (nak_nm h w 2 (g.fl w))
theorem late_nm (h : g.Nm) : g.late.2.Nm := lateGo_nm g.who 0 h
theorem replay_nm (h : g.Nm) : g.replay.2.Nm := h
end GS
theorem who_len (g : GS) : g.who.length = g.flight.length := by simp [GS.who]
set_option maxRecDepth 100000 in
theorem who_any {w : World} {gb fb tb N : Nat} {vw vp va vs : Value} {pf : ByteArray → Value} {g : GS} (h : GAt w gb fb tb vw vp va vs pf g) (hok : g.Ok N) (hnm : g.Nm) :
    Calls Tryz.prog 27 #[.pointer (some ⟨gb, 0, none⟩)] w fun e w' => ∃ v, e = .returned v ∧ w'.ownsRow w.heap.size 9 1 v g.who.length (strs g.who) ∧ Only [] w w' := by
  have c5 : w.cell? ⟨gb, 5, none⟩ = some (.map (some fb)) := h.blk.cell 5
  have HN := Lib.hid (none_any h)
  have hlen : (g.flight.map fun p => (p.1, pf p.1)).length = g.flight.length := by simp
  have hf := hok.few
  obtain ⟨D0, hown, hperm, hsz⟩ := h.flight.owns (P := Tryz.prog) (k := 9) Tryz.underlying9 (by rw [hlen]; unfold maxLen; omega) (by
    intro p hp
    obtain ⟨q, hq, rfl⟩ := List.mem_map.1 hp
    have := hnm q hq
    unfold maxLen
    show q.1.size ≤ _
    omega)
  have hc := fun W => callsIn_wide.1 (Tryz.maps_Keys_86 (some fb) W)
  have hs := callsIn_wide.1 (Tryz.slices_Sorted_keys_85_86 fb _ D0 blind w hown (by rw [hsz, hlen]; unfold maxLen; omega) (by rw [hsz, hlen]; omega))
  have HS := Lib.hid hs
  have HC := Lib.hid hc
  clear hs hc
  go_enter Tryz.func27, Tryz.ntmps27
  go_wp2_with (first
    | (go_at_call 22; refine HN.out.mono ?_; rintro e w1 ⟨rfl, rfl⟩)
    | (go_at_call 86; refine (HC.out _).mono ?_; rintro e w' ⟨rfl, rfl⟩)
    | (go_at_call 85; refine (HS.out).mono ?_; rintro e w' ⟨v, ss, rfl, hS, hrow, hnil, hb⟩))
  go_ret
  have e1 : ss.mergeSort (fun x y => decide (x ≤ y)) = (g.flight.map fun p => p.1.data.toList).mergeSort (fun x y => decide (x ≤ y)) := by
    refine mergeSort_of_perm ((hS.trans hperm).trans ?_)
    rw [List.map_map]
    exact List.Perm.refl _
  have e2 : (ss.mergeSort (fun x y => decide (x ≤ y))).map encStr = strs g.who := by
    rw [strs_sorted, e1]
    rfl
  have e3 : ss.length = g.who.length := by
    have := congrArg List.length e2
    simpa [strs] using this
  rw [e2, e3] at hrow
  exact ⟨v, rfl, own_base hrow (by simp), ((Only.refl [] w).alloc _).below hb (Nat.le_refl _)⟩
end Go.Proofs.YthjgplgfcbhihaaGreat
/- Contracts: DeleteFunc of what is below the checkpoint; forget. -/
set_option linter.unusedVariables false
set_option linter.unusedSimpArgs false
namespace Go.Proofs.YthjgplgfcbhihaaGreat
open Go.RowKit Go Go.Sort Go.Lib Go.Shelf
/-- What the closure of forget asks. -/
def belowC (c : Int) (n : Int) : Bool := decide (n < c)
theorem belowC_at (c : Int) (B : Nat) (W : World) (hc : W.cell? ⟨B, 0, none⟩ = some (.int .i64 c)) (x : Int) :
    FnGives Tryz.prog 105 #[.pointer (some ⟨B, 0, none⟩)] #[.int .i64 x] (.bool (belowC c x)) W := by
  show Calls Tryz.prog 105 #[.int .i64 x, .pointer (some ⟨B, 0, none⟩)] W _
  unfold belowC
  by_cases hx : x < c
  · go_enter Tryz.func105, Tryz.ntmps105
    go_wp2
    go_ret
    exact ⟨by simp [hx], 0, rfl⟩
  · go_enter Tryz.func105, Tryz.ntmps105
    go_wp2
    go_ret
    exact ⟨by simp [hx], 0, rfl⟩
theorem oneIntC : OneCell (Value.int .i64) := fun _ => rfl
theorem enterForget1 : ∀ args w, (callFunc 105 args).run Tryz.prog w = .ok (.enter 105 args) w := enters_of Tryz.func105 (by kernel_rfl) rfl
theorem del_nilI (w : World) (lb : Array Value) : Calls Tryz.prog 106 #[.slice none 0 0, .func (.func 105) #[] lb] w fun e w' => e = .returned (.slice none 0 0) ∧ Only [] w w' := by
  go_enter Tryz.func106, Tryz.ntmps106
  go_wp2_with (go_at_call 126; refine (Tryz.slices_IndexFunc_empty (α := Int) _ _ _ _).mono ?_; rintro e w1 ⟨rfl, rfl⟩)
  go_ret
  exact ⟨rfl, Only.refl _ _⟩
/-- DeleteFunc with forget's closure, whatever the row. -/
theorem delC_any {w : World} {B : Nat} {v : Value} {xs : List Int} (c : Int) (hown : Own w v xs) (hc : w.cell? ⟨B, 0, none⟩ = some (.int .i64 c)) (hB : ∀ b, v.ownBlock = some b → b ≠ B) (hl : xs.length ≤ 1000000000) :
    Calls Tryz.prog 106 #[v, .func (.func 105) #[] #[.pointer (some ⟨B, 0, none⟩)]] w fun e w' => ∃ v', e = .returned v' ∧ RowTo w v w' v' (xs.filter fun x => !belowC c x) := by
  by_cases hv : v = .slice none 0 0
  · subst hv
    have hn : xs = [] := by
      rcases own_parts hown with ⟨_, q⟩ | ⟨g, cap, cs, q, _⟩
      · exact q
      · cases q
    subst hn
    exact (del_nilI w _).mono fun e w' ⟨h1, h2⟩ => ⟨_, h1, RowTo.same (Own.nil _) h2⟩
  · obtain ⟨g, cap, rfl, hb, hg, hn, hm, hz, hH⟩ := holds_of_ownsRow (enc := Value.int .i64) (zs := xs) hown hv
    have hBl : B < w.heap.size := block_lt_of_cell hc
    have hne : B ≠ g := fun e => hB g rfl e.symm
    have := Tryz.slices_DeleteFunc (Value.int .i64) oneIntC (belowC c) 105 #[.pointer (some ⟨B, 0, none⟩)] enterForget1 0 zeroInt g 0 cap xs.toArray w
      (fun W x hb' => belowC_at c B W ((hb'.cell (p := ⟨B, 0, none⟩) hBl).trans hc) x)
      (fun n os dk x _ => belowC_at c B _ (by
        unfold sortWorld
        rw [cell?_grow _ _ _ (by show B < (putRow _ _ _ _ _).heap.size; rw [size_putRow]; exact hBl), cell?_putRow_other _ _ g 0 _ _ (Or.inl (by show B ≠ g; exact hne))]
        exact hc) x) hH (by simp; omega) (by simpa using hn)
    rw [show xs.toArray.size = xs.length by simp] at this
    refine Calls.mono this ?_
    rintro e w' ⟨rfl, q, rfl⟩
    simp only []
    have hle : (xs.filter fun x => !belowC c x).length ≤ xs.length := List.length_filter_le _ _
    have hr := ownsRow_putRow (enc := Value.int .i64) (q := q) (ys := (xs.filter fun x => !belowC c x) ++ List.replicate (xs.length - (xs.filter fun x => !belowC c x).length) 0) (k := (xs.filter fun x => !belowC c x).length) hown (by simp; omega) hle
    rw [List.take_left] at hr
    have hO : ∀ d : Array Int, Only [g] w (putRow (Value.int .i64) (Sort.ahead w q) g 0 d) := fun d => ⟨rfl, rfl, rfl, by simp [putRow, mapBlock, Sort.ahead], fun k _ hk => by
      have : g ≠ k := by simp at hk; omega
      simp [putRow, mapBlock, Sort.ahead, Array.getElem?_modify, this]⟩
    exact ⟨_, rfl, hr, hO _, fun b hb => .inl hb⟩
end Go.Proofs.YthjgplgfcbhihaaGreat
/- Contract: forget. -/
set_option linter.unusedVariables false
set_option linter.unusedSimpArgs false
namespace Go.Proofs.YthjgplgfcbhihaaGreat
open Go.RowKit Go Go.Sort Go.Lib
/-- Within, with one thing more that stays. -/
structure WithinE (S : List Nat) (E : World → Prop) (w : World) where
  W : World
  h : Only S w W
  e : E W
section
variable {P : Program} {Q : Exit → Act → World → Prop} {l : List Oper} {S : List Nat} {E : World → Prop}
theorem wp_region_inE {id : Nat} {a : Act} {w : World} (S H T1 T2 : List Nat) (E : World → Prop) (hE : E w.drew) (hm : P.follows .mixedOrders = true) (hB : planB .any l.toArray H T1 T2 = true) (hQ : ∀ c d u a w, Q (.panic c) (Act.put a d u) w → Q (.panic c) a w)
    (h : Nonempty (WithinE S E w) → wpQuiet P l.toArray (fun W => ∃ p : WithinE S E w, W = p.W) (fun a' => wpT1 P l.toArray (fun W => ∃ p : WithinE S E w, W = p.W) Q (opsAt l T1) (fun a w => wpList P l.toArray Q (opsAt l T2) a w) a' w.drew) (opsAt l H) a) : (Code.region id l.toArray true).wp P Q a w :=
  wp_region_plan H T1 T2 hm hB hQ ⟨⟨_, (Only.refl S w).drew, hE⟩, rfl⟩ (h ⟨⟨_, (Only.refl S w).drew, hE⟩⟩)
theorem WithinE.cell {w : World} {x : Addr} {v : Value} (hc : w.cell? x = some v) (hn : x.block ∉ S) (p : WithinE S E w) : p.W.cell? x = some v := (p.h.cell (block_lt_of_cell hc) hn).trans hc
theorem check_ofE {w w' : World} {K : Act → World → Prop} {a : Act} (hO : Only S w w') (hE : E w') (h : K a w') : CheckQ (fun W => ∃ p : WithinE S E w, W = p.W) Q K .normal a w' := ⟨⟨⟨w', hO, hE⟩, rfl⟩, h⟩
end
section
variable {w : World} {gb fb tb N : Nat} {vw vp va vs : Value} {pf : ByteArray → Value} {g : GS}
/-- Two rows turned, one behind the other, then both stored. -/
theorem GAt.setAS (h : GAt w gb fb tb vw vp va vs pf g) {w1 w2 : World} {va' vs' : Value} {la ls : List Int} (k : RowTo w va w1 va' la) (k2 : RowTo w1 vs w2 vs' ls) :
    GAt ((w2.setCell ⟨gb, 7, none⟩ va').setCell ⟨gb, 8, none⟩ vs') gb fb tb vw vp va' vs' pf { g with acked := la, skipped := ls } ∧
      Stepped w ((w2.setCell ⟨gb, 7, none⟩ va').setCell ⟨gb, 8, none⟩ vs') (hG gb fb tb (rowsOf vw vp va vs pf g)) (hG gb fb tb (rowsOf vw vp va' vs' pf { g with acked := la, skipped := ls })) := by
  have hva : ∀ b, va.ownBlock = some b → b ∈ blocksOf (rowsOf vw vp va vs pf g) := fun b hb => mem_blocksOf.2 ⟨(va, g.acked), by simp [rowsOf], hb⟩
  have hvs : ∀ b, vs.ownBlock = some b → b ∈ blocksOf (rowsOf vw vp va vs pf g) := fun b hb => mem_blocksOf.2 ⟨(vs, g.skipped), by simp [rowsOf], hb⟩
  have out : ∀ (v : Value), (∀ b, v.ownBlock = some b → b ∈ blocksOf (rowsOf vw vp va vs pf g)) → gb ∉ v.ownBlock.toList ∧ fb ∉ v.ownBlock.toList ∧ tb ∉ v.ownBlock.toList := fun v hv =>
    ⟨fun q => (h.rowne gb (hv gb (by simpa using q))).1 rfl, fun q => (h.rowne fb (hv fb (by simpa using q))).2.1 rfl, fun q => (h.rowne tb (hv tb (by simpa using q))).2.2 rfl⟩
  obtain ⟨a1, a2, a3⟩ := out va hva
  obtain ⟨s1, s2, s3⟩ := out vs hvs
  have hset : Only [gb] w2 ((w2.setCell ⟨gb, 7, none⟩ va').setCell ⟨gb, 8, none⟩ vs') := ((Only.refl _ w2).setCell (.inl (by simp)) _).setCell (.inl (by simp)) _
  have hr1 : Rows w1 (rowsOf vw vp va' vs pf { g with acked := la }) := ((h.rows.perm (rot3 _ _ _ _)).turn k).perm (rot3 _ _ _ _).symm
  have hr2 : Rows w2 (rowsOf vw vp va' vs' pf { g with acked := la, skipped := ls }) := ((hr1.perm (rot4 _ _ _ _ _)).turn k2).perm (rot4 _ _ _ _ _).symm
  have hB := k2.only.blk (k.only.blk h.blk a1) s1
  have hnf := h.nef
  have hnt := h.net
  refine ⟨⟨?_, ?_, ?_, ?_, h.ne⟩, ?_⟩
  · exact (hB.set 7 va').set 8 vs'
  · exact ((h.flight.only k.only a2).only k2.only s2).only hset (by simp; exact fun q => hnf q)
  · exact ((h.tries.only k.only a3).only k2.only s3).only hset (by simp; exact fun q => hnt q)
  · refine hr2.only hset (fun b hb q => ?_)
    have e : b = gb := by simpa using q
    subst e
    obtain ⟨p, hp, hq⟩ := mem_blocksOf.1 hb
    obtain ⟨cur, hcur⟩ := own_type (hr2.own p hp) hq
    exact hcur.other hB (by decide) rfl
  · refine Stepped.of (S := gb :: (va.ownBlock.toList ++ vs.ownBlock.toList)) ((((k.only.mono (fun b hb => by simp at hb ⊢; exact .inr (.inl hb))).trans (k2.only.mono (fun b hb => by simp at hb ⊢; exact .inr (.inr hb)))).setCell (.inl (by simp)) _).setCell (.inl (by simp)) _) (fun b hb => ?_) (fun b hb => ?_)
    · simp only [List.mem_cons, List.mem_append] at hb
      rcases hb with rfl | hb | hb
      · exact mem_hG.2 (.inl rfl)
      · exact mem_hG.2 (.inr (.inr (.inr (hva b (by simpa using hb)))))
      · exact mem_hG.2 (.inr (.inr (.inr (hvs b (by simpa using hb)))))
    · rcases mem_hG.1 hb with q | q | q | q
      · exact .inl (mem_hG.2 (.inl q))
      · exact .inl (mem_hG.2 (.inr (.inl q)))
      · exact .inl (mem_hG.2 (.inr (.inr (.inl q))))
      · obtain ⟨p, hp, hq⟩ := mem_blocksOf.1 q
        have hp' : p = (va', la) ∨ p = (vs', ls) ∨ p ∈ rowsOf vw vp va vs pf g := by
          simp only [rowsOf, List.mem_cons] at hp ⊢
          rcases hp with hp | hp | hp | hp | hp
          · simp [hp]
          · simp [hp]
          · simp [hp]
          · simp [hp]
          · exact .inr (.inr (.inr (.inr (.inr (.inr hp)))))
        rcases hp' with rfl | rfl | hp'
        · rcases k.blk b hq with q2 | q2
          · exact .inl (mem_hG.2 (.inr (.inr (.inr (hva b q2)))))
          · exact .inr q2
        · rcases k2.blk b hq with q2 | q2
          · exact .inl (mem_hG.2 (.inr (.inr (.inr (hvs b q2)))))
          · exact .inr (Nat.le_trans k.only.size q2)
        · exact .inl (mem_hG.2 (.inr (.inr (.inr (mem_blocksOf.2 ⟨p, hp', hq⟩)))))
theorem va_vs (h : GAt w gb fb tb vw vp va vs pf g) : ∀ b, vs.ownBlock = some b → b ∉ va.ownBlock.toList := fun b hb q => by
  have := (h.rows.perm (rot3 _ _ _ _)).apart b (by simpa using q)
  exact this (mem_blocksOf.2 ⟨(vs, g.skipped), by simp, hb⟩)
set_option maxRecDepth 100000 in
set_option maxHeartbeats 2000000 in
theorem forget_any (h : GAt w gb fb tb vw vp va vs pf g) (hok : g.Ok N) (hN : N ≤ 10000) :
    Calls Tryz.prog 80 #[.pointer (some ⟨gb, 0, none⟩)] w fun e w' => e = .returned (.tuple #[]) ∧ GOut w (hG gb fb tb (rowsOf vw vp va vs pf g)) gb fb tb g.forget w' := by
  have hac := hok.len hok.ac
  have hsk := hok.len hok.sk
  have hrow := h.rowne
  have hlth := h.lt
  have hrn := h.rows.nodup
  have HC := Lib.hid (ckpt_any h hok (by omega))
  have h7 : w.cell? ⟨gb, 7, none⟩ = some va := h.blk.cell 7
  have h8 : w.cell? ⟨gb, 8, none⟩ = some vs := h.blk.cell 8
  obtain ⟨c, hcE⟩ : ∃ c, c = g.checkpoint := ⟨_, rfl⟩
  rw [← hcE] at HC
  have HF : Hid (g.forget = { g with acked := g.acked.filter (fun x => !belowC c x), skipped := g.skipped.filter (fun x => !belowC c x) }) := by unfold Hid GS.forget belowC; rw [hcE]
  clear hcE
  obtain ⟨H, hH⟩ : ∃ H, H = hG gb fb tb (rowsOf vw vp va vs pf g) := ⟨_, rfl⟩
  rw [← hH]
  go_enter Tryz.func80, Tryz.ntmps80
  go_wp2_with (go_at_call 18; refine HC.out.mono ?_; rintro e w1 ⟨rfl, ho1⟩)
  obtain ⟨W, hW⟩ : ∃ W, W = w1.alloc (.cells #[.int .i64 c] 3) := ⟨_, rfl⟩
  have hO1 : Only [] w W := by rw [hW]; exact ho1.alloc _
  have hcB : W.cell? ⟨w1.heap.size, 0, none⟩ = some (.int .i64 c) := by rw [hW]; exact (Blk.new w1 3 #[.int .i64 c]).cell 0
  have hBne : ∀ b ∈ hG gb fb tb (rowsOf vw vp va vs pf g), b ≠ w1.heap.size := fun b hb => by have := hlth b hb; have := ho1.size; omega
  rw [← hW]
  have hD : Only [] w W.drew := hO1.drew
  have hA := h.only0 hD
  have hSt0 := Stepped.first0 hD (Stepped.refl W.drew (hG gb fb tb (rowsOf vw vp va vs pf g)))
  have hset := fun (w2 w3 : World) (v2 v3 : Value) (k2 : RowTo W.drew va w2 v2 (g.acked.filter (fun x => !belowC c x))) (k3 : RowTo w2 vs w3 v3 (g.skipped.filter (fun x => !belowC c x))) => hA.setAS k2 k3
  have hcD : W.drew.cell? ⟨w1.heap.size, 0, none⟩ = some (.int .i64 c) := hcB
  obtain ⟨B, hBB⟩ : ∃ B, B = w1.heap.size := ⟨_, rfl⟩
  rw [← hBB] at hBne hcB hcD ⊢
  have hBl : B < W.heap.size := block_lt_of_cell hcB
  clear hW hBB
  have hva : ∀ b, va.ownBlock = some b → b ∈ hG gb fb tb (rowsOf vw vp va vs pf g) := fun b hb => mem_hG.2 (.inr (.inr (.inr (mem_blocksOf.2 ⟨(va, g.acked), by simp [rowsOf], hb⟩))))
  have hvs : ∀ b, vs.ownBlock = some b → b ∈ hG gb fb tb (rowsOf vw vp va vs pf g) := fun b hb => mem_hG.2 (.inr (.inr (.inr (mem_blocksOf.2 ⟨(vs, g.skipped), by simp [rowsOf], hb⟩))))
  have hda := delC_any (w := W.drew) (B := B) c hA.ownA hcD (fun b hb => hBne b (hva b hb)) (by omega)
  have hnaB : B ∉ va.ownBlock.toList := fun q => hBne B (hva B (by simpa using q)) rfl
  have havs := va_vs h
  have hds := fun (w2 : World) (k2 : Only va.ownBlock.toList W.drew w2) => delC_any (w := w2) (B := B) c (hA.ownS.only k2 havs) ((k2.cell (by exact hBl) hnaB).trans hcD) (fun b hb => hBne b (hvs b hb)) (by omega)
  have hga : gb ∉ va.ownBlock.toList := fun q => (hrow gb (mem_blocksOf.2 ⟨(va, g.acked), by simp [rowsOf], by simpa using q⟩)).1 rfl
  have hgs : gb ∉ vs.ownBlock.toList := fun q => (hrow gb (mem_blocksOf.2 ⟨(vs, g.skipped), by simp [rowsOf], by simpa using q⟩)).1 rfl
  have hB0 := hA.blk
  obtain ⟨la, hla⟩ : ∃ l, l = g.acked.filter (fun x => !belowC c x) := ⟨_, rfl⟩
  obtain ⟨ls, hls⟩ : ∃ l, l = g.skipped.filter (fun x => !belowC c x) := ⟨_, rfl⟩
  rw [← hla] at hset hda HF
  rw [← hls] at hset hds HF
  rw [← hH] at hset hSt0
  have HDa := Lib.hid hda
  have HDs := Lib.hid hds
  have HSet := Lib.hid hset
  have e7 : W.drew.cell? ⟨gb, 7, none⟩ = some va := hA.blk.cell 7
  have e8 : W.drew.cell? ⟨gb, 8, none⟩ = some vs := hA.blk.cell 8
  obtain ⟨E, hE⟩ : ∃ E : World → Prop, E = fun W => W.cell? ⟨gb, 8, none⟩ = some vs := ⟨_, rfl⟩
  have hE1 : ∀ W, E W → W.cell? ⟨gb, 8, none⟩ = some vs := fun W h => by rw [hE] at h; exact h
  have hE2 : ∀ W : World, W.cell? ⟨gb, 8, none⟩ = some vs → E W := fun W h => by rw [hE]; exact h
  have D2 := fun p : WithinE (gb :: (va.ownBlock.toList ++ vs.ownBlock.toList)) E W => hE1 _ p.e
  obtain ⟨S, hS⟩ : ∃ S, S = gb :: (va.ownBlock.toList ++ vs.ownBlock.toList) := ⟨_, rfl⟩
  rw [← hS] at D2
  have hSg : gb ∈ S := by rw [hS]; simp
  have hSa : ∀ b ∈ va.ownBlock.toList, b ∈ S := fun b hb => by rw [hS]; simp at hb ⊢; exact .inr (.inl hb)
  have hSs : ∀ b ∈ vs.ownBlock.toList, b ∈ S := fun b hb => by rw [hS]; simp at hb ⊢; exact .inr (.inr hb)
  have HSt0 := Lib.hid hSt0
  clear hda hds hset hla hls hH hE hS hA hSt0 h7 h8 hcB
  refine wp_region_inE S [0, 1, 2, 3, 4, 6, 8, 9, 10, 11, 12] [5, 7, 13, 14, 15, 16] [17, 18, 19] E (hE2 _ e8) (by kernel_rfl) (by kernel_rfl) (by intro c d u a w h; cases d <;> exact h) ?_
  intro hne
  show wpQuiet _ _ _ _ [_, _, _, _, _, _, _, _, _, _, _] _
  repeat (go_big_quiet_step (fail))
  refine wpQuiet_nil ?_
  show wpList _ _ _ [_] _ _
  go_wp2_with fail
  refine check_ofE (S := S) (Only.refl _ _).drew (hE2 _ e8) ?_
  show wpList _ _ _ [_] _ _
  go_wp2_with (go_at_call 106; refine HDa.out.mono ?_; rintro e w2 ⟨v2, rfl, kr2⟩; have hB2 := kr2.only.blk hB0 hga)
  have f8 : w2.cell? ⟨gb, 8, none⟩ = some vs := hB2.cell 8
  have hO2 : Only S W w2 := (Only.refl S W).drew.trans (kr2.only.mono hSa)
  refine check_ofE (S := S) hO2 (hE2 _ f8) ?_
  show wpList _ _ _ [_] _ _
  go_wp2_with (go_at_call 106; refine (HDs.out _ kr2.only).mono ?_; rintro e w3 ⟨v3, rfl, kr3⟩; have hB3 := kr3.only.blk hB2 hgs)
  have g8 : w3.cell? ⟨gb, 8, none⟩ = some vs := hB3.cell 8
  have hO3 : Only S W w3 := hO2.trans (kr3.only.mono hSs)
  refine check_ofE (S := S) hO3 (hE2 _ g8) ?_
  have hres := HSet.out w2 w3 v2 v3 kr2 kr3
  obtain ⟨A2, c2, rfl, _, _⟩ := own_form kr2.own
  obtain ⟨A3, c3, rfl, _, _⟩ := own_form kr3.own
  have HRes := Lib.hid hres
  have g7 : w3.cell? ⟨gb, 7, none⟩ = some va := hB3.cell 7
  have gf := fun j => hB3.free j
  clear hres kr2 kr3 HSet HDa HDs
  show wpList _ _ _ [_] _ _
  go_wp2_with fail
  refine check_ofE (S := S) hO3 (hE2 _ g8) ?_
  show wpList _ _ _ [_] _ _
  go_wp2_with fail
  refine check_ofE (S := S) hO3 (hE2 _ g8) ?_
  show wpList _ _ _ [_] _ _
  go_wp2_with fail
  refine check_ofE (S := S) (hO3.setCell (.inl hSg) _) (hE2 _ ((hB3.set 7 _).cell 8)) ?_
  show wpList _ _ _ [_, _, _] _ _
  go_wp2
  go_end0
  have q := HRes.out
  rw [HF.out]
  exact ⟨rfl, _, _, _, _, _, q.1, HSt0.out.trans q.2⟩
end
end Go.Proofs.YthjgplgfcbhihaaGreat
/- Contract: Ack. -/
set_option linter.unusedVariables false
set_option linter.unusedSimpArgs false
namespace Go.Proofs.YthjgplgfcbhihaaGreat
open Go.RowKit Go Go.Sort Go.Lib
/-- A row that lies beside the group. -/
structure Beside (w : World) (v : Value) (xs : List Int) (H : List Nat) : Prop where
  own : Own w v xs
  out : ∀ b, v.ownBlock = some b → b ∉ H
theorem Beside.step {w w' : World} {v : Value} {xs : List Int} {H H' : List Nat} (h : Beside w v xs H) (k : Stepped w w' H H') : Beside w' v xs H' := by
  obtain ⟨⟨S, k1, k2⟩, k3⟩ := k
  refine ⟨h.own.only k1 (fun b hb q => h.out b hb (k2 b q)), fun b hb q => ?_⟩
  rcases k3 b q with q2 | q2
  · exact h.out b hb q2
  · have := h.own.lt b hb
    omega
theorem foldl_take_succ {α β : Type} (f : β → α → β) (l : List α) (b : β) (i : Nat) (h : i < l.length) : (l.take (i + 1)).foldl f b = f ((l.take i).foldl f b) l[i] := by
  rw [List.take_succ_eq_append_getElem h, List.foldl_append]
  rfl
/-- Ack behind i of those that were taken. -/
def ackI (T : GS) (D : List Int) (i : Nat) : GS := { T with acked := (D.take i).foldl insL T.acked, tries := (D.take i).foldl adel T.tries }
theorem ackI_zero (T : GS) (D : List Int) : ackI T D 0 = T := by
  cases T
  simp [ackI]
theorem ackI_succ (T : GS) (D : List Int) {i : Nat} (h : i < D.length) : ackI T D (i + 1) = { ackI T D i with acked := insL (ackI T D i).acked D[i], tries := adel (ackI T D i).tries D[i] } := by
  unfold ackI
  simp only [foldl_take_succ _ _ _ _ h]
theorem ackI_ok {T : GS} {N : Nat} {D : List Int} (h : T.Ok N) (hD : ∀ x ∈ D, T.from_ ≤ x ∧ x < T.next) (i : Nat) : (ackI T D i).Ok N :=
  ⟨h.fr, h.bu, h.re, h.nx, h.wa, h.pa, Fed.fold _ _ h.ac (fun x hx => hD x (List.mem_of_mem_take hx)), h.sk, h.fl, h.few, h.nod, GS.adel_tr _ h.tr⟩
section
variable {w : World} {gb fb tb N : Nat} {vw vp va vs : Value} {pf : ByteArray → Value} {g : GS}
set_option maxRecDepth 100000 in
set_option maxHeartbeats 2000000 in
theorem ack_any (h : GAt w gb fb tb vw vp va vs pf g) (hok : g.Ok N) (hN : N ≤ 10000) (who : ByteArray) {lv : Value} {l : List Int} (hl : Slc w 1 lv l.length (ints l)) (hlb : ∀ b, lv.ownBlock = some b → b ∉ hG gb fb tb (rowsOf vw vp va vs pf g) ∨ l = []) (hll : l.length ≤ 1000000) :
    Calls Tryz.prog 35 #[.pointer (some ⟨gb, 0, none⟩), .string who, lv] w fun e w' => e = .returned (.int .i64 (g.ack who l).1) ∧ GOut w (hG gb fb tb (rowsOf vw vp va vs pf g)) gb fb tb (g.ack who l).2 w' := by
  have HT := Lib.hid (take_any h hok hN who hl hlb hll)
  obtain ⟨hTok, hTm, hTf, hTn⟩ := GS.take_ok hok who l
  rw [← hTf, ← hTn] at hTm
  have hTl := take_len (g := g) who l
  have hack : g.ack who l = (((g.take who l).1.length : Int), if (g.take who l).1 = [] then ackI (g.take who l).2 (g.take who l).1 (g.take who l).1.length else (ackI (g.take who l).2 (g.take who l).1 (g.take who l).1.length).forget) := by
    unfold GS.ack ackI
    rw [List.take_length]
  rw [hack]
  obtain ⟨R, hR⟩ : ∃ R, R = g.take who l := ⟨_, rfl⟩
  rw [← hR] at HT hTok hTm hTl ⊢
  obtain ⟨D, T⟩ := R
  dsimp only at HT hTok hTm hTl ⊢
  obtain ⟨H, hH⟩ : ∃ H, H = hG gb fb tb (rowsOf vw vp va vs pf g) := ⟨_, rfl⟩
  rw [← hH] at HT ⊢
  obtain ⟨Z, hZ⟩ : ∃ Z, Z = (if D = [] then ackI T D D.length else (ackI T D D.length).forget) := ⟨_, rfl⟩
  rw [← hZ]
  have HZ := Lib.hid hZ
  clear hack hR hH hTf hTn hZ
  go_enter Tryz.func35, Tryz.ntmps35
  go_wp2_with (go_at_call 79; refine HT.out.mono ?_; rintro e w1 ⟨ov, vw1, vp1, va1, vs1, pf1, rfl, hO1, hA1, hSt1, hob1⟩; obtain ⟨Ao, co, rfl, _, _⟩ := own_form hO1)
  go_loopw [16] (fun iv wr => ∃ (i : Nat) (vw' vp' va' vs' : Value) (pf' : ByteArray → Value), i ≤ D.length ∧ iv = .int .i64 i ∧ GAt wr gb fb tb vw' vp' va' vs' pf' (ackI T D i) ∧ Stepped w wr H (hG gb fb tb (rowsOf vw' vp' va' vs' pf' (ackI T D i))) ∧ Beside wr (.slice Ao D.length co) D (hG gb fb tb (rowsOf vw' vp' va' vs' pf' (ackI T D i)))) (fun iv _ => D.length - (intOf iv).toNat)
  case atStart =>
    refine ⟨0, vw1, vp1, va1, vs1, pf1, Nat.zero_le _, rfl, ?_⟩
    rw [ackI_zero]
    exact ⟨hA1, hSt1, hO1, fun b hb => (hob1 b hb).2⟩
  case round =>
    obtain ⟨i, vw', vp', va', vs', pf', hil, rfl, hA, hSt, hBs⟩ := hrel
    have hGok := ackI_ok hTok hTm i
    by_cases hlt : i < D.length
    · have hnext := ackI_succ T D hlt
      obtain ⟨A2, c2, e2, _, _, hel⟩ := hBs.own.slc.openI
      cases e2
      obtain ⟨bl, ol, rfl, hbl, hcl⟩ := hel i hlt
      obtain ⟨n, hn⟩ : ∃ n, n = D[i] := ⟨_, rfl⟩
      rw [← hn] at hnext hcl
      obtain ⟨G, hG⟩ : ∃ G, G = ackI T D i := ⟨_, rfl⟩
      rw [← hG] at hnext hA hSt hBs hGok
      have hal := hGok.len hGok.ac
      have hown := hA.ownA
      have hin := insert_any hown hGok.ac.ris (by omega) n
      have c7 : wr.cell? ⟨gb, 7, none⟩ = some va' := hA.blk.cell 7
      have hset := fun (w4 : World) (v4 : Value) (kr : RowTo wr va' w4 v4 (insL G.acked n)) => hA.setA kr
      have hgS : gb ∉ va'.ownBlock.toList := fun q => (hA.rowne gb (mem_blocksOf.2 ⟨(va', G.acked), by simp [rowsOf], by simpa using q⟩)).1 rfl
      have hB := hA.blk
      have HNext := Lib.hid hnext
      have HIn := Lib.hid hin
      have HSet := Lib.hid hset
      obtain ⟨Aa, ca, rfl, _, _⟩ := own_form hown
      clear hnext hel hn hG hin hset hown
      go_wp2_with (first
        | (go_at_call 78; refine HIn.out.mono ?_; rintro e w4 ⟨v4, rfl, kr4⟩
           obtain ⟨A4, c4, rfl, _, _⟩ := own_form kr4.own
           have q3 := HSet.out w4 _ kr4
           have hB4 := kr4.only.blk hB hgS
           have e7 : w4.cell? ⟨gb, 7, none⟩ = some (.slice Aa G.acked.length ca) := hB4.cell 7
           have e9 : w4.cell? ⟨gb, 9, none⟩ = some (.map (some tb)) := hB4.cell 9
           have ef := fun j => hB4.free j
           have hm4 : MapIs (Value.int .i64) (w4.setCell ⟨gb, 7, none⟩ (.slice A4 (insL G.acked n).length c4)) tb (G.tries.map fun p => (p.1, Value.int .i64 p.2)) := q3.1.tries
           have Q3 := Lib.hid q3
           clear q3)
        | (at_delete; refine wpList_delete_is rfl 58 3 rfl (keyEnc_int .i64) Tryz.underlying58 Tryz.underlying3 n rfl rfl hm4 ?_; intro w5 hm5 hk5))
      rw [adel_mapk (fun _ k => Value.int .i64 k)] at hm5
      obtain ⟨h4, st4⟩ := Q3.out
      obtain ⟨h5, st5⟩ := h4.setT hk5 hm5
      go_wp2
      refine ⟨⟨i + 1, vw', vp', .slice A4 (insL G.acked n).length c4, vs', pf', hlt, by simp, ?_⟩, by simp [intOf]; omega⟩
      rw [HNext.out]
      exact ⟨h5, hSt.trans (st4.trans st5), (hBs.step st4).step st5⟩
    · have hie : i = D.length := by omega
      subst hie
      have hF := forget_any hA hGok hN
      have HF := Lib.hid hF
      clear hF
      by_cases hD0 : D = []
      · have hz := HZ.out
        rw [if_pos hD0] at hz
        have HZ2 := Lib.hid hz
        subst hD0
        clear hz
        go_wp2
        go_ret
        rw [HZ2.out]
        exact ⟨rfl, _, _, _, _, _, hA, hSt⟩
      · have hz := HZ.out
        rw [if_neg hD0] at hz
        have HZ2 := Lib.hid hz
        have hlp : 0 < D.length := List.length_pos_iff.2 hD0
        clear hD0 hz
        go_wp2_with (go_at_call 80; refine HF.out.mono ?_; rintro e w6 ⟨rfl, hout⟩)
        go_ret
        obtain ⟨a1, a2, a3, a4, a5, k1, k2⟩ := hout
        rw [HZ2.out]
        exact ⟨rfl, _, _, _, _, _, k1, hSt.trans k2⟩
end
end Go.Proofs.YthjgplgfcbhihaaGreat
/- Contracts: Replay, Leave. -/
set_option linter.unusedVariables false
set_option linter.unusedSimpArgs false
namespace Go.Proofs.YthjgplgfcbhihaaGreat
open Go.RowKit Go Go.Sort Go.Lib
def repI (T : GS) (D : List Int) (i : Nat) : GS := { T with waiting := (D.take i).foldl insL T.waiting, tries := (D.take i).foldl adel T.tries }
theorem repI_zero (T : GS) (D : List Int) : repI T D 0 = T := by
  cases T
  simp [repI]
theorem repI_succ (T : GS) (D : List Int) {i : Nat} (h : i < D.length) : repI T D (i + 1) = { repI T D i with waiting := insL (repI T D i).waiting D[i], tries := adel (repI T D i).tries D[i] } := by
  unfold repI
  simp only [foldl_take_succ _ _ _ _ h]
theorem repI_ok {T : GS} {N : Nat} {D : List Int} (h : T.Ok N) (hD : ∀ x ∈ D, T.from_ ≤ x ∧ x < T.next) (i : Nat) : (repI T D i).Ok N :=
  ⟨h.fr, h.bu, h.re, h.nx, Fed.fold _ _ h.wa (fun x hx => hD x (List.mem_of_mem_take hx)), h.pa, h.ac, h.sk, h.fl, h.few, h.nod, GS.adel_tr _ h.tr⟩
def levI (T : GS) (D : List Int) (i : Nat) : GS := { T with waiting := (D.take i).foldl insL T.waiting }
theorem levI_zero (T : GS) (D : List Int) : levI T D 0 = T := by
  cases T
  simp [levI]
theorem levI_succ (T : GS) (D : List Int) {i : Nat} (h : i < D.length) : levI T D (i + 1) = { levI T D i with waiting := insL (levI T D i).waiting D[i] } := by
  unfold levI
  simp only [foldl_take_succ _ _ _ _ h]
theorem levI_ok {T : GS} {N : Nat} {D : List Int} (h : T.Ok N) (hD : ∀ x ∈ D, T.from_ ≤ x ∧ x < T.next) (i : Nat) : (levI T D i).Ok N :=
  ⟨h.fr, h.bu, h.re, h.nx, Fed.fold _ _ h.wa (fun x hx => hD x (List.mem_of_mem_take hx)), h.pa, h.ac, h.sk, h.fl, h.few, h.nod, h.tr⟩
section
variable {w : World} {gb fb tb N : Nat} {vw vp va vs : Value} {pf : ByteArray → Value} {g : GS}
/-- The parked ones put aside. -/
theorem GAt.asideP (h : GAt w gb fb tb vw vp va vs pf g) :
    GAt (w.setCell ⟨gb, 6, none⟩ (.slice none 0 0)) gb fb tb vw (.slice none 0 0) va vs pf { g with parked := [] } ∧
      Stepped w (w.setCell ⟨gb, 6, none⟩ (.slice none 0 0)) (hG gb fb tb (rowsOf vw vp va vs pf g)) (hG gb fb tb (rowsOf vw (.slice none 0 0) va vs pf { g with parked := [] })) ∧
      Beside (w.setCell ⟨gb, 6, none⟩ (.slice none 0 0)) vp g.parked (hG gb fb tb (rowsOf vw (.slice none 0 0) va vs pf { g with parked := [] })) := by
  obtain ⟨h1, h2⟩ := h.setP (⟨Own.nil w, (Only.refl [] w).of_nil, fun b hb => by cases hb⟩ : RowTo w vp w (.slice none 0 0) [])
  have hv : ∀ b, vp.ownBlock = some b → b ∈ blocksOf (rowsOf vw vp va vs pf g) := fun b hb => mem_blocksOf.2 ⟨(vp, g.parked), by simp [rowsOf], hb⟩
  refine ⟨h1, h2, h.ownP.only ((Only.refl [gb] w).setCell (.inl (by simp)) _) (fun b hb q => (h.rowne b (hv b hb)).1 (by simpa using q)), fun b hb q => ?_⟩
  have hne := h.rowne b (hv b hb)
  rcases mem_hG.1 q with q | q | q | q
  · exact hne.1 q
  · exact hne.2.1 q
  · exact hne.2.2 q
  · have ha := (h.rows.perm (swap2 _ _ _)).apart b hb
    refine ha ?_
    obtain ⟨p, hp, hq⟩ := mem_blocksOf.1 q
    simp only [rowsOf, List.mem_cons] at hp
    refine mem_blocksOf.2 ⟨p, ?_, hq⟩
    simp only [List.mem_cons]
    rcases hp with hp | hp | hp | hp | hp
    · exact .inl hp
    · subst hp; cases hq
    · exact .inr (.inl hp)
    · exact .inr (.inr (.inl hp))
    · exact .inr (.inr (.inr hp))
set_option maxRecDepth 100000 in
set_option maxHeartbeats 2000000 in
theorem replay_any (h : GAt w gb fb tb vw vp va vs pf g) (hok : g.Ok N) (hN : N ≤ 10000) :
    Calls Tryz.prog 38 #[.pointer (some ⟨gb, 0, none⟩)] w fun e w' => e = .returned (.int .i64 g.replay.1) ∧ GOut w (hG gb fb tb (rowsOf vw vp va vs pf g)) gb fb tb g.replay.2 w' := by
  have HN := Lib.hid (none_any h)
  have c6 : w.cell? ⟨gb, 6, none⟩ = some vp := h.blk.cell 6
  have cf := fun j => h.blk.free j
  obtain ⟨hA1, hSt1, hB1⟩ := h.asideP
  obtain ⟨D, hD⟩ : ∃ D, D = g.parked := ⟨_, rfl⟩
  obtain ⟨T, hT⟩ : ∃ T : GS, T = { g with parked := [] } := ⟨_, rfl⟩
  have hTm : ∀ x ∈ D, T.from_ ≤ x ∧ x < T.next := by rw [hD, hT]; exact hok.pa.mem
  have hTok : T.Ok N := by rw [hT]; exact ⟨hok.fr, hok.bu, hok.re, hok.nx, hok.wa, Fed.nil _ _, hok.ac, hok.sk, hok.fl, hok.few, hok.nod, hok.tr⟩
  have hrep : g.replay = ((D.length : Int), repI T D D.length) := by
    unfold GS.replay repI
    rw [List.take_length, hD, hT]
  rw [hrep]
  have hDl : D.length ≤ 1000 * N := by rw [hD]; exact hok.len hok.pa
  have hown := h.ownP
  rw [← hT] at hA1 hSt1 hB1
  rw [← hD] at hB1 hown
  obtain ⟨H, hH⟩ : ∃ H, H = hG gb fb tb (rowsOf vw vp va vs pf g) := ⟨_, rfl⟩
  rw [← hH] at hSt1 ⊢
  obtain ⟨Ao, co, rfl, _, _⟩ := own_form hown
  have HA1 := Lib.hid hA1
  have HSt1 := Lib.hid hSt1
  have HB1 := Lib.hid hB1
  clear hrep hD hT hH hA1 hSt1 hB1 hown h
  go_enter Tryz.func38, Tryz.ntmps38
  go_wp2_with (go_at_call 22; refine HN.out.mono ?_; rintro e w1 ⟨rfl, rfl⟩)
  go_loopw [17] (fun iv wr => ∃ (i : Nat) (vw' vp' va' vs' : Value) (pf' : ByteArray → Value), i ≤ D.length ∧ iv = .int .i64 i ∧ GAt wr gb fb tb vw' vp' va' vs' pf' (repI T D i) ∧ Stepped w wr H (hG gb fb tb (rowsOf vw' vp' va' vs' pf' (repI T D i))) ∧ Beside wr (.slice Ao D.length co) D (hG gb fb tb (rowsOf vw' vp' va' vs' pf' (repI T D i)))) (fun iv _ => D.length - (intOf iv).toNat)
  case atStart =>
    refine ⟨0, vw, .slice none 0 0, va, vs, pf, Nat.zero_le _, rfl, ?_⟩
    rw [repI_zero]
    exact ⟨HA1.out, HSt1.out, HB1.out⟩
  case round =>
    obtain ⟨i, vw', vp', va', vs', pf', hil, rfl, hA, hSt, hBs⟩ := hrel
    have hGok := repI_ok hTok hTm i
    by_cases hlt : i < D.length
    · have hnext := repI_succ T D hlt
      obtain ⟨A2, c2, e2, _, _, hel⟩ := hBs.own.slc.openI
      cases e2
      obtain ⟨bl, ol, rfl, hbl, hcl⟩ := hel i hlt
      obtain ⟨n, hn⟩ : ∃ n, n = D[i] := ⟨_, rfl⟩
      rw [← hn] at hnext hcl
      obtain ⟨G, hG⟩ : ∃ G, G = repI T D i := ⟨_, rfl⟩
      rw [← hG] at hnext hA hSt hBs hGok
      have hal := hGok.len hGok.wa
      have hown := hA.ownW
      have hin := insert_any hown hGok.wa.ris (by omega) n
      have c4 : wr.cell? ⟨gb, 4, none⟩ = some vw' := hA.blk.cell 4
      have hset := fun (w4 : World) (v4 : Value) (kr : RowTo wr vw' w4 v4 (insL G.waiting n)) => hA.setW kr
      have hgS : gb ∉ vw'.ownBlock.toList := fun q => (hA.rowne gb (mem_blocksOf.2 ⟨(vw', G.waiting), by simp [rowsOf], by simpa using q⟩)).1 rfl
      have hB := hA.blk
      have HNext := Lib.hid hnext
      have HIn := Lib.hid hin
      have HSet := Lib.hid hset
      obtain ⟨Aa, ca, rfl, _, _⟩ := own_form hown
      clear hnext hel hn hG hin hset hown
      go_wp2_with (first
        | (go_at_call 78; refine HIn.out.mono ?_; rintro e w4 ⟨v4, rfl, kr4⟩
           obtain ⟨A4, c4', rfl, _, _⟩ := own_form kr4.own
           have q3 := HSet.out w4 _ kr4
           have hB4 := kr4.only.blk hB hgS
           have e4 : w4.cell? ⟨gb, 4, none⟩ = some (.slice Aa G.waiting.length ca) := hB4.cell 4
           have e9 : w4.cell? ⟨gb, 9, none⟩ = some (.map (some tb)) := hB4.cell 9
           have ef := fun j => hB4.free j
           have hm4 : MapIs (Value.int .i64) (w4.setCell ⟨gb, 4, none⟩ (.slice A4 (insL G.waiting n).length c4')) tb (G.tries.map fun p => (p.1, Value.int .i64 p.2)) := q3.1.tries
           have Q3 := Lib.hid q3
           clear q3)
        | (at_delete; refine wpList_delete_is rfl 58 3 rfl (keyEnc_int .i64) Tryz.underlying58 Tryz.underlying3 n rfl rfl hm4 ?_; intro w5 hm5 hk5))
      rw [adel_mapk (fun _ k => Value.int .i64 k)] at hm5
      obtain ⟨h4, st4⟩ := Q3.out
      obtain ⟨h5, st5⟩ := h4.setT hk5 hm5
      go_wp2
      refine ⟨⟨i + 1, .slice A4 (insL G.waiting n).length c4', vp', va', vs', pf', hlt, by simp, ?_⟩, by simp [intOf]; omega⟩
      rw [HNext.out]
      exact ⟨h5, hSt.trans (st4.trans st5), (hBs.step st4).step st5⟩
    · have hie : i = D.length := by omega
      subst hie
      go_wp2
      go_ret
      exact ⟨rfl, _, _, _, _, _, hA, hSt⟩
set_option maxRecDepth 100000 in
set_option maxHeartbeats 2000000 in
theorem leave_any (h : GAt w gb fb tb vw vp va vs pf g) (hok : g.Ok N) (hN : N ≤ 10000) (who : ByteArray) :
    Calls Tryz.prog 31 #[.pointer (some ⟨gb, 0, none⟩), .string who] w fun e w' => e = .returned (.int .i64 (g.leave who).1) ∧ GOut w (hG gb fb tb (rowsOf vw vp va vs pf g)) gb fb tb (g.leave who).2 w' := by
  have HN := Lib.hid (none_any h)
  have HI := Lib.hid (is_any h who)
  cases hi : g.is who with
  | false =>
    have hR : g.leave who = (8, g) := by unfold GS.leave; rw [hi]; rfl
    rw [hR]
    rw [hi] at HI
    go_enter Tryz.func31, Tryz.ntmps31
    go_wp2_with (first
      | (go_at_call 22; refine HN.out.mono ?_; rintro e w1 ⟨rfl, rfl⟩)
      | (go_at_call 23; refine HI.out.mono ?_; rintro e w1 ⟨rfl, rfl⟩))
    go_ret
    exact ⟨rfl, GOut.refl h (Only.refl _ _)⟩
  | true =>
    rw [hi] at HI
    have c5 : w.cell? ⟨gb, 5, none⟩ = some (.map (some fb)) := h.blk.cell 5
    obtain ⟨D, hD⟩ : ∃ D, D = g.fl who := ⟨_, rfl⟩
    have hTm : ∀ x ∈ D, g.from_ ≤ x ∧ x < g.next := by rw [hD]; exact (hok.flOf who).mem
    have hDl : D.length ≤ 1000 * N := by rw [hD]; exact hok.len (hok.flOf who)
    have hlev : g.leave who = (0, { levI g D D.length with flight := adel g.flight who }) := by
      unfold GS.leave levI
      rw [hi, List.take_length, hD]
      rfl
    rw [hlev]
    have hlk := flightOf g pf who
    have hF := h.fl who
    have hfvE : ∀ i, fv pf (levI g D i) who = fv pf g who ∧ (levI g D i).fl who = D := fun i => ⟨rfl, by rw [hD]; rfl⟩
    obtain ⟨fo, hfo⟩ : ∃ fo, fo = fv pf g who := ⟨_, rfl⟩
    rw [← hfo] at hlk hF hfvE
    rw [← hD] at hF
    obtain ⟨Ao, co, rfl, _, _⟩ := own_form hF
    have HLk := Lib.hid hlk
    have HE := Lib.hid hfvE
    obtain ⟨H, hH⟩ : ∃ H, H = hG gb fb tb (rowsOf vw vp va vs pf g) := ⟨_, rfl⟩
    have HSt0 := Lib.hid (show Stepped w w H (hG gb fb tb (rowsOf vw vp va vs pf g)) by rw [hH]; exact Stepped.refl _ _)
    rw [← hH]
    have hm5 := h.flight
    have HA0 := Lib.hid h
    clear hlev hD hlk hF hfvE hfo hH hi h
    go_enter Tryz.func31, Tryz.ntmps31
    go_wp2_with (first
      | (go_at_call 22; refine HN.out.mono ?_; rintro e w1 ⟨rfl, rfl⟩)
      | (go_at_call 23; refine HI.out.mono ?_; rintro e w1 ⟨rfl, rfl⟩)
      | (refine wpList_lookup_is rfl 57 rfl keyEnc_string Tryz.underlying57 Tryz.underlying9 (zeroInts _) who rfl rfl hm5 _ HLk.out ?_))
    go_loopw [20] (fun iv wr => ∃ (i : Nat) (vw' : Value), i ≤ D.length ∧ iv = .int .i64 i ∧ GAt wr gb fb tb vw' vp va vs pf (levI g D i) ∧ Stepped w wr H (hG gb fb tb (rowsOf vw' vp va vs pf (levI g D i)))) (fun iv _ => D.length - (intOf iv).toNat)
    case atStart =>
      refine ⟨0, vw, Nat.zero_le _, rfl, ?_⟩
      rw [levI_zero]
      exact ⟨HA0.out, HSt0.out⟩
    case round =>
      obtain ⟨i, vw', hil, rfl, hA, hSt⟩ := hrel
      have hGok := levI_ok hok hTm i
      by_cases hlt : i < D.length
      · have hnext := levI_succ g D hlt
        have hfl := hA.fl who
        rw [(HE.out i).1, (HE.out i).2] at hfl
        obtain ⟨A2, c2, e2, _, _, hel⟩ := hfl.slc.openI
        cases e2
        obtain ⟨bl, ol, rfl, hbl, hcl⟩ := hel i hlt
        obtain ⟨n, hn⟩ : ∃ n, n = D[i] := ⟨_, rfl⟩
        rw [← hn] at hnext hcl
        obtain ⟨G, hG⟩ : ∃ G, G = levI g D i := ⟨_, rfl⟩
        rw [← hG] at hnext hA hSt hGok
        have hal := hGok.len hGok.wa
        have hown := hA.ownW
        have hin := insert_any hown hGok.wa.ris (by omega) n
        have c4 : wr.cell? ⟨gb, 4, none⟩ = some vw' := hA.blk.cell 4
        have hset := fun (w4 : World) (v4 : Value) (kr : RowTo wr vw' w4 v4 (insL G.waiting n)) => hA.setW kr
        have hgS : gb ∉ vw'.ownBlock.toList := fun q => (hA.rowne gb (mem_blocksOf.2 ⟨(vw', G.waiting), by simp [rowsOf], by simpa using q⟩)).1 rfl
        have hB := hA.blk
        have HNext := Lib.hid hnext
        have HIn := Lib.hid hin
        have HSet := Lib.hid hset
        obtain ⟨Aa, ca, rfl, _, _⟩ := own_form hown
        clear hnext hel hn hG hin hset hown
        go_wp2_with (go_at_call 78; refine HIn.out.mono ?_; rintro e w4 ⟨v4, rfl, kr4⟩
                     obtain ⟨A4, c4', rfl, _, _⟩ := own_form kr4.own
                     have q3 := HSet.out w4 _ kr4
                     have hB4 := kr4.only.blk hB hgS
                     have e4 : w4.cell? ⟨gb, 4, none⟩ = some (.slice Aa G.waiting.length ca) := hB4.cell 4
                     have ef := fun j => hB4.free j
                     have Q3 := Lib.hid q3
                     clear q3)
        obtain ⟨h4, st4⟩ := Q3.out
        refine ⟨⟨i + 1, .slice A4 (insL G.waiting n).length c4', hlt, by simp, ?_⟩, by simp [intOf]; omega⟩
        rw [HNext.out]
        exact ⟨h4, hSt.trans st4⟩
      · have hie : i = D.length := by omega
        subst hie
        have d5 : wr.cell? ⟨gb, 5, none⟩ = some (.map (some fb)) := hA.blk.cell 5
        have hmf : MapIs Value.string wr fb (g.flight.map fun p => (p.1, pf p.1)) := hA.flight
        go_wp2_with (at_delete; refine wpList_delete_is rfl 57 9 rfl keyEnc_string Tryz.underlying57 Tryz.underlying9 who rfl rfl hmf ?_; intro w5 hm5 hk5)
        go_ret
        obtain ⟨h5, st5⟩ := hA.delF hk5 hm5
        exact ⟨rfl, _, _, _, _, _, h5, hSt.trans st5⟩
end
end Go.Proofs.YthjgplgfcbhihaaGreat
/- Contract: Nak. -/
set_option linter.unusedVariables false
set_option linter.unusedSimpArgs false
namespace Go.Proofs.YthjgplgfcbhihaaGreat
open Go.RowKit Go Go.Sort Go.Lib
def nakI (how : Int) (T : GS) (D : List Int) (i : Nat) : GS := (D.take i).foldl (GS.nak1 how) T
theorem nakI_succ (how : Int) (T : GS) (D : List Int) {i : Nat} (h : i < D.length) : nakI how T D (i + 1) = GS.nak1 how (nakI how T D i) D[i] := foldl_take_succ _ _ _ _ h
theorem nakI_ok {how : Int} {T : GS} {N : Nat} {D : List Int} (h : T.Ok N) (hD : ∀ x ∈ D, T.from_ ≤ x ∧ x < T.next) (i : Nat) : (nakI how T D i).Ok N :=
  GS.nakAll_ok how _ h (fun x hx => hD x (List.mem_of_mem_take hx))
section
variable {w : World} {gb fb tb N : Nat} {vw vp va vs : Value} {pf : ByteArray → Value} {g : GS}
theorem kept_mapT {b : Nat} {kv : List (Int × Value)} (h : MapIs (Value.int .i64) w b kv) (p : Kept w [] w) : MapIs (Value.int .i64) p.W b kv := by
  obtain ⟨S, h1, h2⟩ := p.h
  exact h.only h1 (fun q => by have := (h2 b q).1; have := h.lt; omega)
theorem lookT (h : GAt w gb fb tb vw vp va vs pf g) (n : Int) (p : Kept w [] w) : (Instr.lookup 58 (.map (some tb)) (.int .i64 n) false).run Tryz.prog p.W = .ok (.int .i64 (g.tr n)) p.W := by
  have := (kept_mapT h.tries p).lookup (P := Tryz.prog) (keyEnc_int .i64) Tryz.underlying58 Tryz.underlying3 (zeroInt _) n false
  rw [triesOf] at this
  exact this
set_option maxRecDepth 100000 in
set_option maxHeartbeats 2000000 in
theorem nak3_any (h : GAt w gb fb tb vw vp va vs pf g) (hok : g.Ok N) (hN : N ≤ 10000) (who : ByteArray) {lv : Value} {l : List Int} (hl : Slc w 1 lv l.length (ints l)) (hlb : ∀ b, lv.ownBlock = some b → b ∉ hG gb fb tb (rowsOf vw vp va vs pf g) ∨ l = []) (hll : l.length ≤ 1000000) :
    Calls Tryz.prog 16 #[.pointer (some ⟨gb, 0, none⟩), .string who, .int .i64 3, lv] w fun e w' => e = .returned (.int .i64 (g.nak who 3 l).1) ∧ GOut w (hG gb fb tb (rowsOf vw vp va vs pf g)) gb fb tb (g.nak who 3 l).2 w' := by
  have HT := Lib.hid (take_any h hok hN who hl hlb hll)
  obtain ⟨hTok, hTm, hTf, hTn⟩ := GS.take_ok hok who l
  rw [← hTf, ← hTn] at hTm
  have hTl := take_len (g := g) who l
  have hack : g.nak who 3 l = (((g.take who l).1.length : Int), if (g.take who l).1 = [] then nakI 3 (g.take who l).2 (g.take who l).1 (g.take who l).1.length else (nakI 3 (g.take who l).2 (g.take who l).1 (g.take who l).1.length).forget) := by
    unfold GS.nak nakI
    rw [List.take_length, if_neg (by decide)]
  rw [hack]
  obtain ⟨R, hR⟩ : ∃ R, R = g.take who l := ⟨_, rfl⟩
  rw [← hR] at HT hTok hTm hTl ⊢
  obtain ⟨D, T⟩ := R
  dsimp only at HT hTok hTm hTl ⊢
  obtain ⟨H, hH⟩ : ∃ H, H = hG gb fb tb (rowsOf vw vp va vs pf g) := ⟨_, rfl⟩
  rw [← hH] at HT ⊢
  obtain ⟨Z, hZ⟩ : ∃ Z, Z = (if D = [] then nakI 3 T D D.length else (nakI 3 T D D.length).forget) := ⟨_, rfl⟩
  rw [← hZ]
  have HZ := Lib.hid hZ
  clear hack hR hH hTf hTn hZ
  go_enter Tryz.func16, Tryz.ntmps16
  go_wp2_with (go_at_call 79; refine HT.out.mono ?_; rintro e w1 ⟨ov, vw1, vp1, va1, vs1, pf1, rfl, hO1, hA1, hSt1, hob1⟩; obtain ⟨Ao, co, rfl, _, _⟩ := own_form hO1)
  go_loopw [28] (fun iv wr => ∃ (i : Nat) (vw' vp' va' vs' : Value) (pf' : ByteArray → Value), i ≤ D.length ∧ iv = .int .i64 i ∧ GAt wr gb fb tb vw' vp' va' vs' pf' (nakI 3 T D i) ∧ Stepped w wr H (hG gb fb tb (rowsOf vw' vp' va' vs' pf' (nakI 3 T D i))) ∧ Beside wr (.slice Ao D.length co) D (hG gb fb tb (rowsOf vw' vp' va' vs' pf' (nakI 3 T D i)))) (fun iv _ => D.length - (intOf iv).toNat)
  case atStart => exact ⟨0, vw1, vp1, va1, vs1, pf1, Nat.zero_le _, rfl, hA1, hSt1, hO1, fun b hb => (hob1 b hb).2⟩
  case round =>
    obtain ⟨i, vw', vp', va', vs', pf', hil, rfl, hA, hSt, hBs⟩ := hrel
    have hGok := nakI_ok (how := 3) hTok hTm i
    by_cases hlt : i < D.length
    · have hnext := nakI_succ 3 T D hlt
      obtain ⟨A2, c2, e2, _, _, hel⟩ := hBs.own.slc.openI
      cases e2
      obtain ⟨bl, ol, rfl, hbl, hcl⟩ := hel i hlt
      obtain ⟨n, hn⟩ : ∃ n, n = D[i] := ⟨_, rfl⟩
      rw [← hn] at hnext hcl
      obtain ⟨G, hGe⟩ : ∃ G, G = nakI 3 T D i := ⟨_, rfl⟩
      rw [← hGe] at hnext hA hSt hBs hGok
      have hal := hGok.len hGok.sk
      have hAd := hA.only0 (Only.refl [] wr)
      have hown := hAd.ownS
      have hin := insert_any hown hGok.sk.ris (by omega) n
      have hset := fun (w4 : World) (v4 : Value) (kr : RowTo _ vs' w4 v4 (insL G.skipped n)) => hAd.setS kr
      have hgS : gb ∉ vs'.ownBlock.toList := fun q => (hAd.rowne gb (mem_blocksOf.2 ⟨(vs', G.skipped), by simp [rowsOf], by simpa using q⟩)).1 rfl
      have hB := hAd.blk
      have HIn := Lib.hid hin
      have HSet := Lib.hid hset
      have HSt := Lib.hid (hSt.then0 (Only.refl [] wr))
      have HBs := Lib.hid (hBs.step (Stepped.of (Only.refl [] wr) (by simp) (fun b hb => .inl hb) : Stepped _ _ (hG gb fb tb (rowsOf vw' vp' va' vs' pf' G)) (hG gb fb tb (rowsOf vw' vp' va' vs' pf' G))))
      have c8 : wr.cell? ⟨gb, 8, none⟩ = some vs' := hA.blk.cell 8
      obtain ⟨Aa, ca, rfl, _, _⟩ := own_form hown
      have HNext := Lib.hid hnext
      clear hnext hel hn hGe hin hset hown
      go_wp2_with (first
        | (
           go_at_call 78; refine HIn.out.mono ?_; rintro e w4 ⟨v4, rfl, kr4⟩
           obtain ⟨A4, c4', rfl, _, _⟩ := own_form kr4.own
           have q3 := HSet.out w4 _ kr4
           have hB4 := kr4.only.blk hB hgS
           have e4 : w4.cell? ⟨gb, 8, none⟩ = some (.slice Aa G.skipped.length ca) := hB4.cell 8
           have e9 : w4.cell? ⟨gb, 9, none⟩ = some (.map (some tb)) := hB4.cell 9
           have ef := fun j => hB4.free j
           have Q3 := Lib.hid q3
           clear q3
           have hm4 : MapIs (Value.int .i64) (w4.setCell ⟨gb, 8, none⟩ (.slice A4 (insL G.skipped n).length c4')) tb (G.tries.map fun p => (p.1, Value.int .i64 p.2)) := Q3.out.1.tries)
        | (at_delete; refine wpList_delete_is rfl 58 3 rfl (keyEnc_int .i64) Tryz.underlying58 Tryz.underlying3 n rfl rfl hm4 ?_; intro w5 hm5 hk5))
      rw [adel_mapk (fun _ k => Value.int .i64 k)] at hm5
      obtain ⟨h4, st4⟩ := Q3.out
      obtain ⟨h5, st5⟩ := h4.setT hk5 hm5
      go_wp2
      refine ⟨⟨i + 1, vw', vp', va', .slice A4 (insL G.skipped n).length c4', pf', hlt, by simp, ?_⟩, by simp [intOf]; omega⟩
      rw [HNext.out]
      exact ⟨h5, HSt.out.trans (st4.trans st5), (HBs.out.step st4).step st5⟩
    · have hie : i = D.length := by omega
      subst hie
      have hF := forget_any hA hGok hN
      have HF := Lib.hid hF
      clear hF
      by_cases hD0 : D = []
      · have hz := HZ.out
        rw [if_pos hD0] at hz
        have HZ2 := Lib.hid hz
        subst hD0
        clear hz
        go_wp2
        go_ret
        rw [HZ2.out]
        exact ⟨rfl, _, _, _, _, _, hA, hSt⟩
      · have hz := HZ.out
        rw [if_neg hD0] at hz
        have HZ2 := Lib.hid hz
        have hlp : 0 < D.length := List.length_pos_iff.2 hD0
        clear hD0 hz
        go_wp2_with (go_at_call 80; refine HF.out.mono ?_; rintro e w6 ⟨rfl, hout⟩)
        go_ret
        obtain ⟨a1, a2, a3, a4, a5, k1, k2⟩ := hout
        rw [HZ2.out]
        exact ⟨rfl, _, _, _, _, _, k1, hSt.trans k2⟩
set_option maxRecDepth 100000 in
set_option maxHeartbeats 2000000 in
theorem nak1_any (h : GAt w gb fb tb vw vp va vs pf g) (hok : g.Ok N) (hN : N ≤ 10000) (who : ByteArray) {lv : Value} {l : List Int} (hl : Slc w 1 lv l.length (ints l)) (hlb : ∀ b, lv.ownBlock = some b → b ∉ hG gb fb tb (rowsOf vw vp va vs pf g) ∨ l = []) (hll : l.length ≤ 1000000) :
    Calls Tryz.prog 16 #[.pointer (some ⟨gb, 0, none⟩), .string who, .int .i64 1, lv] w fun e w' => e = .returned (.int .i64 (g.nak who 1 l).1) ∧ GOut w (hG gb fb tb (rowsOf vw vp va vs pf g)) gb fb tb (g.nak who 1 l).2 w' := by
  have HT := Lib.hid (take_any h hok hN who hl hlb hll)
  obtain ⟨hTok, hTm, hTf, hTn⟩ := GS.take_ok hok who l
  rw [← hTf, ← hTn] at hTm
  have hTl := take_len (g := g) who l
  have hack : g.nak who 1 l = (((g.take who l).1.length : Int), if (g.take who l).1 = [] then nakI 1 (g.take who l).2 (g.take who l).1 (g.take who l).1.length else (nakI 1 (g.take who l).2 (g.take who l).1 (g.take who l).1.length).forget) := by
    unfold GS.nak nakI
    rw [List.take_length, if_neg (by decide)]
  rw [hack]
  obtain ⟨R, hR⟩ : ∃ R, R = g.take who l := ⟨_, rfl⟩
  rw [← hR] at HT hTok hTm hTl ⊢
  obtain ⟨D, T⟩ := R
  dsimp only at HT hTok hTm hTl ⊢
  obtain ⟨H, hH⟩ : ∃ H, H = hG gb fb tb (rowsOf vw vp va vs pf g) := ⟨_, rfl⟩
  rw [← hH] at HT ⊢
  obtain ⟨Z, hZ⟩ : ∃ Z, Z = (if D = [] then nakI 1 T D D.length else (nakI 1 T D D.length).forget) := ⟨_, rfl⟩
  rw [← hZ]
  have HZ := Lib.hid hZ
  clear hack hR hH hTf hTn hZ
  go_enter Tryz.func16, Tryz.ntmps16
  go_wp2_with (go_at_call 79; refine HT.out.mono ?_; rintro e w1 ⟨ov, vw1, vp1, va1, vs1, pf1, rfl, hO1, hA1, hSt1, hob1⟩; obtain ⟨Ao, co, rfl, _, _⟩ := own_form hO1)
  go_loopw [28] (fun iv wr => ∃ (i : Nat) (vw' vp' va' vs' : Value) (pf' : ByteArray → Value), i ≤ D.length ∧ iv = .int .i64 i ∧ GAt wr gb fb tb vw' vp' va' vs' pf' (nakI 1 T D i) ∧ Stepped w wr H (hG gb fb tb (rowsOf vw' vp' va' vs' pf' (nakI 1 T D i))) ∧ Beside wr (.slice Ao D.length co) D (hG gb fb tb (rowsOf vw' vp' va' vs' pf' (nakI 1 T D i)))) (fun iv _ => D.length - (intOf iv).toNat)
  case atStart => exact ⟨0, vw1, vp1, va1, vs1, pf1, Nat.zero_le _, rfl, hA1, hSt1, hO1, fun b hb => (hob1 b hb).2⟩
  case round =>
    obtain ⟨i, vw', vp', va', vs', pf', hil, rfl, hA, hSt, hBs⟩ := hrel
    have hGok := nakI_ok (how := 1) hTok hTm i
    by_cases hlt : i < D.length
    · have hnext := nakI_succ 1 T D hlt
      obtain ⟨A2, c2, e2, _, _, hel⟩ := hBs.own.slc.openI
      cases e2
      obtain ⟨bl, ol, rfl, hbl, hcl⟩ := hel i hlt
      obtain ⟨n, hn⟩ : ∃ n, n = D[i] := ⟨_, rfl⟩
      rw [← hn] at hnext hcl
      obtain ⟨G, hGe⟩ : ∃ G, G = nakI 1 T D i := ⟨_, rfl⟩
      rw [← hGe] at hnext hA hSt hBs hGok
      have hD : Only [] wr wr.drew := (Only.refl [] wr).drew
      have hal := hGok.len hGok.pa
      have hAd := hA.only0 hD
      have hown := hAd.ownP
      have hin := insert_any hown hGok.pa.ris (by omega) n
      have hset := fun (w4 : World) (v4 : Value) (kr : RowTo _ vp' w4 v4 (insL G.parked n)) => hAd.setP kr
      have hgS : gb ∉ vp'.ownBlock.toList := fun q => (hAd.rowne gb (mem_blocksOf.2 ⟨(vp', G.parked), by simp [rowsOf], by simpa using q⟩)).1 rfl
      have hB := hAd.blk
      have HIn := Lib.hid hin
      have HSet := Lib.hid hset
      have HSt := Lib.hid (hSt.then0 hD)
      have HBs := Lib.hid (hBs.step (Stepped.of hD (by simp) (fun b hb => .inl hb) : Stepped _ _ (hG gb fb tb (rowsOf vw' vp' va' vs' pf' G)) (hG gb fb tb (rowsOf vw' vp' va' vs' pf' G))))
      have c6 : wr.drew.cell? ⟨gb, 6, none⟩ = some vp' := hA.blk.cell 6
      obtain ⟨Aa, ca, rfl, _, _⟩ := own_form hown
      have HNext := Lib.hid hnext
      clear hnext hel hn hGe hin hset hown
      go_wp2_with fail
      refine wp_region_stages (C := fun W => ∃ p : Kept wr [] wr, W = p.W) [([0, 1, 2, 3, 4, 5, 6, 7, 8, 9, 10, 11, 12, 13, 14, 15, 16], [])] [] (by kernel_rfl) (by kernel_rfl) (by intro c d u a w h; cases d <;> exact h) ⟨⟨_, (Keeps.refl _ _ _).drew⟩, rfl⟩ ?_
      refine stagesFirst ?_
      show wpQuiet _ _ _ _ [_, _, _, _, _, _, _, _, _, _, _, _, _, _, _, _, _] _
      repeat (go_big_quiet_step (fail))
      refine wpQuiet_nil ?_
      refine stagesDone ?_
      go_wp2_with (
        go_at_call 78; refine HIn.out.mono ?_; rintro e w4 ⟨v4, rfl, kr4⟩
        obtain ⟨A4, c4', rfl, _, _⟩ := own_form kr4.own
        have q3 := HSet.out w4 _ kr4
        have hB4 := kr4.only.blk hB hgS
        have e4 : w4.cell? ⟨gb, 6, none⟩ = some (.slice Aa G.parked.length ca) := hB4.cell 6
        have e9 : w4.cell? ⟨gb, 9, none⟩ = some (.map (some tb)) := hB4.cell 9
        have ef := fun j => hB4.free j
        have Q3 := Lib.hid q3
        clear q3
        )
      obtain ⟨h4, st4⟩ := Q3.out
      go_wp2
      refine ⟨⟨i + 1, vw', .slice A4 (insL G.parked n).length c4', va', vs', pf', hlt, by simp, ?_⟩, by simp [intOf]; omega⟩
      rw [HNext.out]
      exact ⟨h4, HSt.out.trans st4, HBs.out.step st4⟩
    · have hie : i = D.length := by omega
      subst hie
      have hF := forget_any hA hGok hN
      have HF := Lib.hid hF
      clear hF
      by_cases hD0 : D = []
      · have hz := HZ.out
        rw [if_pos hD0] at hz
        have HZ2 := Lib.hid hz
        subst hD0
        clear hz
        go_wp2
        go_ret
        rw [HZ2.out]
        exact ⟨rfl, _, _, _, _, _, hA, hSt⟩
      · have hz := HZ.out
        rw [if_neg hD0] at hz
        have HZ2 := Lib.hid hz
        have hlp : 0 < D.length := List.length_pos_iff.2 hD0
        clear hD0 hz
        go_wp2_with (go_at_call 80; refine HF.out.mono ?_; rintro e w6 ⟨rfl, hout⟩)
        go_ret
        obtain ⟨a1, a2, a3, a4, a5, k1, k2⟩ := hout
        rw [HZ2.out]
        exact ⟨rfl, _, _, _, _, _, k1, hSt.trans k2⟩
set_option maxRecDepth 100000 in
set_option maxHeartbeats 2000000 in
theorem nak2_any (h : GAt w gb fb tb vw vp va vs pf g) (hok : g.Ok N) (hN : N ≤ 10000) (who : ByteArray) {lv : Value} {l : List Int} (hl : Slc w 1 lv l.length (ints l)) (hlb : ∀ b, lv.ownBlock = some b → b ∉ hG gb fb tb (rowsOf vw vp va vs pf g) ∨ l = []) (hll : l.length ≤ 1000000) :
    Calls Tryz.prog 16 #[.pointer (some ⟨gb, 0, none⟩), .string who, .int .i64 2, lv] w fun e w' => e = .returned (.int .i64 (g.nak who 2 l).1) ∧ GOut w (hG gb fb tb (rowsOf vw vp va vs pf g)) gb fb tb (g.nak who 2 l).2 w' := by
  have HT := Lib.hid (take_any h hok hN who hl hlb hll)
  obtain ⟨hTok, hTm, hTf, hTn⟩ := GS.take_ok hok who l
  rw [← hTf, ← hTn] at hTm
  have hTl := take_len (g := g) who l
  have hack : g.nak who 2 l = (((g.take who l).1.length : Int), if (g.take who l).1 = [] then nakI 2 (g.take who l).2 (g.take who l).1 (g.take who l).1.length else (nakI 2 (g.take who l).2 (g.take who l).1 (g.take who l).1.length).forget) := by
    unfold GS.nak nakI
    rw [List.take_length, if_neg (by decide)]
  rw [hack]
  obtain ⟨R, hR⟩ : ∃ R, R = g.take who l := ⟨_, rfl⟩
  rw [← hR] at HT hTok hTm hTl ⊢
  obtain ⟨D, T⟩ := R
  dsimp only at HT hTok hTm hTl ⊢
  obtain ⟨H, hH⟩ : ∃ H, H = hG gb fb tb (rowsOf vw vp va vs pf g) := ⟨_, rfl⟩
  rw [← hH] at HT ⊢
  obtain ⟨Z, hZ⟩ : ∃ Z, Z = (if D = [] then nakI 2 T D D.length else (nakI 2 T D D.length).forget) := ⟨_, rfl⟩
  rw [← hZ]
  have HZ := Lib.hid hZ
  clear hack hR hH hTf hTn hZ
  go_enter Tryz.func16, Tryz.ntmps16
  go_wp2_with (go_at_call 79; refine HT.out.mono ?_; rintro e w1 ⟨ov, vw1, vp1, va1, vs1, pf1, rfl, hO1, hA1, hSt1, hob1⟩; obtain ⟨Ao, co, rfl, _, _⟩ := own_form hO1)
  go_loopw [28] (fun iv wr => ∃ (i : Nat) (vw' vp' va' vs' : Value) (pf' : ByteArray → Value), i ≤ D.length ∧ iv = .int .i64 i ∧ GAt wr gb fb tb vw' vp' va' vs' pf' (nakI 2 T D i) ∧ Stepped w wr H (hG gb fb tb (rowsOf vw' vp' va' vs' pf' (nakI 2 T D i))) ∧ Beside wr (.slice Ao D.length co) D (hG gb fb tb (rowsOf vw' vp' va' vs' pf' (nakI 2 T D i)))) (fun iv _ => D.length - (intOf iv).toNat)
  case atStart => exact ⟨0, vw1, vp1, va1, vs1, pf1, Nat.zero_le _, rfl, hA1, hSt1, hO1, fun b hb => (hob1 b hb).2⟩
  case round =>
    obtain ⟨i, vw', vp', va', vs', pf', hil, rfl, hA, hSt, hBs⟩ := hrel
    have hGok := nakI_ok (how := 2) hTok hTm i
    by_cases hlt : i < D.length
    · have hnext := nakI_succ 2 T D hlt
      obtain ⟨A2, c2, e2, _, _, hel⟩ := hBs.own.slc.openI
      cases e2
      obtain ⟨bl, ol, rfl, hbl, hcl⟩ := hel i hlt
      obtain ⟨n, hn⟩ : ∃ n, n = D[i] := ⟨_, rfl⟩
      rw [← hn] at hnext hcl
      obtain ⟨G, hGe⟩ : ∃ G, G = nakI 2 T D i := ⟨_, rfl⟩
      rw [← hGe] at hnext hA hSt hBs hGok
      have hD : Only [] wr wr.drew := (Only.refl [] wr).drew
      have hgl := hA.blk.lt
      have c2 : wr.cell? ⟨gb, 2, none⟩ = some (.int .i64 G.retries) := hA.blk.cell 2
      have c9 : wr.cell? ⟨gb, 9, none⟩ = some (.map (some tb)) := hA.blk.cell 9
      have k2 := Kept.cell (a := wr) (R := []) c2 (.inl hgl)
      have k9 := Kept.cell (a := wr) (R := []) c9 (.inl hgl)
      have klk := lookT hA n
      obtain ⟨t, ht⟩ : ∃ t, t = G.tr n := ⟨_, rfl⟩
      obtain ⟨r, hr⟩ : ∃ r, r = G.retries := ⟨_, rfl⟩
      rw [← ht] at klk
      rw [← hr] at k2
      by_cases htr : t ≤ r
      · have hstep : GS.nak1 2 G n = { G with waiting := insL G.waiting n } := by
          unfold GS.nak1
          rw [if_neg (by decide), if_pos ⟨rfl, by rw [← ht, ← hr]; exact htr⟩]
        rw [hstep] at hnext
        have hal := hGok.len hGok.wa
        have hAd := hA.only0 hD
        have hown := hAd.ownW
        have hin := insert_any hown hGok.wa.ris (by omega) n
        have hset := fun (w4 : World) (v4 : Value) (kr : RowTo _ vw' w4 v4 (insL G.waiting n)) => hAd.setW kr
        have hgS : gb ∉ vw'.ownBlock.toList := fun q => (hAd.rowne gb (mem_blocksOf.2 ⟨(vw', G.waiting), by simp [rowsOf], by simpa using q⟩)).1 rfl
        have hB := hAd.blk
        have HIn := Lib.hid hin
        have HSet := Lib.hid hset
        have HSt := Lib.hid (hSt.then0 hD)
        have HBs := Lib.hid (hBs.step (Stepped.of hD (by simp) (fun b hb => .inl hb) : Stepped _ _ (hG gb fb tb (rowsOf vw' vp' va' vs' pf' G)) (hG gb fb tb (rowsOf vw' vp' va' vs' pf' G))))
        have c4 : wr.drew.cell? ⟨gb, 4, none⟩ = some vw' := hA.blk.cell 4
        obtain ⟨Aa, ca, rfl, _, _⟩ := own_form hown
        have HNext := Lib.hid hnext
        clear hnext hel hn hGe hin hset hown hstep ht hr c2 c9
        go_wp2_with fail
        refine wp_region_stages (C := fun W => ∃ p : Kept wr [] wr, W = p.W) [([0, 1, 2, 3, 4, 5, 6, 7, 8, 9, 10, 11, 12, 13, 14, 15, 16], [])] [] (by kernel_rfl) (by kernel_rfl) (by intro c d u a w h; cases d <;> exact h) ⟨⟨_, (Keeps.refl _ _ _).drew⟩, rfl⟩ ?_
        refine stagesFirst ?_
        show wpQuiet _ _ _ _ [_, _, _, _, _, _, _, _, _, _, _, _, _, _, _, _, _] _
        repeat (go_big_quiet_step (fail))
        refine wpQuiet_nil ?_
        refine stagesDone ?_
        go_wp2_with (
          go_at_call 78; refine HIn.out.mono ?_; rintro e w4 ⟨v4, rfl, kr4⟩
          obtain ⟨A4, c4', rfl, _, _⟩ := own_form kr4.own
          have q3 := HSet.out w4 _ kr4
          have hB4 := kr4.only.blk hB hgS
          have e4 : w4.cell? ⟨gb, 4, none⟩ = some (.slice Aa G.waiting.length ca) := hB4.cell 4
          have e9 : w4.cell? ⟨gb, 9, none⟩ = some (.map (some tb)) := hB4.cell 9
          have ef := fun j => hB4.free j
          have Q3 := Lib.hid q3
          clear q3
          )
        obtain ⟨h4, st4⟩ := Q3.out
        go_wp2
        refine ⟨⟨i + 1, .slice A4 (insL G.waiting n).length c4', vp', va', vs', pf', hlt, by simp, ?_⟩, by simp [intOf]; omega⟩
        rw [HNext.out]
        exact ⟨h4, HSt.out.trans st4, HBs.out.step st4⟩
      · have hstep : GS.nak1 2 G n = { G with parked := insL G.parked n } := by
          unfold GS.nak1
          rw [if_neg (by decide), if_neg (fun q => htr (by rw [ht, hr]; exact q.2))]
        rw [hstep] at hnext
        have hal := hGok.len hGok.pa
        have hAd := hA.only0 hD
        have hown := hAd.ownP
        have hin := insert_any hown hGok.pa.ris (by omega) n
        have hset := fun (w4 : World) (v4 : Value) (kr : RowTo _ vp' w4 v4 (insL G.parked n)) => hAd.setP kr
        have hgS : gb ∉ vp'.ownBlock.toList := fun q => (hAd.rowne gb (mem_blocksOf.2 ⟨(vp', G.parked), by simp [rowsOf], by simpa using q⟩)).1 rfl
        have hB := hAd.blk
        have HIn := Lib.hid hin
        have HSet := Lib.hid hset
        have HSt := Lib.hid (hSt.then0 hD)
        have HBs := Lib.hid (hBs.step (Stepped.of hD (by simp) (fun b hb => .inl hb) : Stepped _ _ (hG gb fb tb (rowsOf vw' vp' va' vs' pf' G)) (hG gb fb tb (rowsOf vw' vp' va' vs' pf' G))))
        have c6 : wr.drew.cell? ⟨gb, 6, none⟩ = some vp' := hA.blk.cell 6
        obtain ⟨Aa, ca, rfl, _, _⟩ := own_form hown
        have HNext := Lib.hid hnext
        clear hnext hel hn hGe hin hset hown hstep ht hr c2 c9
        go_wp2_with fail
        refine wp_region_stages (C := fun W => ∃ p : Kept wr [] wr, W = p.W) [([0, 1, 2, 3, 4, 5, 6, 7, 8, 9, 10, 11, 12, 13, 14, 15, 16], [])] [] (by kernel_rfl) (by kernel_rfl) (by intro c d u a w h; cases d <;> exact h) ⟨⟨_, (Keeps.refl _ _ _).drew⟩, rfl⟩ ?_
        refine stagesFirst ?_
        show wpQuiet _ _ _ _ [_, _, _, _, _, _, _, _, _, _, _, _, _, _, _, _, _] _
        repeat (go_big_quiet_step (fail))
        refine wpQuiet_nil ?_
        refine stagesDone ?_
        go_wp2_with (
          go_at_call 78; refine HIn.out.mono ?_; rintro e w4 ⟨v4, rfl, kr4⟩
          obtain ⟨A4, c4', rfl, _, _⟩ := own_form kr4.own
          have q3 := HSet.out w4 _ kr4
          have hB4 := kr4.only.blk hB hgS
          have e4 : w4.cell? ⟨gb, 6, none⟩ = some (.slice Aa G.parked.length ca) := hB4.cell 6
          have e9 : w4.cell? ⟨gb, 9, none⟩ = some (.map (some tb)) := hB4.cell 9
          have ef := fun j => hB4.free j
          have Q3 := Lib.hid q3
          clear q3
          )
        obtain ⟨h4, st4⟩ := Q3.out
        go_wp2
        refine ⟨⟨i + 1, vw', .slice A4 (insL G.parked n).length c4', va', vs', pf', hlt, by simp, ?_⟩, by simp [intOf]; omega⟩
        rw [HNext.out]
        exact ⟨h4, HSt.out.trans st4, HBs.out.step st4⟩
    · have hie : i = D.length := by omega
      subst hie
      have hF := forget_any hA hGok hN
      have HF := Lib.hid hF
      clear hF
      by_cases hD0 : D = []
      · have hz := HZ.out
        rw [if_pos hD0] at hz
        have HZ2 := Lib.hid hz
        subst hD0
        clear hz
        go_wp2
        go_ret
        rw [HZ2.out]
        exact ⟨rfl, _, _, _, _, _, hA, hSt⟩
      · have hz := HZ.out
        rw [if_neg hD0] at hz
        have HZ2 := Lib.hid hz
        have hlp : 0 < D.length := List.length_pos_iff.2 hD0
        clear hD0 hz
        go_wp2_with (go_at_call 80; refine HF.out.mono ?_; rintro e w6 ⟨rfl, hout⟩)
        go_ret
        obtain ⟨a1, a2, a3, a4, a5, k1, k2⟩ := hout
        rw [HZ2.out]
        exact ⟨rfl, _, _, _, _, _, k1, hSt.trans k2⟩
end
set_option maxRecDepth 100000 in
theorem nakNo_any {w : World} {p lv : Value} (who : ByteArray) {how : Int} (hh : how ≠ 1 ∧ how ≠ 2 ∧ how ≠ 3) :
    Calls Tryz.prog 16 #[p, .string who, .int .i64 how, lv] w fun e w' => e = .returned (.int .i64 0) ∧ Only [] w w' := by
  obtain ⟨h1, h2, h3⟩ := hh
  have d1 : (how != 1) = true := by rw [bne_iff_ne]; exact h1
  have d2 : (how != 2) = true := by rw [bne_iff_ne]; exact h2
  have d3 : (how != 3) = true := by rw [bne_iff_ne]; exact h3
  clear h1 h2 h3
  go_enter Tryz.func16, Tryz.ntmps16
  go_wp2
  go_ret
  exact ⟨rfl, Only.refl _ _⟩
section
variable {w : World} {gb fb tb N : Nat} {vw vp va vs : Value} {pf : ByteArray → Value} {g : GS}
theorem nak_any (h : GAt w gb fb tb vw vp va vs pf g) (hok : g.Ok N) (hN : N ≤ 10000) (who : ByteArray) (how : Int) {lv : Value} {l : List Int} (hl : Slc w 1 lv l.length (ints l)) (hlb : ∀ b, lv.ownBlock = some b → b ∉ hG gb fb tb (rowsOf vw vp va vs pf g) ∨ l = []) (hll : l.length ≤ 1000000) :
    Calls Tryz.prog 16 #[.pointer (some ⟨gb, 0, none⟩), .string who, .int .i64 how, lv] w fun e w' => e = .returned (.int .i64 (g.nak who how l).1) ∧ GOut w (hG gb fb tb (rowsOf vw vp va vs pf g)) gb fb tb (g.nak who how l).2 w' := by
  by_cases h1 : how = 1
  · subst h1
    exact nak1_any h hok hN who hl hlb hll
  by_cases h2 : how = 2
  · subst h2
    exact nak2_any h hok hN who hl hlb hll
  by_cases h3 : how = 3
  · subst h3
    exact nak3_any h hok hN who hl hlb hll
  have hR : g.nak who how l = (0, g) := by unfold GS.nak; rw [if_pos ⟨h1, h2, h3⟩]
  rw [hR]
  exact (nakNo_any who ⟨h1, h2, h3⟩).mono fun e w' ⟨e1, e2⟩ => ⟨e1, GOut.refl h e2⟩
end
end Go.Proofs.YthjgplgfcbhihaaGreat
/- Contract: Late. -/
set_option linter.unusedVariables false
set_option linter.unusedSimpArgs false
namespace Go.Proofs.YthjgplgfcbhihaaGreat
open Go.RowKit Go Go.Sort Go.Lib
/-- A row of texts that lies beside the group. -/
structure BesideS (w : World) (v : Value) (xs : List ByteArray) (H : List Nat) : Prop where
  own : w.ownsRow 0 9 1 v xs.length (strs xs)
  out : ∀ b, v.ownBlock = some b → b ∉ H
theorem BesideS.step {w w' : World} {v : Value} {xs : List ByteArray} {H H' : List Nat} (h : BesideS w v xs H) (k : Stepped w w' H H') : BesideS w' v xs H' := by
  obtain ⟨⟨S, k1, k2⟩, k3⟩ := k
  refine ⟨own_only h.own k1 (fun b hb q => h.out b hb (k2 b q)), fun b hb q => ?_⟩
  rcases k3 b q with q2 | q2
  · exact h.out b hb q2
  · have := (World.ownsRow.lt h.own b hb).2
    omega
theorem lateGo_snoc : ∀ (l : List ByteArray) (x : ByteArray) (n : Int) (g : GS), GS.lateGo (l ++ [x]) n g = ((GS.lateGo l n g).1 + ((GS.lateGo l n g).2.nak x 2 ((GS.lateGo l n g).2.fl x)).1, ((GS.lateGo l n g).2.nak x 2 ((GS.lateGo l n g).2.fl x)).2)
  | [], x, n, g => rfl
  | y :: l, x, n, g => by
    rw [List.cons_append, GS.lateGo, GS.lateGo]
    exact lateGo_snoc l x _ _
theorem nak_num (g : GS) (who : ByteArray) (how : Int) (l : List Int) : 0 ≤ (g.nak who how l).1 ∧ (g.nak who how l).1 ≤ l.length := by
  unfold GS.nak
  split
  · simp
  · have := take_len (g := g) who l
    dsimp only
    omega
theorem lateGo_num {N : Nat} : ∀ (l : List ByteArray) (n : Int) (g : GS), g.Ok N → n ≤ (GS.lateGo l n g).1 ∧ (GS.lateGo l n g).1 ≤ n + l.length * (1000 * N : Nat)
  | [], n, g, _ => by simp [GS.lateGo]
  | y :: l, n, g, h => by
    rw [GS.lateGo]
    have ih := lateGo_num l (n + (g.nak y 2 (g.fl y)).1) _ (GS.nak_ok h y 2 (g.fl y))
    have hn := nak_num g y 2 (g.fl y)
    have hl := h.len (h.flOf y)
    have e : (((y :: l).length : Nat) : Int) * ((1000 * N : Nat) : Int) = (l.length : Int) * ((1000 * N : Nat) : Int) + ((1000 * N : Nat) : Int) := by
      rw [List.length_cons, Int.natCast_add, Int.add_mul]
      simp
    rw [e]
    omega
section
variable {w : World} {gb fb tb N : Nat} {vw vp va vs : Value} {pf : ByteArray → Value} {g : GS}
set_option maxRecDepth 100000 in
set_option maxHeartbeats 2000000 in
theorem late_any (h : GAt w gb fb tb vw vp va vs pf g) (hok : g.Ok N) (hnm : g.Nm) (hN : N ≤ 1000) :
    Calls Tryz.prog 11 #[.pointer (some ⟨gb, 0, none⟩)] w fun e w' => e = .returned (.int .i64 g.late.1) ∧ GOut w (hG gb fb tb (rowsOf vw vp va vs pf g)) gb fb tb g.late.2 w' := by
  have HW := Lib.hid (who_any h hok hnm)
  have hwl := who_len g
  have hfew := hok.few
  have hlth := h.lt
  obtain ⟨H, hH⟩ : ∃ H, H = hG gb fb tb (rowsOf vw vp va vs pf g) := ⟨_, rfl⟩
  have HSt0 := Lib.hid (fun (w1 : World) (k : Only [] w w1) => (show Stepped w w1 H (hG gb fb tb (rowsOf vw vp va vs pf g)) by rw [hH]; exact Stepped.first0 k (Stepped.refl _ _)))
  rw [← hH]
  obtain ⟨L, hL⟩ : ∃ L, L = g.who := ⟨_, rfl⟩
  rw [← hL] at HW hwl
  have hlate : g.late = GS.lateGo L 0 g := by unfold GS.late; rw [hL]
  rw [hlate]
  obtain ⟨Z, hZ⟩ : ∃ Z, Z = GS.lateGo L 0 g := ⟨_, rfl⟩
  rw [← hZ]
  have HZ := Lib.hid hZ
  have hLl : L.length ≤ 20 := by omega
  have HA := Lib.hid h
  clear hlate hL hH h hwl hZ
  go_enter Tryz.func11, Tryz.ntmps11
  go_wp2_with (go_at_call 27; refine HW.out.mono ?_; rintro e w1 ⟨ov, rfl, hO1, ho1⟩; obtain ⟨Ao, co, rfl, _, _⟩ := own_form hO1)
  go_loopw [3, 9] (fun nv iv wr => ∃ (i : Nat) (vw' vp' va' vs' : Value) (pf' : ByteArray → Value), i ≤ L.length ∧ iv = .int .i64 i ∧ nv = .int .i64 (GS.lateGo (L.take i) 0 g).1 ∧ GAt wr gb fb tb vw' vp' va' vs' pf' (GS.lateGo (L.take i) 0 g).2 ∧ Stepped w wr H (hG gb fb tb (rowsOf vw' vp' va' vs' pf' (GS.lateGo (L.take i) 0 g).2)) ∧ BesideS wr (.slice Ao L.length co) L (hG gb fb tb (rowsOf vw' vp' va' vs' pf' (GS.lateGo (L.take i) 0 g).2))) (fun _ iv _ => L.length - (intOf iv).toNat)
  case atStart =>
    refine ⟨0, vw, vp, va, vs, pf, Nat.zero_le _, rfl, rfl, HA.out.only0 ho1, HSt0.out _ ho1, own_base hO1 (Nat.zero_le _), fun b hb q => ?_⟩
    have := hlth b q
    have := (World.ownsRow.lt hO1 b hb).1
    omega
  case round =>
    obtain ⟨i, vw', vp', va', vs', pf', hil, rfl, rfl, hA, hSt, hBs⟩ := hrel
    have hGok := GS.lateGo_ok (L.take i) 0 hok
    have hnum := lateGo_num (L.take i) 0 g hok
    have hnum2 : ((L.take i).length : Int) * ((1000 * N : Nat) : Int) ≤ 200000000 := by
      have : (L.take i).length * (1000 * N) ≤ 20 * 10000000 := Nat.mul_le_mul (by simp; omega) (by omega)
      rw [← Int.natCast_mul]
      omega
    by_cases hlt : i < L.length
    · have hsn := lateGo_snoc (L.take i) L[i] 0 g
      rw [← List.take_succ_eq_append_getElem hlt] at hsn
      obtain ⟨A2, c2, e2, _, _, hel⟩ := (Slc.of_own hBs.own).1.openS
      cases e2
      obtain ⟨bl, ol, rfl, hbl, hcl⟩ := hel i hlt
      obtain ⟨x, hx⟩ : ∃ x, x = L[i] := ⟨_, rfl⟩
      rw [← hx] at hsn hcl
      obtain ⟨R, hR⟩ : ∃ R, R = GS.lateGo (L.take i) 0 g := ⟨_, rfl⟩
      rw [← hR] at hsn hA hSt hBs hGok hnum ⊢
      obtain ⟨n, G⟩ := R
      dsimp only at hsn hA hSt hBs hGok hnum ⊢
      have hfl := hGok.len (hGok.flOf x)
      have HF := Lib.hid (flight_any hA x (by omega))
      have hna := nak_num G x 2 (G.fl x)
      have hnk := fun (w2 : World) (v2 : Value) (ho2 : Own w2 v2 (G.fl x)) (hf2 : ∀ b, v2.ownBlock = some b → wr.heap.size ≤ b) (hk2 : Only [] wr w2) =>
        nak_any (hA.only0 hk2) hGok (by omega) x 2 ho2.slc (fun b hb => .inl (fun q => by have := hf2 b hb; have := hA.lt b q; omega)) (by omega)
      obtain ⟨M, hM⟩ : ∃ M, M = G.nak x 2 (G.fl x) := ⟨_, rfl⟩
      rw [← hM] at hsn hna hnk
      have hadd := IntWalk.i64_in (n + M.1) ⟨by omega, by omega⟩
      have HSn := Lib.hid hsn
      have HNk := Lib.hid hnk
      clear hsn hel hx hR hM hnk
      go_wp2_with (first
        | (go_at_call 28; refine HF.out.mono ?_; rintro e w2 ⟨v2, rfl, ho2, hf2, hk2⟩)
        | (go_at_call 16; refine (HNk.out _ _ ho2 hf2 hk2).mono ?_; rintro e w3 ⟨rfl, hout⟩))
      obtain ⟨a1, a2, a3, a4, a5, k1, k2⟩ := hout
      refine ⟨⟨i + 1, a1, a2, a3, a4, a5, hlt, by simp, ?_⟩, by simp [intOf]; omega⟩
      rw [HSn.out]
      have k3 := Stepped.first0 hk2 k2
      exact ⟨rfl, k1, hSt.trans k3, hBs.step k3⟩
    · have hie : i = L.length := by omega
      subst hie
      rw [List.take_length] at hA hSt hBs hnum ⊢
      have hz := HZ.out
      obtain ⟨R, hR⟩ : ∃ R, R = GS.lateGo L 0 g := ⟨_, rfl⟩
      rw [← hR] at hA hSt hBs hnum hz ⊢
      have HZ2 := Lib.hid hz
      clear hz hR
      obtain ⟨n, G⟩ := R
      go_wp2
      go_ret
      rw [HZ2.out]
      exact ⟨rfl, _, _, _, _, _, hA, hSt⟩
end
end Go.Proofs.YthjgplgfcbhihaaGreat
/- A group as the laws see it: in blocks H, above a world that stays; the contracts in that form. -/
set_option linter.unusedVariables false
set_option linter.unusedSimpArgs false
namespace Go.Proofs.YthjgplgfcbhihaaGreat
open Go.RowKit Go Go.Sort Go.Lib
/-- The group g lies in the blocks H, at gb. -/
def GIn (w : World) (H : List Nat) (gb : Nat) (g : GS) (N : Nat) : Prop :=
  ∃ fb tb vw vp va vs pf, GAt w gb fb tb vw vp va vs pf g ∧ H = hG gb fb tb (rowsOf vw vp va vs pf g) ∧ g.Ok N ∧ g.Nm
/-- .. above the world a. -/
structure HasG (a w : World) (H : List Nat) (gb : Nat) (g : GS) (N : Nat) : Prop where
  gin : GIn w H gb g N
  only : Only [] a w
  above : ∀ b ∈ H, a.heap.size ≤ b
/-- What a call leaves. -/
def GTo (a w : World) (H : List Nat) (gb : Nat) (g : GS) (N : Nat) (w' : World) : Prop := ∃ H', HasG a w' H' gb g N ∧ Stepped w w' H H'
section
variable {a w w' : World} {H : List Nat} {gb N : Nat} {g : GS}
theorem GIn.lt (h : GIn w H gb g N) : ∀ b ∈ H, b < w.heap.size := by
  obtain ⟨fb, tb, vw, vp, va, vs, pf, h1, rfl, _⟩ := h
  exact h1.lt
theorem GIn.keep {S : List Nat} (h : GIn w H gb g N) (k : Only S w w') (hS : ∀ b ∈ H, b ∉ S) : GIn w' H gb g N := by
  obtain ⟨fb, tb, vw, vp, va, vs, pf, h1, rfl, h2⟩ := h
  exact ⟨fb, tb, vw, vp, va, vs, pf, h1.only k hS, rfl, h2⟩
theorem GIn.keep0 (h : GIn w H gb g N) (k : Only [] w w') : GIn w' H gb g N := h.keep k (by simp)
theorem GIn.ok (h : GIn w H gb g N) : g.Ok N := by
  obtain ⟨fb, tb, vw, vp, va, vs, pf, h1, rfl, h2, _⟩ := h
  exact h2
theorem GIn.nm (h : GIn w H gb g N) : g.Nm := by
  obtain ⟨fb, tb, vw, vp, va, vs, pf, h1, rfl, h2, h3⟩ := h
  exact h3
theorem HasG.keep0 (h : HasG a w H gb g N) (k : Only [] w w') : HasG a w' H gb g N := ⟨h.gin.keep0 k, h.only.trans k, h.above⟩
theorem HasG.fresh (h : HasG a w H gb g N) {v : Value} (hf : ∀ b, v.ownBlock = some b → w.heap.size ≤ b) : ∀ b, v.ownBlock = some b → b ∉ H := fun b hb q => by
  have := h.gin.lt b q
  have := hf b hb
  omega
theorem hasG_of (h : HasG a w H gb g N) {g' : GS} {N' : Nat} (ho : g'.Ok N') (hn : g'.Nm) {fb tb : Nat} {vw vp va vs : Value} {pf : ByteArray → Value} (h1 : GAt w' gb fb tb vw vp va vs pf g') (k : Stepped w w' H (hG gb fb tb (rowsOf vw vp va vs pf g'))) : GTo a w H gb g' N' w' := by
  obtain ⟨q1, q2⟩ := k.above h.only h.above
  exact ⟨_, ⟨⟨fb, tb, vw, vp, va, vs, pf, h1, rfl, ho, hn⟩, q1, q2⟩, k⟩
theorem in_new (a w : World) (ha : Only [] a w) (f b r : Int) (hok : GS.okNew f b r = true) :
    Calls Tryz.prog 6 #[.agg #[.int .i64 f, .int .i64 b, .int .i64 r]] w fun e w' => ∃ gb H, e = .returned (.tuple #[.pointer (some ⟨gb, 0, none⟩), .int .i64 0]) ∧ HasG a w' H gb (GS.new f b r) 0 ∧ Only [] w w' ∧ ∀ x ∈ H, w.heap.size ≤ x :=
  (gnew_any f b r hok w).mono fun e w' ⟨gb, fb, tb, h1, h2, h3, h4⟩ => ⟨gb, _, h1, ⟨⟨fb, tb, _, _, _, _, _, h2, rfl, GS.new_ok hok, GS.new_nm f b r⟩, ha.trans h4, fun x hx => Nat.le_trans ha.size (h3 x hx)⟩, h4, h3⟩
theorem in_join (h : HasG a w H gb g N) (who : ByteArray) (hs : who.size ≤ maxLen) :
    Calls Tryz.prog 9 #[.pointer (some ⟨gb, 0, none⟩), .string who] w fun e w' => e = .returned (.int .i64 (g.join who).1) ∧ GTo a w H gb (g.join who).2 (N + 1) w' := by
  have hh := h
  obtain ⟨⟨fb, tb, vw, vp, va, vs, pf, h1, rfl, hok, hnm⟩, ho, hab⟩ := h
  exact (join_any h1 who hs).mono fun e w' ⟨e1, v1, v2, v3, v4, v5, k1, k2⟩ => ⟨e1, hasG_of hh (GS.join_ok hok who) (GS.join_nm hnm who) k1 k2⟩
theorem in_leave (h : HasG a w H gb g N) (hN : N ≤ 1000) (who : ByteArray) :
    Calls Tryz.prog 31 #[.pointer (some ⟨gb, 0, none⟩), .string who] w fun e w' => e = .returned (.int .i64 (g.leave who).1) ∧ GTo a w H gb (g.leave who).2 (N + 1) w' := by
  have hh := h
  obtain ⟨⟨fb, tb, vw, vp, va, vs, pf, h1, rfl, hok, hnm⟩, ho, hab⟩ := h
  exact (leave_any h1 hok (by omega) who).mono fun e w' ⟨e1, v1, v2, v3, v4, v5, k1, k2⟩ => ⟨e1, hasG_of hh (GS.leave_ok hok who) (GS.leave_nm hnm who) k1 k2⟩
theorem in_feed (h : HasG a w H gb g N) (hN : N ≤ 1000) (n : Int) :
    Calls Tryz.prog 10 #[.pointer (some ⟨gb, 0, none⟩), .int .i64 n] w fun e w' => e = .returned (.int .i64 (g.feed n).1) ∧ GTo a w H gb (g.feed n).2 (N + 1) w' := by
  have hh := h
  obtain ⟨⟨fb, tb, vw, vp, va, vs, pf, h1, rfl, hok, hnm⟩, ho, hab⟩ := h
  exact (feed_any h1 hok (by omega) n).mono fun e w' ⟨e1, v1, v2, v3, v4, v5, k1, k2⟩ => ⟨e1, hasG_of hh (GS.feed_ok hok n) (GS.feed_nm hnm n) k1 k2⟩
theorem next1_ok (h : g.Ok N) (hn : g.Nm) (who : ByteArray) : (g.next1 who).2.Ok (N + 1) ∧ (g.next1 who).2.Nm := by
  unfold GS.next1
  cases hx : g.take1 who with
  | none => exact ⟨h.more (Nat.le_succ N), hn⟩
  | some r => exact ⟨GS.take1_ok h who (n := r.1) (t := r.2) hx, GS.take1_nm hn who (n := r.1) (t := r.2) hx⟩
theorem in_next (h : HasG a w H gb g N) (hN : N ≤ 1000) (who : ByteArray) :
    Calls Tryz.prog 15 #[.pointer (some ⟨gb, 0, none⟩), .string who] w fun e w' => e = .returned (.tuple #[.int .i64 (g.next1 who).1.1, .bool (g.next1 who).1.2]) ∧ GTo a w H gb (g.next1 who).2 (N + 1) w' := by
  have hh := h
  obtain ⟨⟨fb, tb, vw, vp, va, vs, pf, h1, rfl, hok, hnm⟩, ho, hab⟩ := h
  exact (next_any h1 hok (by omega) who).mono fun e w' ⟨e1, v1, v2, v3, v4, v5, k1, k2⟩ => ⟨e1, hasG_of hh (next1_ok hok hnm who).1 (next1_ok hok hnm who).2 k1 k2⟩
theorem in_ack (h : HasG a w H gb g N) (hN : N ≤ 1000) (who : ByteArray) {lv : Value} {l : List Int} (hl : Slc w 1 lv l.length (ints l)) (hlb : ∀ b, lv.ownBlock = some b → b ∉ H ∨ l = []) (hll : l.length ≤ 1000000) :
    Calls Tryz.prog 35 #[.pointer (some ⟨gb, 0, none⟩), .string who, lv] w fun e w' => e = .returned (.int .i64 (g.ack who l).1) ∧ GTo a w H gb (g.ack who l).2 N w' := by
  have hh := h
  obtain ⟨⟨fb, tb, vw, vp, va, vs, pf, h1, rfl, hok, hnm⟩, ho, hab⟩ := h
  exact (ack_any h1 hok (by omega) who hl hlb hll).mono fun e w' ⟨e1, v1, v2, v3, v4, v5, k1, k2⟩ => ⟨e1, hasG_of hh (GS.ack_ok hok who l) (GS.ack_nm hnm who l) k1 k2⟩
theorem in_nak (h : HasG a w H gb g N) (hN : N ≤ 1000) (who : ByteArray) (how : Int) {lv : Value} {l : List Int} (hl : Slc w 1 lv l.length (ints l)) (hlb : ∀ b, lv.ownBlock = some b → b ∉ H ∨ l = []) (hll : l.length ≤ 1000000) :
    Calls Tryz.prog 16 #[.pointer (some ⟨gb, 0, none⟩), .string who, .int .i64 how, lv] w fun e w' => e = .returned (.int .i64 (g.nak who how l).1) ∧ GTo a w H gb (g.nak who how l).2 N w' := by
  have hh := h
  obtain ⟨⟨fb, tb, vw, vp, va, vs, pf, h1, rfl, hok, hnm⟩, ho, hab⟩ := h
  exact (nak_any h1 hok (by omega) who how hl hlb hll).mono fun e w' ⟨e1, v1, v2, v3, v4, v5, k1, k2⟩ => ⟨e1, hasG_of hh (GS.nak_ok hok who how l) (GS.nak_nm hnm who how l) k1 k2⟩
theorem in_late (h : HasG a w H gb g N) (hN : N ≤ 1000) :
    Calls Tryz.prog 11 #[.pointer (some ⟨gb, 0, none⟩)] w fun e w' => e = .returned (.int .i64 g.late.1) ∧ GTo a w H gb g.late.2 N w' := by
  have hh := h
  obtain ⟨⟨fb, tb, vw, vp, va, vs, pf, h1, rfl, hok, hnm⟩, ho, hab⟩ := h
  exact (late_any h1 hok hnm hN).mono fun e w' ⟨e1, v1, v2, v3, v4, v5, k1, k2⟩ => ⟨e1, hasG_of hh (GS.late_ok hok) (GS.late_nm hnm) k1 k2⟩
theorem in_replay (h : HasG a w H gb g N) (hN : N ≤ 1000) :
    Calls Tryz.prog 38 #[.pointer (some ⟨gb, 0, none⟩)] w fun e w' => e = .returned (.int .i64 g.replay.1) ∧ GTo a w H gb g.replay.2 N w' := by
  have hh := h
  obtain ⟨⟨fb, tb, vw, vp, va, vs, pf, h1, rfl, hok, hnm⟩, ho, hab⟩ := h
  exact (replay_any h1 hok (by omega)).mono fun e w' ⟨e1, v1, v2, v3, v4, v5, k1, k2⟩ => ⟨e1, hasG_of hh (GS.replay_ok hok) (GS.replay_nm hnm) k1 k2⟩
theorem in_ckpt (h : HasG a w H gb g N) (hN : N ≤ 1000) : Calls Tryz.prog 18 #[.pointer (some ⟨gb, 0, none⟩)] w fun e w' => e = .returned (.int .i64 g.checkpoint) ∧ Only [] w w' := by
  obtain ⟨⟨fb, tb, vw, vp, va, vs, pf, h1, rfl, hok, hnm⟩, ho, hab⟩ := h
  exact ckpt_any h1 hok (by omega)
theorem in_tries (h : HasG a w H gb g N) (n : Int) : Calls Tryz.prog 48 #[.pointer (some ⟨gb, 0, none⟩), .int .i64 n] w fun e w' => e = .returned (.int .i64 (g.tr n)) ∧ w = w' := by
  obtain ⟨⟨fb, tb, vw, vp, va, vs, pf, h1, rfl, hok, hnm⟩, ho, hab⟩ := h
  exact tries_any h1 n
theorem in_who (h : HasG a w H gb g N) : Calls Tryz.prog 27 #[.pointer (some ⟨gb, 0, none⟩)] w fun e w' => ∃ v, e = .returned v ∧ w'.ownsRow w.heap.size 9 1 v g.who.length (strs g.who) ∧ Only [] w w' := by
  obtain ⟨⟨fb, tb, vw, vp, va, vs, pf, h1, rfl, hok, hnm⟩, ho, hab⟩ := h
  exact who_any h1 hok hnm
theorem in_parked (h : HasG a w H gb g N) (hN : N ≤ 1000) : Calls Tryz.prog 17 #[.pointer (some ⟨gb, 0, none⟩)] w (RowRet w g.parked) := by
  obtain ⟨⟨fb, tb, vw, vp, va, vs, pf, h1, rfl, hok, hnm⟩, ho, hab⟩ := h
  have := hok.len hok.pa
  exact parked_any h1 (by omega)
theorem in_waiting (h : HasG a w H gb g N) (hN : N ≤ 1000) : Calls Tryz.prog 44 #[.pointer (some ⟨gb, 0, none⟩)] w (RowRet w g.waiting) := by
  obtain ⟨⟨fb, tb, vw, vp, va, vs, pf, h1, rfl, hok, hnm⟩, ho, hab⟩ := h
  have := hok.len hok.wa
  exact waiting_any h1 (by omega)
theorem in_acked (h : HasG a w H gb g N) (hN : N ≤ 1000) : Calls Tryz.prog 43 #[.pointer (some ⟨gb, 0, none⟩)] w (RowRet w g.acked) := by
  obtain ⟨⟨fb, tb, vw, vp, va, vs, pf, h1, rfl, hok, hnm⟩, ho, hab⟩ := h
  have := hok.len hok.ac
  exact acked_any h1 (by omega)
theorem in_skipped (h : HasG a w H gb g N) (hN : N ≤ 1000) : Calls Tryz.prog 42 #[.pointer (some ⟨gb, 0, none⟩)] w (RowRet w g.skipped) := by
  obtain ⟨⟨fb, tb, vw, vp, va, vs, pf, h1, rfl, hok, hnm⟩, ho, hab⟩ := h
  have := hok.len hok.sk
  exact skipped_any h1 (by omega)
theorem in_flight (h : HasG a w H gb g N) (hN : N ≤ 1000) (who : ByteArray) : Calls Tryz.prog 28 #[.pointer (some ⟨gb, 0, none⟩), .string who] w (RowRet w (g.fl who)) := by
  obtain ⟨⟨fb, tb, vw, vp, va, vs, pf, h1, rfl, hok, hnm⟩, ho, hab⟩ := h
  have := hok.len (hok.flOf who)
  exact flight_any h1 who (by omega)
end
end Go.Proofs.YthjgplgfcbhihaaGreat
/- Contract: Copy. -/
set_option linter.unusedVariables false
set_option linter.unusedSimpArgs false
namespace Go.Proofs.YthjgplgfcbhihaaGreat
open Go.RowKit Go Go.Sort Go.Lib Go.Shelf
theorem cloneMF_any {w : World} {b : Nat} {kv : List (ByteArray × Value)} (h : MapIs Value.string w b kv) :
    Calls Tryz.prog 20 #[.map (some b)] w fun e w' => ∃ m, e = .returned (.map (some m)) ∧ MapIs Value.string w' m kv ∧ w.heap.size ≤ m ∧ m < w'.heap.size ∧ Only [] w w' := by
  obtain ⟨es, clock, hb, hs, hm⟩ := h
  refine (AnyW.maps_Clone Tryz.cloneMF b es clock w hb).mono fun e w' ⟨he, hw⟩ => ?_
  subst hw
  exact ⟨_, he, ⟨es, clock, heap_alloc_new w _, hs, hm⟩, Nat.le_refl _, by simp, (Only.refl _ w).alloc _⟩
theorem cloneMT_any {w : World} {b : Nat} {kv : List (Int × Value)} (h : MapIs (Value.int .i64) w b kv) :
    Calls Tryz.prog 21 #[.map (some b)] w fun e w' => ∃ m, e = .returned (.map (some m)) ∧ MapIs (Value.int .i64) w' m kv ∧ w.heap.size ≤ m ∧ m < w'.heap.size ∧ Only [] w w' := by
  obtain ⟨es, clock, hb, hs, hm⟩ := h
  refine (AnyW.maps_Clone Tryz.cloneMT b es clock w hb).mono fun e w' ⟨he, hw⟩ => ?_
  subst hw
  exact ⟨_, he, ⟨es, clock, heap_alloc_new w _, hs, hm⟩, Nat.le_refl _, by simp, (Only.refl _ w).alloc _⟩
theorem Rows.fresh_only {w w' : World} {L : List (Value × List Int)} {S : List Nat} {m : Nat} (h : Rows w L) (hf : ∀ b ∈ blocksOf L, m ≤ b) (k : Only S w w') (hS : ∀ b ∈ S, b < m) : Rows w' L :=
  h.only k (fun b hb q => by have := hf b hb; have := hS b q; omega)
theorem blocksOf_cons {v : Value} {xs : List Int} {L : List (Value × List Int)} {m : Nat} (h1 : ∀ b, v.ownBlock = some b → m ≤ b) (h2 : ∀ b ∈ blocksOf L, m ≤ b) : ∀ b ∈ blocksOf ((v, xs) :: L), m ≤ b := fun b hb => by
  obtain ⟨p, hp, hq⟩ := mem_blocksOf.1 hb
  rcases List.mem_cons.1 hp with rfl | hp
  · exact h1 b hq
  · exact h2 b (mem_blocksOf.2 ⟨p, hp, hq⟩)
theorem IterIs.ne_blk {κ : Type} [DecidableEq κ] {enc : κ → Value} {w : World} {r b g : Nat} {kv left : List (κ × Value)} {t : TypeId} {cs : Array Value} (h : IterIs enc w r b kv left) (hg : Blk w g t cs) : r ≠ g := by
  obtain ⟨es, clock, since, seen, c0, h1, h2, h3, h4, h5⟩ := h
  intro e
  subst e
  unfold Blk at hg
  rw [h4] at hg
  cases hg
section
variable {w : World} {gb fb tb N : Nat} {vw vp va vs : Value} {pf : ByteArray → Value} {g : GS}
/-- The cells of a group's block. -/
def gcells (g : GS) (vw : Value) (fb : Nat) (vp va vs : Value) (tb : Nat) : Array Value := #[.int .i64 g.from_, .int .i64 g.buffer, .int .i64 g.retries, .int .i64 g.next, vw, .map (some fb), vp, va, vs, .map (some tb)]
set_option maxRecDepth 100000 in
set_option maxHeartbeats 2000000 in
theorem copy_any (h : GAt w gb fb tb vw vp va vs pf g) (hok : g.Ok N) (hN : N ≤ 10000) :
    Calls Tryz.prog 8 #[.pointer (some ⟨gb, 0, none⟩)] w fun e w' => ∃ cb fb' tb' vw' vp' va' vs' pf', e = .returned (.pointer (some ⟨cb, 0, none⟩)) ∧
      GAt w' cb fb' tb' vw' vp' va' vs' pf' g ∧ (∀ b ∈ hG cb fb' tb' (rowsOf vw' vp' va' vs' pf' g), w.heap.size ≤ b) ∧ Only [] w w' := by
  have hlw := hok.len hok.wa
  have hlp := hok.len hok.pa
  have hla := hok.len hok.ac
  have hls := hok.len hok.sk
  have HClw := Lib.hid (fun (W : World) (hW : Only [] w W) => clone_any (h.only0 hW).ownW.slc (by omega))
  have HClp := Lib.hid (fun (W : World) (hW : Only [] w W) => clone_any (h.only0 hW).ownP.slc (by omega))
  have HCla := Lib.hid (fun (W : World) (hW : Only [] w W) => clone_any (h.only0 hW).ownA.slc (by omega))
  have HCls := Lib.hid (fun (W : World) (hW : Only [] w W) => clone_any (h.only0 hW).ownS.slc (by omega))
  obtain ⟨Aw, cw, rfl, _, _⟩ := own_form h.ownW
  obtain ⟨Ap, cp, rfl, _, _⟩ := own_form h.ownP
  obtain ⟨Aa, ca, rfl, _, _⟩ := own_form h.ownA
  obtain ⟨As, cs, rfl, _, _⟩ := own_form h.ownS
  have hB := h.blk
  have hc := fun i => hB.cell i
  have hf := fun i => hB.free i
  have hgl := hB.lt
  go_enter Tryz.func8, Tryz.ntmps8
  go_wp2_with fail
  obtain ⟨W1, hW1⟩ : ∃ W1, W1 = w.alloc (.cells #[.int .i64 g.from_, .int .i64 g.buffer, .int .i64 g.retries, .int .i64 g.next, .slice Aw g.waiting.length cw, .map (some fb), .slice Ap g.parked.length cp, .slice Aa g.acked.length ca, .slice As g.skipped.length cs, .map (some tb)] 60) := ⟨_, rfl⟩
  have hO0 : Only [] w W1 := by rw [hW1]; exact (Only.refl [] w).alloc _
  have hCb : Blk W1 w.heap.size 60 #[.int .i64 g.from_, .int .i64 g.buffer, .int .i64 g.retries, .int .i64 g.next, .slice Aw g.waiting.length cw, .map (some fb), .slice Ap g.parked.length cp, .slice Aa g.acked.length ca, .slice As g.skipped.length cs, .map (some tb)] := by rw [hW1]; exact Blk.new w _ _
  rw [← hW1]
  obtain ⟨cb, hcb⟩ : ∃ cb, cb = w.heap.size := ⟨_, rfl⟩
  rw [← hcb] at hCb ⊢
  have Hcb := Lib.hid hcb
  have hcl := hCb.lt
  clear hW1 hcb hc hf
  have hGB := hO0.blk hB (by simp)
  have k4 := Within.cell (S := []) (hGB.cell 4 : W1.cell? ⟨gb, 4, none⟩ = some (.slice Aw g.waiting.length cw)) (by simp)
  have k6 := Within.cell (S := []) (hGB.cell 6 : W1.cell? ⟨gb, 6, none⟩ = some (.slice Ap g.parked.length cp)) (by simp)
  have HX := Lib.hid (fun (W : World) (hW : Only [] W1 W) => HClw.out W (hO0.trans hW))
  have HY := Lib.hid (fun (W : World) (hW : Only [] W1 W) => HClp.out W (hO0.trans hW))
  have hR1 : Rows W1 [] ∧ ∀ b ∈ blocksOf [], w.heap.size + 1 ≤ b := ⟨Rows.nil W1, fun b hb => by simp [blocksOf] at hb⟩
  refine wp_region_stages (C := fun W => ∃ p : Within [] W1, W = p.W) [([0, 1, 2, 3, 5, 6, 7, 8], [4, 9])] [10, 11, 12, 13] (by kernel_rfl) (by kernel_rfl) (by intro c d u a w h; cases d <;> exact h) ⟨⟨_, (Only.refl _ _).drew⟩, rfl⟩ ?_
  refine stagesFirst ?_
  show wpQuiet _ _ _ _ [_, _, _, _, _, _, _, _] _
  repeat (go_big_quiet_step (fail))
  refine wpQuiet_nil ?_
  show wpList _ _ _ [_] _ _
  go_wp2_with (go_at_call 19; refine (HX.out _ (Only.refl _ _).drew).mono ?_; rintro e w2x ⟨v2x, rfl, ho2, hf2, hk2⟩; obtain ⟨A2x, c2x, rfl, _, _⟩ := own_form ho2)
  have hO2 : Only [] W1 w2x := (Only.refl [] W1).drew.trans hk2
  refine check_of (S := []) hO2 ?_
  show wpList _ _ _ [_] _ _
  go_wp2_with (go_at_call 19; refine (HY.out _ hO2).mono ?_; rintro e w3x ⟨v3x, rfl, ho3, hf3, hk3⟩; obtain ⟨A3x, c3x, rfl, _, _⟩ := own_form ho3)
  have hO3 : Only [] W1 w3x := hO2.trans hk3
  refine check_of (S := []) hO3 ?_
  have hz0 := hO0.size
  have hz2 := hO2.size
  have hR2 := hR1.1.add hO2 ho2 (fun b hb => (by have := hf2 b hb; exact this))
  have hF2 := blocksOf_cons (xs := g.waiting) (m := w.heap.size + 1) (fun b hb => (by have q : W1.heap.size ≤ b := hf2 b hb; have := hCb.lt; have := Hcb.out; omega)) hR1.2
  have hR3 := hR2.add hk3 ho3 hf3
  have hF3 := blocksOf_cons (xs := g.parked) (m := w.heap.size + 1) (fun b hb => (by have q : w2x.heap.size ≤ b := hf3 b hb; have := hCb.lt; have := Hcb.out; omega)) hF2
  have hB3 := hO3.blk hCb (by simp)
  have e1 : w3x.cell? ⟨cb, 4, none⟩ = some (.slice Aw g.waiting.length cw) := hB3.cell 4
  have e2 : w3x.cell? ⟨cb, 6, none⟩ = some (.slice Ap g.parked.length cp) := hB3.cell 6
  have ef := fun j => hB3.free j
  refine stagesEnd ?_
  show wpList _ _ _ [_, _, _, _] _ _
  clear ho2 ho3 hR2 hF2
  go_wp2_with fail
  obtain ⟨Wx, hW⟩ : ∃ W, W = (w3x.setCell ⟨cb, 4, none⟩ (.slice A2x g.waiting.length c2x)).setCell ⟨cb, 6, none⟩ (.slice A3x g.parked.length c3x) := ⟨_, rfl⟩
  have hS : Only [cb] w3x Wx := by rw [hW]; exact ((Only.refl _ _).setCell (.inl (by simp)) _).setCell (.inl (by simp)) _
  have hOx : Only [] w Wx := (hO0.trans hO3).step hS (fun b hb => .inr (by have := Hcb.out; simp at hb; omega))
  have hCbx : Blk Wx cb 60 #[.int .i64 g.from_, .int .i64 g.buffer, .int .i64 g.retries, .int .i64 g.next, .slice A2x g.waiting.length c2x, .map (some fb), .slice A3x g.parked.length c3x, .slice Aa g.acked.length ca, .slice As g.skipped.length cs, .map (some tb)] := by rw [hW]; exact (hB3.set 4 _).set 6 _
  have hRx := And.intro (hR3.fresh_only hF3 hS (fun b hb => by have := Hcb.out; simp at hb; omega)) hF3
  rw [← hW]
  clear hW hS hR3 hF3 hB3 e1 e2 ef hO2 hO3 hk2 hk3 hf2 hf3 hz0 hz2
  clear k4 k6 HX HY hCb hR1 hO0 hGB
  have hGB := hOx.blk hB (by simp)
  have k7 := Within.cell (S := []) (hGB.cell 7 : Wx.cell? ⟨gb, 7, none⟩ = some (.slice Aa g.acked.length ca)) (by simp)
  have k8 := Within.cell (S := []) (hGB.cell 8 : Wx.cell? ⟨gb, 8, none⟩ = some (.slice As g.skipped.length cs)) (by simp)
  have HX := Lib.hid (fun (W : World) (hW : Only [] Wx W) => HCla.out W (hOx.trans hW))
  have HY := Lib.hid (fun (W : World) (hW : Only [] Wx W) => HCls.out W (hOx.trans hW))
  refine wp_region_stages (C := fun W => ∃ p : Within [] Wx, W = p.W) [([0, 1, 2, 3, 5, 6, 7, 8], [4, 9])] [10, 11, 12, 13] (by kernel_rfl) (by kernel_rfl) (by intro c d u a w h; cases d <;> exact h) ⟨⟨_, (Only.refl _ _).drew⟩, rfl⟩ ?_
  refine stagesFirst ?_
  show wpQuiet _ _ _ _ [_, _, _, _, _, _, _, _] _
  repeat (go_big_quiet_step (fail))
  refine wpQuiet_nil ?_
  show wpList _ _ _ [_] _ _
  go_wp2_with (go_at_call 19; refine (HX.out _ (Only.refl _ _).drew).mono ?_; rintro e w2y ⟨v2y, rfl, ho2, hf2, hk2⟩; obtain ⟨A2y, c2y, rfl, _, _⟩ := own_form ho2)
  have hO2 : Only [] Wx w2y := (Only.refl [] Wx).drew.trans hk2
  refine check_of (S := []) hO2 ?_
  show wpList _ _ _ [_] _ _
  go_wp2_with (go_at_call 19; refine (HY.out _ hO2).mono ?_; rintro e w3y ⟨v3y, rfl, ho3, hf3, hk3⟩; obtain ⟨A3y, c3y, rfl, _, _⟩ := own_form ho3)
  have hO3 : Only [] Wx w3y := hO2.trans hk3
  refine check_of (S := []) hO3 ?_
  have hz0 := hOx.size
  have hz2 := hO2.size
  have hR2 := hRx.1.add hO2 ho2 (fun b hb => (by have := hf2 b hb; exact this))
  have hF2 := blocksOf_cons (xs := g.acked) (m := w.heap.size + 1) (fun b hb => (by have q : Wx.heap.size ≤ b := hf2 b hb; have := hCbx.lt; have := Hcb.out; omega)) hRx.2
  have hR3 := hR2.add hk3 ho3 hf3
  have hF3 := blocksOf_cons (xs := g.skipped) (m := w.heap.size + 1) (fun b hb => (by have q : w2y.heap.size ≤ b := hf3 b hb; have := hCbx.lt; have := Hcb.out; omega)) hF2
  have hB3 := hO3.blk hCbx (by simp)
  have e1 : w3y.cell? ⟨cb, 7, none⟩ = some (.slice Aa g.acked.length ca) := hB3.cell 7
  have e2 : w3y.cell? ⟨cb, 8, none⟩ = some (.slice As g.skipped.length cs) := hB3.cell 8
  have ef := fun j => hB3.free j
  refine stagesEnd ?_
  show wpList _ _ _ [_, _, _, _] _ _
  clear ho2 ho3 hR2 hF2
  go_wp2_with fail
  obtain ⟨Wy, hW⟩ : ∃ W, W = (w3y.setCell ⟨cb, 7, none⟩ (.slice A2y g.acked.length c2y)).setCell ⟨cb, 8, none⟩ (.slice A3y g.skipped.length c3y) := ⟨_, rfl⟩
  have hS : Only [cb] w3y Wy := by rw [hW]; exact ((Only.refl _ _).setCell (.inl (by simp)) _).setCell (.inl (by simp)) _
  have hOy : Only [] w Wy := (hOx.trans hO3).step hS (fun b hb => .inr (by have := Hcb.out; simp at hb; omega))
  have hCby : Blk Wy cb 60 #[.int .i64 g.from_, .int .i64 g.buffer, .int .i64 g.retries, .int .i64 g.next, .slice A2x g.waiting.length c2x, .map (some fb), .slice A3x g.parked.length c3x, .slice A2y g.acked.length c2y, .slice A3y g.skipped.length c3y, .map (some tb)] := by rw [hW]; exact (hB3.set 7 _).set 8 _
  have hRy := And.intro (hR3.fresh_only hF3 hS (fun b hb => by have := Hcb.out; simp at hb; omega)) hF3
  rw [← hW]
  clear hW hS hR3 hF3 hB3 e1 e2 ef hO2 hO3 hk2 hk3 hf2 hf3 hz0 hz2
  clear k7 k8 HX HY hCbx hRx hOx hGB
  have hGB := hOy.blk hB (by simp)
  have k5 := Within.cell (S := []) (hGB.cell 5 : Wy.cell? ⟨gb, 5, none⟩ = some (.map (some fb))) (by simp)
  have k9 := Within.cell (S := []) (hGB.cell 9 : Wy.cell? ⟨gb, 9, none⟩ = some (.map (some tb))) (by simp)
  have HMF := Lib.hid (fun (W : World) (hW : Only [] Wy W) => cloneMF_any ((h.flight.only (hOy.trans hW) (by simp))))
  have HMT := Lib.hid (fun (W : World) (hW : Only [] Wy W) => cloneMT_any ((h.tries.only (hOy.trans hW) (by simp))))
  refine wp_region_stages (C := fun W => ∃ p : Within [] Wy, W = p.W) [([0, 1, 2, 3, 5, 6, 7, 8], [4, 9])] [10, 11, 12, 13] (by kernel_rfl) (by kernel_rfl) (by intro c d u a w h; cases d <;> exact h) ⟨⟨_, (Only.refl _ _).drew⟩, rfl⟩ ?_
  refine stagesFirst ?_
  show wpQuiet _ _ _ _ [_, _, _, _, _, _, _, _] _
  repeat (go_big_quiet_step (fail))
  refine wpQuiet_nil ?_
  show wpList _ _ _ [_] _ _
  go_wp2_with (go_at_call 20; refine (HMF.out _ (Only.refl _ _).drew).mono ?_; rintro e w5 ⟨fc, rfl, hm5, hl5, hu5, hk5⟩)
  have hl5' : Wy.heap.size ≤ fc := hl5
  have hO5 : Only [] Wy w5 := (Only.refl [] Wy).drew.trans hk5
  refine check_of (S := []) hO5 ?_
  show wpList _ _ _ [_] _ _
  go_wp2_with (go_at_call 21; refine (HMT.out _ hO5).mono ?_; rintro e w6 ⟨tc, rfl, hm6, hl6, hu6, hO56⟩)
  have hO6 : Only [] Wy w6 := hO5.trans hO56
  have hm56 := hm5.only hO56 (by simp)
  have hB6 := hO6.blk hCby (by simp)
  have e1 : w6.cell? ⟨cb, 5, none⟩ = some (.map (some fb)) := hB6.cell 5
  have e2 : w6.cell? ⟨cb, 9, none⟩ = some (.map (some tb)) := hB6.cell 9
  have ef := fun j => hB6.free j
  refine check_of (S := []) hO6 ?_
  refine stagesEnd ?_
  show wpList _ _ _ [_, _, _, _] _ _
  have hzy := hOy.size
  have hcly := hCby.lt
  have HF : Hid (cb < fc ∧ fc < tc ∧ w.heap.size ≤ fc) := ⟨by omega, by omega, by omega⟩
  have hWz : Only [cb] w6 ((w6.setCell ⟨cb, 5, none⟩ (.map (some fc))).setCell ⟨cb, 9, none⟩ (.map (some tc))) := ((Only.refl _ _).setCell (.inl (by simp)) _).setCell (.inl (by simp)) _
  have hCbz : Blk ((w6.setCell ⟨cb, 5, none⟩ (.map (some fc))).setCell ⟨cb, 9, none⟩ (.map (some tc))) cb 60 #[.int .i64 g.from_, .int .i64 g.buffer, .int .i64 g.retries, .int .i64 g.next, .slice A2x g.waiting.length c2x, .map (some fc), .slice A3x g.parked.length c3x, .slice A2y g.acked.length c2y, .slice A3y g.skipped.length c3y, .map (some tc)] := (hB6.set 5 _).set 9 _
  have hne1 : fc ≠ cb := by have := HF.out; omega
  have hne2 : tc ≠ cb := by have := HF.out; omega
  have hmFz := hm56.only hWz (by simp; exact hne1)
  have hmTz := hm6.only hWz (by simp; exact hne2)
  have hRz := And.intro ((hRy.1.only0 hO6).fresh_only hRy.2 hWz (fun b hb => by have := Hcb.out; simp at hb; omega)) hRy.2
  have hOz : Only [] w ((w6.setCell ⟨cb, 5, none⟩ (.map (some fc))).setCell ⟨cb, 9, none⟩ (.map (some tc))) := (hOy.trans hO6).step hWz (fun b hb => .inr (by have := Hcb.out; simp at hb; omega))
  have HCz := Lib.hid hCbz
  have HFz := Lib.hid hmFz
  have HTz := Lib.hid hmTz
  have HRz := Lib.hid hRz
  have HOz := Lib.hid hOz
  clear hCbz hmFz hmTz hRz hOz hWz hB6 hm56 hm6 hm5 hRy hOy hCby hO5 hO6 hO56 hl5 hl5' hu5 hl6 hu6 hk5 hGB k5 k9 hne1 hne2
  go_wp2_with (at_range; refine wpList_range_is rfl 57 rfl Tryz.underlying57 rfl HFz.out ?_; intro o' hit)
  have HIt := Lib.hid hit
  clear hit
  go_frame
  obtain ⟨Wz, hW⟩ : ∃ W, W = ((w6.setCell ⟨cb, 5, none⟩ (.map (some fc))).setCell ⟨cb, 9, none⟩ (.map (some tc))) := ⟨_, rfl⟩
  rw [← hW] at HCz HFz HTz HRz HOz HIt ⊢
  clear hW
  obtain ⟨base, hbase⟩ : ∃ base : List (Value × List Int), base = [(.slice A3y g.skipped.length c3y, g.skipped), (.slice A2y g.acked.length c2y, g.acked), (.slice A3x g.parked.length c3x, g.parked), (.slice A2x g.waiting.length c2x, g.waiting)] := ⟨_, rfl⟩
  have hRzz := HRz.out
  rw [← hbase] at hRzz
  have HRz := Lib.hid hRzz
  have HBase := Lib.hid hbase
  clear hRzz hbase
  have hHF := HF.out
  have hzr := HOz.out.size
  have hcz := HCz.out.lt
  have hfz := HFz.out.lt
  have htz := HTz.out.lt
  obtain ⟨r, hr⟩ : ∃ r, r = Wz.heap.size := ⟨_, rfl⟩
  have hr2 : cb < r ∧ fc < r ∧ tc < r ∧ w.heap.size ≤ r := by rw [hr]; exact ⟨hcz, hfz, htz, hzr⟩
  have hIt := HIt.out
  rw [← hr] at hIt ⊢
  have HIt2 := Lib.hid hIt
  have HAl : Hid (Only [] Wz (Wz.alloc o')) := (Only.refl [] Wz).alloc _
  clear hr hIt HIt
  go_loopw [] (fun wr => ∃ (left done : List (ByteArray × List Int)) (nv : ByteArray → Value), (done ++ left).Perm g.flight ∧
      IterIs Value.string wr r fc (fvl nv g.flight) (fvl pf left) ∧
      (Rows wr (done.map (fun p => (nv p.1, p.2)) ++ base) ∧
        ∀ b ∈ blocksOf (done.map (fun p => (nv p.1, p.2)) ++ base), w.heap.size + 1 ≤ b) ∧
      Blk wr cb 60 #[.int .i64 g.from_, .int .i64 g.buffer, .int .i64 g.retries, .int .i64 g.next, .slice A2x g.waiting.length c2x, .map (some fc), .slice A3x g.parked.length c3x, .slice A2y g.acked.length c2y, .slice A3y g.skipped.length c3y, .map (some tc)] ∧
      MapIs (Value.int .i64) wr tc (g.tries.map fun p => (p.1, Value.int .i64 p.2)) ∧ Only [] w wr) (fun wr => wr.rangeLeft fc r)
  case atStart =>
    refine ⟨g.flight, [], pf, by simp, by simpa [fvl] using HIt2.out, ?_, HAl.out.blk HCz.out (by simp), HTz.out.only HAl.out (by simp), HOz.out.trans HAl.out⟩
    exact ⟨HRz.out.1.only0 HAl.out, HRz.out.2⟩
  case round =>
    obtain ⟨left, done, nv, hperm, hi, hrows, hblk, hmt, ho⟩ := hrel
    have hnod : ((done ++ left).map (·.1)).Nodup := (hperm.map (fun p : ByteArray × List Int => p.1)).nodup_iff.2 h.nod
    have HR := Lib.hid hrows
    have HP := Lib.hid hperm
    have HM := Lib.hid hmt
    have HB := Lib.hid hblk
    have d5 : wr.cell? ⟨cb, 5, none⟩ = some (.map (some fc)) := hblk.cell 5
    clear hrows hperm hmt hblk
    go_wp2_with (at_next; refine wpList_next_fl rfl rfl rfl hi ?_ ?_)
    · intro h0
      have HI := Lib.hid hi
      clear hi
      go_wp2
      go_ret
      have hp := HP.out
      rw [h0, List.append_nil] at hp
      have hrw := HR.out
      have hrp : (done.map (fun p : ByteArray × List Int => (nv p.1, p.2)) ++ base).Perm (rowsOf (.slice A2x g.waiting.length c2x) (.slice A3x g.parked.length c3x) (.slice A2y g.acked.length c2y) (.slice A3y g.skipped.length c3y) nv g) := by
        unfold rowsOf
        rw [HBase.out]
        refine List.perm_append_comm.trans ?_
        have h4 : ∀ (a b c d : Value × List Int) (M : List (Value × List Int)), ([a, b, c, d] ++ M).Perm (d :: c :: b :: a :: M) := fun a b c d M => by
          have := (List.reverse_perm [a, b, c, d]).append_right M
          exact this.symm
        refine (h4 _ _ _ _ _).trans ?_
        exact ((((hp.map _).cons _).cons _).cons _).cons _
      refine ⟨cb, fc, tc, _, _, _, _, nv, rfl, ⟨HB.out, HI.out.map, HM.out, hrw.1.perm hrp, by omega⟩, fun b hb => ?_, ho⟩
      have := Hcb.out
      rcases mem_hG.1 hb with q | q | q | q
      · omega
      · omega
      · omega
      · have h5 := hrw.2 b (by
          obtain ⟨p, hp2, hq⟩ := mem_blocksOf.1 q
          exact mem_blocksOf.2 ⟨p, hrp.mem_iff.2 hp2, hq⟩)
        omega
    · intro l1 qn ql l2 w' hsp hi' ho' hen
      have hq : (qn, ql) ∈ g.flight := HP.out.mem_iff.1 (by rw [hsp]; simp)
      have hql : ql.length ≤ 1000 * N := hok.len (hok.fl _ hq)
      obtain ⟨Aq, cq, hpq, _, _⟩ := own_form (h.row hq)
      have HCq := Lib.hid (fun (W : World) (hW : Only [] w W) => clone_any ((h.only0 hW).row hq).slc (by show ql.length ≤ 1000000000; omega))
      have hrne : cb ≠ r := by omega
      have ho7 : Only [] w w' := ho.step ho' (fun b hb => .inr (by simp at hb; omega))
      have d5' : w'.cell? ⟨cb, 5, none⟩ = some (.map (some fc)) := (ho'.blk HB.out (by simp; exact hrne)).cell 5
      have hmu := hi'.left_eq
      have hmu0 := hi.left_eq
      have HL : Hid ((fvl pf (l1 ++ l2)).length < wr.rangeLeft fc r) := by rw [Hid, hmu0, hsp]; simp [fvl]
      have hkq : qn ∉ done.map (·.1) ∧ qn ∉ (l1 ++ l2).map (·.1) := by
        rw [hsp] at hnod
        simp only [List.map_append, List.map_cons] at hnod ⊢
        obtain ⟨_, n2, n3⟩ := List.nodup_append.1 hnod
        obtain ⟨_, n5, n6⟩ := List.nodup_append.1 n2
        refine ⟨fun q => n3 qn q qn (by simp) rfl, fun q => ?_⟩
        rcases List.mem_append.1 q with q | q
        · exact n6 qn q qn (by simp) rfl
        · exact (List.nodup_cons.1 n5).1 q
      have hPerm : ((qn, ql) :: done ++ (l1 ++ l2)).Perm g.flight := by
        refine List.Perm.trans ?_ HP.out
        rw [hsp]
        have := (List.perm_middle (a := (qn, ql)) (l₁ := done ++ l1) (l₂ := l2)).symm
        simpa using this
      have hrows' := HR.out.1.only ho' (fun b hb q => by
        have e : b = r := by simpa using q
        subst e
        obtain ⟨p, hp, hq⟩ := mem_blocksOf.1 hb
        obtain ⟨cur, hcur⟩ := own_type (HR.out.1.own p hp) hq
        exact hi.ne_blk hcur rfl)
      have hmt' := HM.out.only ho' (by simp; omega)
      have hblk' := ho'.blk HB.out (by simp; exact hrne)
      have hi8 := fun (w8 : World) (k : Only [] w' w8) => hi'.only k (by simp) (by simp)
      simp only at hpq hen ⊢
      rw [hpq] at hen HCq ⊢
      have HPerm := Lib.hid hPerm
      have HKq := Lib.hid hkq
      have HRw := Lib.hid hrows'
      have HMt := Lib.hid hmt'
      have HBk := Lib.hid hblk'
      have HI8 := Lib.hid hi8
      have HO7 := Lib.hid ho7
      have Hq := Lib.hid hq
      have k5 := Within.cell (S := []) d5' (by simp)
      clear hmu hmu0 hsp hi hi' ho ho' hpq hPerm hkq hrows' hmt' hblk' hi8 hq hnod d5 HP HB HM hr2
      go_wp2_with fail
      refine wp_region_stages (C := fun W => ∃ p : Within [] w', W = p.W) [([0, 1, 2, 3], [4])] [5] (by kernel_rfl) (by kernel_rfl) (by intro c d u a w h; cases d <;> exact h) ⟨⟨_, (Only.refl _ _).drew⟩, rfl⟩ ?_
      refine stagesFirst ?_
      show wpQuiet _ _ _ _ [_, _, _, _] _
      repeat (go_big_quiet_step (fail))
      refine wpQuiet_nil ?_
      show wpList _ _ _ [_] _ _
      go_wp2_with (go_at_call 19; refine (HCq.out _ (HO7.out.drew)).mono ?_; rintro e w8 ⟨v8, rfl, ho8, hf8, hk8⟩; obtain ⟨A8, c8, rfl, _, _⟩ := own_form ho8)
      have hO8 : Only [] w' w8 := (Only.refl [] w').drew.trans hk8
      refine check_of (S := []) hO8 ?_
      have hi9 := HI8.out w8 hO8
      have hR8 := HRw.out.add hO8 ho8 (fun b hb => hf8 b hb)
      have hR8f := blocksOf_cons (xs := ql) (m := w.heap.size + 1) (fun b hb => (by have q : w'.heap.size ≤ b := hf8 b hb; have := HO7.out.size; have := Hcb.out; have := HBk.out.lt; omega)) HR.out.2
      have hm8 := HMt.out.only hO8 (by simp)
      have hb8 := hO8.blk HBk.out (by simp)
      have HI9 := Lib.hid hi9
      have HR8 := Lib.hid hR8
      have HR8f := Lib.hid hR8f
      have HM8 := Lib.hid hm8
      have HB8 := Lib.hid hb8
      clear hi9 hR8 hR8f hm8 hb8 ho8
      refine stagesEnd ?_
      show wpList _ _ _ [_] _ _
      refine wpList_update_iter rfl 57 rfl keyEnc_string Tryz.underlying57 Tryz.underlying9 qn (.slice A8 ql.length c8) rfl rfl rfl HI9.out ?_ ?_ ?_
      · unfold fvl
        rw [aget_mapk (fun k _ => nv k)]
        have : (aget g.flight qn).isSome = true := by
          cases hx : aget g.flight qn with
          | some _ => rfl
          | none => exact absurd (List.mem_map.2 ⟨(qn, ql), Hq.out, rfl⟩) (aget_none.1 hx)
        cases hx : aget g.flight qn with
        | some _ => rfl
        | none => rw [hx] at this; cases this
      · have := HKq.out.2
        unfold fvl
        rw [List.map_map]
        exact this
      · intro w9 hi9 hk9
        have hmq : qn ∈ g.flight.map (·.1) := List.mem_map.2 ⟨(qn, ql), Hq.out, rfl⟩
        have hput : aput (fvl nv g.flight) qn (.slice A8 ql.length c8) = fvl (fun a => if a = qn then .slice A8 ql.length c8 else nv a) g.flight := by
          have := aput_mapf nv (g.flight.map (fun p : ByteArray × List Int => p.1)) h.nod qn hmq (.slice A8 ql.length c8)
          rw [List.map_map, List.map_map] at this
          exact this
        rw [hput] at hi9
        have hdone : (((qn, ql) :: done).map (fun p => ((fun a => if a = qn then Value.slice A8 ql.length c8 else nv a) p.1, p.2)) ++ base) = (.slice A8 ql.length c8, ql) :: (done.map (fun p => (nv p.1, p.2)) ++ base) := by
          simp only [List.map_cons, if_pos, List.cons_append]
          refine congrArg _ (congrArg (· ++ base) (List.map_congr_left (fun p hp => ?_)))
          rw [if_neg (fun e => HKq.out.1 (List.mem_map.2 ⟨p, hp, e⟩))]
        have hmap8 : MapIs Value.string w8 fc (fvl nv g.flight) := HI9.out.map
        have hR9 : Rows w9 ((.slice A8 ql.length c8, ql) :: (done.map (fun p => (nv p.1, p.2)) ++ base)) := HR8.out.only hk9 (fun b hb q => by
          have e : b = fc := by simpa using q
          subst e
          obtain ⟨p, hp, hq⟩ := mem_blocksOf.1 hb
          obtain ⟨cur, hcur⟩ := own_type (HR8.out.own p hp) hq
          exact hmap8.ne_blk hcur rfl)
        have hcf : cb ≠ fc := by omega
        have htf : tc ≠ fc := by omega
        have hb9 := hk9.blk HB8.out (by simp; exact hcf)
        have hm9 := HM8.out.only hk9 (by simp; exact htf)
        have ho9 : Only [] w w9 := (HO7.out.trans hO8).step hk9 (fun b hb => .inr (by simp at hb; omega))
        have hml := hi9.left_eq
        have HML : Hid (w9.rangeLeft fc r < wr.rangeLeft fc r) := by rw [Hid, hml]; exact HL.out
        have HD9 := Lib.hid hdone
        clear hdone hml hput
        go_wp2
        go_roundw
        case rel =>
          refine ⟨l1 ++ l2, (qn, ql) :: done, HPerm.out, (fun a => if a = qn then .slice A8 ql.length c8 else nv a), hi9, ?_, ?_⟩
          · rw [HD9.out]
            exact hR9
          · rw [HD9.out]
            exact HR8f.out
        case measure => exact HML.out
end
end Go.Proofs.YthjgplgfcbhihaaGreat
/- Opening []Op of the groups' laws; Light, SameInts, SameTexts. -/
set_option linter.unusedVariables false
set_option linter.unusedSimpArgs false
namespace Go.Proofs.YthjgplgfcbhihaaGreat
open Go.ChangeShapes Go.WideShapes Go.ChangeAt Go.RowKit Go.WideElems Go.ChangeMaps Go.Deep Go.Sort
/-- A step: its list lies in lv. -/
structure OpG where
  kind : Int
  n : Int
  who : ByteArray
  l : List Int
  lv : Value
def OpG.cells (o : OpG) : List Value := [.int .i64 o.kind, .int .i64 o.n, .string o.who, o.lv]
structure OpG.Ok (W : World) (o : OpG) : Prop where
  who : o.who.size ≤ maxLen
  slc : Slc W 1 o.lv o.l.length (ints o.l)
  own : ∀ g, o.lv.ownBlock = some g → g < W.heap.size ∨ o.l = []
theorem cellsI : Tryz.prog.cellsOf 3 = 1 := by kernel_rfl
theorem cellsS : Tryz.prog.cellsOf 9 = 1 := by kernel_rfl
theorem cellsIs : Tryz.prog.cellsOf 43 = 1 := by kernel_rfl
theorem cellsOpG : Tryz.prog.cellsOf 45 = 4 := by kernel_rfl
theorem flat_ints : ∀ zs : List Int, zs.flatMap (fun z : Int => [Value.int .i64 z]) = ints zs
  | [] => rfl
  | a :: l => by
    rw [List.flatMap_cons, flat_ints l]
    rfl
section
variable {H : Type} {enc : TypeId × Value → H} {W : World}
theorem one_at {cs : List Value} {i : Nat} {v : Value} (h : (cs.drop i).take 1 = [v]) : cs[i]? = some v := by
  have : ((cs.drop i).take 1)[0]? = some v := by rw [h]; rfl
  rw [List.getElem?_take] at this
  simpa using this
theorem open_int1 (n : Nat) (cs : List Value) (x : DataW H × List MemPlace) (h : DataW.trod enc Tryz.prog W 0 (fun _ => true) true n 3 cs = some x) (hlt : ∀ y ∈ x.2, y.block < W.heap.size) :
    ∃ z : Int, cs = [.int .i64 z] ∧ True := by
  obtain ⟨k, c0, _, _⟩ := DataW.trod_int Tryz.underlying3 h
  exact ⟨k, c0, trivial⟩
theorem open_opg (n : Nat) (cs : List Value) (x : DataW H × List MemPlace) (h : DataW.trod enc Tryz.prog W 0 (fun _ => true) true n 45 cs = some x) (hlt : ∀ y ∈ x.2, y.block < W.heap.size) :
    ∃ o : OpG, cs = o.cells ∧ o.Ok W := by
  obtain ⟨xs, m, _, hx, hl, hlen, hf⟩ := DataW.trod_struct Tryz.underlying45 h
  rw [cellsOpG] at hl
  have g0 : DataW.trod enc Tryz.prog W 0 (fun _ => true) true m 3 ((cs.drop 0).take (Tryz.prog.cellsOf 3)) = xs[0]? := hf 0 _ rfl
  have g1 : DataW.trod enc Tryz.prog W 0 (fun _ => true) true m 3 ((cs.drop 1).take (Tryz.prog.cellsOf 3)) = xs[1]? := hf 1 _ rfl
  have g2 : DataW.trod enc Tryz.prog W 0 (fun _ => true) true m 9 ((cs.drop 2).take (Tryz.prog.cellsOf 9)) = xs[2]? := hf 2 _ rfl
  have g3 : DataW.trod enc Tryz.prog W 0 (fun _ => true) true m 43 ((cs.drop 3).take (Tryz.prog.cellsOf 43)) = xs[3]? := hf 3 _ rfl
  rw [cellsI] at g0 g1
  rw [cellsS] at g2
  rw [cellsIs] at g3
  clear hf
  match xs, hlen with
  | [y0, y1, y2, y3], _ =>
    simp only [List.getElem?_cons_zero, List.getElem?_cons_succ] at g0 g1 g2 g3
    obtain ⟨k, c0, _, w0⟩ := DataW.trod_int Tryz.underlying3 g0
    obtain ⟨j, c1, _, w1⟩ := DataW.trod_int Tryz.underlying3 g1
    obtain ⟨s, c2, _, w2⟩ := DataW.trod_string Tryz.underlying9 g2
    obtain ⟨v, zs, c3, q1, q2, q3⟩ := open_rows_at Tryz.underlying43 cellsI (by omega) (fun z : Int => [Value.int .i64 z]) (fun _ => True) open_int1 g3 (fun y hy => hlt y (by rw [hx]; simp; right; right; right; exact hy))
    rw [flat_ints] at q1
    refine ⟨⟨k, j, s, zs, v⟩, ?_, ⟨w2, q1, q3⟩⟩
    apply List.ext_getElem?
    intro i
    unfold OpG.cells
    have a0 := one_at c0
    have a1 := one_at c1
    have a2 := one_at c2
    have a3 := one_at c3
    match i with
    | 0 => exact a0
    | 1 => exact a1
    | 2 => exact a2
    | 3 => exact a3
    | i + 4 => simp; omega
set_option maxRecDepth 100000 in
theorem open_opgs {base : Nat} {v : Value} {d : DataW H} {ps : List MemPlace} (hval : Value.okWide Tryz.prog W .any base 22 v) (hd : DataW.Trod enc Tryz.prog W 0 (fun _ => true) true 22 v d ps) (hlt : ∀ x ∈ ps, x.block < W.heap.size) :
    ∃ os : List OpG, Slc W 4 v os.length (os.flatMap OpG.cells) ∧ (∀ o ∈ os, o.Ok W ∧ o.cells.length = 4) ∧ ∀ g, v.ownBlock = some g → g < W.heap.size ∨ os = [] :=
  open_rows Tryz.underlying22 cellsOpG (by omega) OpG.cells (OpG.Ok W) open_opg hval hd hlt
end
/-- Steps that lie below the world a. -/
structure OpsG (a w : World) (v : Value) (l : List OpG) : Prop where
  slc : Slc w 4 v l.length (l.flatMap OpG.cells)
  own : ∀ g, v.ownBlock = some g → g < a.heap.size ∨ l = []
  op : ∀ o ∈ l, o.who.size ≤ maxLen ∧ Slc w 1 o.lv o.l.length (ints o.l) ∧ ∀ g, o.lv.ownBlock = some g → g < a.heap.size ∨ o.l = []
section
variable {a w w' : World} {v : Value} {l : List OpG}
theorem OpsG.of {W : World} (h1 : Slc W 4 v l.length (l.flatMap OpG.cells)) (h2 : ∀ o ∈ l, o.Ok W ∧ o.cells.length = 4) (h3 : ∀ g, v.ownBlock = some g → g < W.heap.size ∨ l = []) : OpsG W W v l :=
  ⟨h1, h3, fun x hx => ⟨(h2 x hx).1.who, (h2 x hx).1.slc, (h2 x hx).1.own⟩⟩
theorem slc_keep {S : List Nat} {size n : Nat} {u : Value} {cs : List Value} {E : Type} {os : List E} (k : Only S w w') (hS : ∀ b ∈ S, a.heap.size ≤ b) (hn : n = os.length) (hs : Slc w size u n cs) (hg : ∀ g, u.ownBlock = some g → g < a.heap.size ∨ os = []) : Slc w' size u n cs := by
  by_cases h0 : os = []
  · subst h0
    subst hn
    exact hs.empty
  · exact hs.only k (fun g q r => by
      have := (hg g q).resolve_right h0
      have := hS g r
      omega)
theorem OpsG.keep {S : List Nat} (h : OpsG a w v l) (k : Only S w w') (hS : ∀ b ∈ S, a.heap.size ≤ b) : OpsG a w' v l :=
  ⟨slc_keep k hS rfl h.slc h.own, h.own, fun x hx => ⟨(h.op x hx).1, slc_keep k hS rfl (h.op x hx).2.1 (h.op x hx).2.2, (h.op x hx).2.2⟩⟩
theorem OpsG.keep0 (h : OpsG a w v l) (k : Only [] w w') : OpsG a w' v l := h.keep k (by simp)
theorem OpsG.cells (h : OpsG a w v l) : ∃ A cap, v = .slice A l.length cap ∧ l.length ≤ cap ∧ cap ≤ maxLen ∧ ∀ j (hj : j < l.length), ∃ b off, A = some ⟨b, off, none⟩ ∧ b < w.heap.size ∧ b < a.heap.size ∧ ∀ r, r < 4 → w.cell? ⟨b, off + j * 4 + r, none⟩ = (l[j].cells)[r]? := by
  obtain ⟨A, cap, rfl, h1, h2, h3⟩ := h.slc.openE OpG.cells (fun _ => rfl)
  refine ⟨A, cap, rfl, h1, h2, fun j hj => ?_⟩
  obtain ⟨b, off, rfl, q1, q2⟩ := h3 j hj
  refine ⟨b, off, rfl, q1, ?_, q2⟩
  rcases h.own b rfl with q | q
  · exact q
  · rw [q] at hj
    simp at hj
end
/-- Few and small. -/
def SmallG (l : List OpG) : Prop := l.length ≤ 60 ∧ ∀ o ∈ l, o.who.size ≤ 100 ∧ o.l.length ≤ 30
def LightRet (l : List OpG) (e : Ending) : Prop := ∃ b : Bool, e = .returned (.bool b) ∧ (b = true → SmallG l)
set_option maxRecDepth 100000 in
set_option maxHeartbeats 2000000 in
theorem lightG_any {w : World} {v : Value} {l : List OpG} (h : OpsG w w v l) :
    Calls Tryz.prog 4 #[v] w fun e w' => LightRet l e ∧ Only [] w w' := by
  have hop := h.op
  obtain ⟨A, cap, rfl, _, hcap, hel⟩ := h.cells
  unfold maxLen at hcap
  have Hel := Lib.hid hel
  clear hel h
  go_enter Tryz.func4, Tryz.ntmps4
  go_wp2
  go_loopw [3] (fun iv wr => ∃ j : Nat, j ≤ l.length ∧ j ≤ 200 ∧ iv = .int .i64 j ∧ Hid (∀ k (hk : k < j) (hl : k < l.length), l[k].who.size ≤ 100 ∧ l[k].l.length ≤ 30) ∧ Only [] w wr) (fun iv _ => l.length - (intOf iv).toNat)
  case atStart => exact ⟨0, Nat.zero_le _, by omega, rfl, fun k hk => absurd hk (Nat.not_lt_zero _), Only.refl _ _⟩
  case round =>
    obtain ⟨j, hj, hj2, rfl, hs, hO⟩ := hrel
    by_cases hlt : j < l.length
    · by_cases hj3 : j < 200
      · obtain ⟨b, off, rfl, hb, _, hcell⟩ := Hel.out j hlt
        obtain ⟨o, ho⟩ : ∃ o, o = l[j] := ⟨_, rfl⟩
        have hoo := hop o (by rw [ho]; exact List.getElem_mem hlt)
        rw [← ho] at hcell
        have c2 : wr.cell? ⟨b, off + j * 4 + 2, none⟩ = some (.string o.who) := (hO.cell hb (by simp)).trans (hcell 2 (by omega))
        have c3 : wr.cell? ⟨b, off + j * 4 + 3, none⟩ = some o.lv := (hO.cell hb (by simp)).trans (hcell 3 (by omega))
        obtain ⟨Al, cl, hlv, _, _, _⟩ := hoo.2.1.openI
        rw [hlv] at c3
        by_cases h1 : 100 < o.who.size
        · clear hcell hoo hop hlv ho
          go_wp2
          go_ret
          exact ⟨⟨_, rfl, fun q => by cases q⟩, hO⟩
        · by_cases h2 : 30 < o.l.length
          · clear hcell hoo hop hlv ho
            go_wp2
            go_ret
            exact ⟨⟨_, rfl, fun q => by cases q⟩, hO⟩
          · have hs2 : Hid (∀ k (hk : k < j + 1) (hl : k < l.length), l[k].who.size ≤ 100 ∧ l[k].l.length ≤ 30) := fun k hk hl => by
              by_cases e : k = j
              · subst e
                rw [← ho]
                omega
              · exact hs.out k (by omega) hl
            clear hcell hoo hop hlv ho hs
            go_wp2
            exact ⟨⟨j + 1, hlt, by omega, by simp, hs2, hO⟩, by simp [intOf]; omega⟩
      · have hbig : ¬ l.length ≤ 60 := by omega
        go_wp2
        go_ret
        exact ⟨⟨_, rfl, fun q => absurd (by have := of_decide_eq_true q; omega) hbig⟩, hO⟩
    · go_wp2
      go_ret
      refine ⟨⟨_, rfl, fun q => ⟨by have := of_decide_eq_true q; omega, fun o ho => ?_⟩⟩, hO⟩
      obtain ⟨k, hk, rfl⟩ := List.getElem_of_mem ho
      exact hs.out k (by omega) hk
end Go.Proofs.YthjgplgfcbhihaaGreat
/- alive of the groups' laws: a first call whose answer is fixed. -/
set_option linter.unusedVariables false
set_option linter.unusedSimpArgs false
namespace Go.Proofs.YthjgplgfcbhihaaGreat
open Go.RowKit Go Go.Sort Go.Lib
def nA : ByteArray := ⟨#[97]⟩
def nB : ByteArray := ⟨#[98]⟩
def al1 : GS := ⟨0, 2, 0, 0, [], [(nA, [])], [], [], [], []⟩
def al2 : GS := ⟨0, 2, 0, 3, [0, 1, 2], [(nA, [])], [], [], [], []⟩
def al3 : GS := ⟨0, 2, 0, 3, [1, 2], [(nA, [0])], [], [], [], [(0, 1)]⟩
def al4 : GS := ⟨0, 2, 0, 3, [2], [(nA, [0, 1])], [], [], [], [(0, 1), (1, 1)]⟩
def al5 : GS := ⟨0, 2, 0, 3, [2], [(nA, [1])], [0], [], [], [(0, 1), (1, 1)]⟩
theorem al_join : (GS.new 0 2 0).join nA = (0, al1) := by kernel_rfl
theorem al_feed : al1.feed 3 = (3, al2) := by
  unfold GS.feed
  rw [if_neg (by decide)]
  have e : (max (min (3 : Int) (1000 - (al1.openN : Int))) 0).toNat = 3 := by decide
  dsimp only
  rw [e]
  have e2 : (al1.waiting ++ rangeUp 3 al1.next) = [0, 1, 2] := by decide
  rw [e2, ris_sort (by simp [Ris])]
  rfl
theorem al_next1 : al2.next1 nA = ((0, true), al3) := by kernel_rfl
theorem al_next2 : al3.next1 nA = ((1, true), al4) := by kernel_rfl
theorem al_next3 : al4.next1 nA = ((0, false), al4) := by kernel_rfl
theorem al_nak : al4.nak nA 2 [0] = (1, al5) := by kernel_rfl
theorem al_ckpt : al5.checkpoint = 1 := by kernel_rfl
theorem one_int {w : World} {b : Nat} {n : Int} (h : Blk w b 3 #[.int .i64 n]) : Slc w 1 (.slice (some ⟨b, 0, none⟩) 1 1) [n].length (ints [n]) :=
  ⟨_, _, rfl, rfl, Nat.le_refl _, by unfold maxLen; omega, fun _ => ⟨b, 0, rfl, h.lt, fun j hj => by rw [Nat.zero_add, h.cell]; simp [ints]⟩⟩
theorem nA_lim : nA.size ≤ maxLen := by unfold maxLen; decide
theorem nB_lim : nB.size ≤ maxLen := by unfold maxLen; decide
set_option maxRecDepth 100000 in
set_option maxHeartbeats 2000000 in
theorem alive_any (w : World) : Calls Tryz.prog 5 #[] w fun e w' => e = .returned (.bool true) ∧ Only [] w w' := by
  have HNew := Lib.hid (in_new w w (Only.refl _ _) 0 2 0 (by decide))
  have HJoin := Lib.hid (fun (W : World) (H : List Nat) (gb : Nat) (h : HasG w W H gb (GS.new 0 2 0) 0) => (by have := in_join h nA nA_lim; rw [al_join] at this; exact this : Calls Tryz.prog 9 #[.pointer (some ⟨gb, 0, none⟩), .string nA] W fun e w' => e = .returned (.int .i64 0) ∧ GTo w W H gb al1 1 w'))
  have HFeed := Lib.hid (fun (W : World) (H : List Nat) (gb : Nat) (h : HasG w W H gb al1 1) => (by have := in_feed h (by omega) 3; rw [al_feed] at this; exact this : Calls Tryz.prog 10 #[.pointer (some ⟨gb, 0, none⟩), .int .i64 3] W fun e w' => e = .returned (.int .i64 3) ∧ GTo w W H gb al2 2 w'))
  have HN1 := Lib.hid (fun (W : World) (H : List Nat) (gb : Nat) (h : HasG w W H gb al2 2) => (by have := in_next h (by omega) nA; rw [al_next1] at this; exact this : Calls Tryz.prog 15 #[.pointer (some ⟨gb, 0, none⟩), .string nA] W fun e w' => e = .returned (.tuple #[.int .i64 0, .bool true]) ∧ GTo w W H gb al3 3 w'))
  have HN2 := Lib.hid (fun (W : World) (H : List Nat) (gb : Nat) (h : HasG w W H gb al3 3) => (by have := in_next h (by omega) nA; rw [al_next2] at this; exact this : Calls Tryz.prog 15 #[.pointer (some ⟨gb, 0, none⟩), .string nA] W fun e w' => e = .returned (.tuple #[.int .i64 1, .bool true]) ∧ GTo w W H gb al4 4 w'))
  have HN3 := Lib.hid (fun (W : World) (H : List Nat) (gb : Nat) (h : HasG w W H gb al4 4) => (by have := in_next h (by omega) nA; rw [al_next3] at this; exact this : Calls Tryz.prog 15 #[.pointer (some ⟨gb, 0, none⟩), .string nA] W fun e w' => e = .returned (.tuple #[.int .i64 0, .bool false]) ∧ GTo w W H gb al4 5 w'))
  have HNak := Lib.hid (fun (W : World) (H : List Nat) (gb B : Nat) (h : HasG w W H gb al4 5) (hB : Blk W B 3 #[.int .i64 0]) (hb : B ∉ H) => (by have := in_nak h (by omega) nA 2 (one_int hB) (fun b hb' => .inl (fun q => by cases hb'; exact hb q)) (by simp); rw [al_nak] at this; exact this : Calls Tryz.prog 16 #[.pointer (some ⟨gb, 0, none⟩), .string nA, .int .i64 2, .slice (some ⟨B, 0, none⟩) 1 1] W fun e w' => e = .returned (.int .i64 1) ∧ GTo w W H gb al5 5 w'))
  have HPark : Hid (∀ (W : World) (H : List Nat) (gb : Nat), HasG w W H gb al5 5 → Calls Tryz.prog 17 #[.pointer (some ⟨gb, 0, none⟩)] W (RowRet W [0])) := fun W H gb h => in_parked h (by omega)
  have HCk := Lib.hid (fun (W : World) (H : List Nat) (gb : Nat) (h : HasG w W H gb al5 5) => (by have := in_ckpt h (by omega); rw [al_ckpt] at this; exact this : Calls Tryz.prog 18 #[.pointer (some ⟨gb, 0, none⟩)] W fun e w' => e = .returned (.int .i64 1) ∧ Only [] W w'))
  rw [show nA = (⟨#[97]⟩ : ByteArray) from rfl] at HJoin HN1 HN2 HN3 HNak
  go_enter Tryz.func5, Tryz.ntmps5
  go_wp2_with (first
    | (go_at_call 6; refine HNew.out.mono ?_; rintro e w1 ⟨gb, H1, rfl, h1, k1, f1⟩)
    | (go_at_call 9; refine (HJoin.out _ _ _ h1).mono ?_; rintro e w2 ⟨rfl, H2, h2, k2⟩)
    | (go_at_call 10; refine (HFeed.out _ _ _ h2).mono ?_; rintro e w3 ⟨rfl, H3, h3, k3⟩)
    | (go_at_call 15; refine (HN3.out _ _ _ h5).mono ?_; rintro e w6 ⟨rfl, H6, h6, k6⟩; have hb6 := h6.keep0 ((Only.refl [] w6).alloc (.cells #[.int .i64 0] 3)))
    | (go_at_call 15; refine (HN2.out _ _ _ h4).mono ?_; rintro e w5 ⟨rfl, H5, h5, k5⟩)
    | (go_at_call 15; refine (HN1.out _ _ _ h3).mono ?_; rintro e w4 ⟨rfl, H4, h4, k4⟩)
    | (go_at_call 16; refine (HNak.out _ _ _ _ hb6 (Blk.new w6 3 _) (fun q => by have := h6.gin.lt _ q; omega)).mono ?_; rintro e w7 ⟨rfl, H7, h7, k7⟩)
    | (go_at_call 17; refine (HPark.out _ _ _ h7).mono ?_; rintro e w8 ⟨v8, rfl, ho8, hf8, hk8⟩; obtain ⟨A8, c8, e8, _, _, hel8⟩ := ho8.slc.openI; subst e8; obtain ⟨b8, o8, rfl, hb8, hc8⟩ := hel8 0 (by decide); have hc8' : w8.cell? ⟨b8, o8, none⟩ = some (.int .i64 0) := hc8; clear hel8 hc8; have h8 := h7.keep0 hk8)
    | (go_at_call 18; refine (HCk.out _ _ _ h8).mono ?_; rintro e w9 ⟨rfl, hk9⟩; have h9 := h8.keep0 hk9))
  go_ret
  exact ⟨rfl, h9.only⟩
end Go.Proofs.YthjgplgfcbhihaaGreat
/- SameInts, SameTexts; run: steps of a group; same: two groups that are the same. -/
set_option linter.unusedVariables false
set_option linter.unusedSimpArgs false
namespace Go.Proofs.YthjgplgfcbhihaaGreat
open Go.RowKit Go Go.Sort Go.Lib
set_option maxRecDepth 100000 in
set_option maxHeartbeats 1000000 in
theorem sameI_refl {w : World} {v1 v2 : Value} {l : List Int} (h1 : Slc w 1 v1 l.length (ints l)) (h2 : Slc w 1 v2 l.length (ints l)) :
    Calls Tryz.prog 50 #[v1, v2] w fun e w' => e = .returned (.bool true) ∧ Only [] w w' := by
  obtain ⟨A1, c1, rfl, _, hm1, hel1⟩ := h1.openI
  obtain ⟨A2, c2, rfl, _, hm2, hel2⟩ := h2.openI
  unfold maxLen at hm1 hm2
  have He1 := Lib.hid hel1
  have He2 := Lib.hid hel2
  clear hel1 hel2 h1 h2
  go_enter Tryz.func50, Tryz.ntmps50
  go_wp2
  go_loopw [5] (fun iv wr => ∃ j : Nat, j ≤ l.length ∧ iv = .int .i64 j ∧ Only [] w wr) (fun iv _ => l.length - (intOf iv).toNat)
  case atStart => exact ⟨0, Nat.zero_le _, rfl, Only.refl _ _⟩
  case round =>
    obtain ⟨j, hj, rfl, hO⟩ := hrel
    by_cases hlt : j < l.length
    · obtain ⟨b1, o1, rfl, hb1, q1⟩ := He1.out j hlt
      obtain ⟨b2, o2, rfl, hb2, q2⟩ := He2.out j hlt
      obtain ⟨x, hx⟩ : ∃ x, x = l[j] := ⟨_, rfl⟩
      rw [← hx] at q1 q2
      have d1 := Within.cell (S := []) ((hO.cell hb1 (by simp)).trans q1) (by simp)
      have d2 := Within.cell (S := []) ((hO.cell hb2 (by simp)).trans q2) (by simp)
      clear hx q1 q2
      go_wp2_with fail
      refine wp_region_stages (C := fun W => ∃ p : Within [] wr, W = p.W) [([0, 1, 2, 3, 4, 5, 6, 7, 8, 9], [])] [] (by kernel_rfl) (by kernel_rfl) (by intro c d u a w h; cases d <;> exact h) ⟨⟨_, (Only.refl _ _).drew⟩, rfl⟩ ?_
      refine stagesFirst ?_
      show wpQuiet _ _ _ _ [_, _, _, _, _, _, _, _, _, _] _
      repeat (go_big_quiet_step (fail))
      refine wpQuiet_nil ?_
      refine stagesDone ?_
      go_wp2
      exact ⟨⟨j + 1, hlt, by simp, hO.drew⟩, by simp [intOf]; omega⟩
    · go_wp2
      go_ret
      exact ⟨rfl, hO⟩
set_option maxRecDepth 100000 in
set_option maxHeartbeats 1000000 in
theorem sameT_refl {w : World} {v1 v2 : Value} {l : List ByteArray} (h1 : Slc w 1 v1 l.length (strs l)) (h2 : Slc w 1 v2 l.length (strs l)) :
    Calls Tryz.prog 51 #[v1, v2] w fun e w' => e = .returned (.bool true) ∧ Only [] w w' := by
  obtain ⟨A1, c1, rfl, _, hm1, hel1⟩ := h1.openS
  obtain ⟨A2, c2, rfl, _, hm2, hel2⟩ := h2.openS
  unfold maxLen at hm1 hm2
  have He1 := Lib.hid hel1
  have He2 := Lib.hid hel2
  clear hel1 hel2 h1 h2
  go_enter Tryz.func51, Tryz.ntmps51
  go_wp2
  go_loopw [5] (fun iv wr => ∃ j : Nat, j ≤ l.length ∧ iv = .int .i64 j ∧ Only [] w wr) (fun iv _ => l.length - (intOf iv).toNat)
  case atStart => exact ⟨0, Nat.zero_le _, rfl, Only.refl _ _⟩
  case round =>
    obtain ⟨j, hj, rfl, hO⟩ := hrel
    by_cases hlt : j < l.length
    · obtain ⟨b1, o1, rfl, hb1, q1⟩ := He1.out j hlt
      obtain ⟨b2, o2, rfl, hb2, q2⟩ := He2.out j hlt
      obtain ⟨x, hx⟩ : ∃ x, x = l[j] := ⟨_, rfl⟩
      rw [← hx] at q1 q2
      have d1 := Within.cell (S := []) ((hO.cell hb1 (by simp)).trans q1) (by simp)
      have d2 := Within.cell (S := []) ((hO.cell hb2 (by simp)).trans q2) (by simp)
      clear hx q1 q2
      go_wp2_with fail
      refine wp_region_stages (C := fun W => ∃ p : Within [] wr, W = p.W) [([0, 1, 2, 3, 4, 5, 6, 7, 8, 9], [])] [] (by kernel_rfl) (by kernel_rfl) (by intro c d u a w h; cases d <;> exact h) ⟨⟨_, (Only.refl _ _).drew⟩, rfl⟩ ?_
      refine stagesFirst ?_
      show wpQuiet _ _ _ _ [_, _, _, _, _, _, _, _, _, _] _
      repeat (go_big_quiet_step (fail))
      refine wpQuiet_nil ?_
      refine stagesDone ?_
      go_wp2
      exact ⟨⟨j + 1, hlt, by simp, hO.drew⟩, by simp [intOf]; omega⟩
    · go_wp2
      go_ret
      exact ⟨rfl, hO⟩
def RowAt (w : World) (cs : List Value) (n : Nat) (e : Ending) (w' : World) : Prop := ∃ A c, e = .returned (.slice A n c) ∧ Slc w' 1 (.slice A n c) n cs ∧ Only [] w w'
theorem rowAt_of {w : World} {l : List Int} {e : Ending} {w' : World} (h : RowRet w l e w') : RowAt w (ints l) l.length e w' := by
  obtain ⟨v, rfl, h1, _, h2⟩ := h
  obtain ⟨A, c, rfl, _⟩ := own_form h1
  exact ⟨A, c, rfl, h1.slc, h2⟩
theorem rowAt_who {w : World} {l : List ByteArray} {e : Ending} {w' : World} {b : Nat} (h : ∃ v, e = .returned v ∧ w'.ownsRow b 9 1 v l.length (strs l) ∧ Only [] w w') : RowAt w (strs l) l.length e w' := by
  obtain ⟨v, rfl, h1, h2⟩ := h
  obtain ⟨A, c, rfl, _⟩ := own_form h1
  exact ⟨A, c, rfl, (Slc.of_own h1).1, h2⟩
end Go.Proofs.YthjgplgfcbhihaaGreat
/- The document's group in memory; the contracts of its functions that only read. -/
set_option linter.unusedVariables false
set_option linter.unusedSimpArgs false
namespace Go.Proofs.YthjgplgfcbhihaaGreat
open Go.RowKit Go Go.Sort Go.Lib
theorem infoS : (Tryz.prog.info? 9).map (fun i => (i.zero, i.size, i.bytes)) = some (some (.string ⟨#[]⟩), 1, 16) := by kernel_rfl
theorem infoIt : (Tryz.prog.info? 79).map (fun i => (i.zero, i.size, i.bytes)) = some (some (.agg #[.int .i64 0, .int .i64 0, .int .i64 0, .string ⟨#[]⟩]), 4, 40) := by kernel_rfl
def icells (l : List Item) : List Value := l.flatMap Item.cells
theorem icells_len (l : List Item) : (icells l).length = l.length * 4 := by
  induction l with
  | nil => rfl
  | cons x l ih =>
    have : (icells (x :: l)).length = 4 + (icells l).length := by simp [icells, Item.cells]; omega
    rw [this, ih]
    simp
    omega
theorem icells_one (l : List Item) : ∀ u ∈ icells l, u.oneCell' = true := by
  intro u hu
  obtain ⟨x, _, hx⟩ := List.mem_flatMap.1 hu
  simp [Item.cells] at hx
  rcases hx with rfl | rfl | rfl | rfl <;> rfl
theorem strs_one (l : List ByteArray) : ∀ u ∈ strs l, u.oneCell' = true := by
  intro u hu
  obtain ⟨x, _, rfl⟩ := List.mem_map.1 hu
  rfl
structure RAt (w : World) (rb : Nat) (vw vl : Value) (r : RG) : Prop where
  blk : Blk w rb 64 #[.int .i64 r.from_, .int .i64 r.buf, .int .i64 r.ret, vw, vl]
  who : w.ownsRow 0 9 1 vw r.who.length (strs r.who)
  l : w.ownsRow 0 79 4 vl r.l.length (icells r.l)
def hRr (rb : Nat) (vw vl : Value) : List Nat := rb :: (vw.ownBlock.toList ++ vl.ownBlock.toList)
structure HasR (a w : World) (H : List Nat) (rb : Nat) (r : RG) : Prop where
  rin : ∃ vw vl, RAt w rb vw vl r ∧ H = hRr rb vw vl
  only : Only [] a w
  above : ∀ b ∈ H, a.heap.size ≤ b
def RTo (a w : World) (H : List Nat) (rb : Nat) (r : RG) (w' : World) : Prop := ∃ H', HasR a w' H' rb r ∧ Stepped w w' H H'
section
variable {a w w' w'' : World} {H H' S : List Nat} {rb : Nat} {vw vl : Value} {r : RG}
theorem RAt.lt (h : RAt w rb vw vl r) : ∀ b ∈ hRr rb vw vl, b < w.heap.size := by
  intro b hb
  simp only [hRr, List.mem_cons, List.mem_append, Option.mem_toList] at hb
  rcases hb with rfl | q | q
  · exact h.blk.lt
  · exact (h.who.lt b q).2
  · exact (h.l.lt b q).2
theorem RAt.only (h : RAt w rb vw vl r) (k : Only S w w') (hd : ∀ b ∈ hRr rb vw vl, b ∉ S) : RAt w' rb vw vl r :=
  ⟨k.blk h.blk (hd rb (by simp [hRr])), own_only h.who k (fun g hg => hd g (by simp [hRr, hg])), own_only h.l k (fun g hg => hd g (by simp [hRr, hg]))⟩
theorem RAt.only0 (h : RAt w rb vw vl r) (k : Only [] w w') : RAt w' rb vw vl r := h.only k (by simp)
theorem RAt.ne (h : RAt w rb vw vl r) : (∀ g, vw.ownBlock = some g → g ≠ rb) ∧ (∀ g, vl.ownBlock = some g → g ≠ rb) ∧ ∀ g, vw.ownBlock = some g → vl.ownBlock ≠ some g := by
  refine ⟨fun g hg => ?_, fun g hg => ?_, fun g hg q => ?_⟩
  · obtain ⟨cur, hc⟩ := own_type h.who hg
    exact hc.other h.blk (by decide)
  · obtain ⟨cur, hc⟩ := own_type h.l hg
    exact hc.other h.blk (by decide)
  · obtain ⟨c1, hc1⟩ := own_type h.who hg
    obtain ⟨c2, hc2⟩ := own_type h.l q
    exact hc1.other hc2 (by decide) rfl
theorem HasR.lt (h : HasR a w H rb r) : ∀ b ∈ H, b < w.heap.size := by
  obtain ⟨⟨vw, vl, h1, rfl⟩, _⟩ := h
  exact h1.lt
theorem HasR.keep (h : HasR a w H rb r) (k : Only S w w') (ha : ∀ b ∈ S, a.heap.size ≤ b) (hS : ∀ b ∈ H, b ∉ S) : HasR a w' H rb r := by
  obtain ⟨⟨vw, vl, h1, rfl⟩, ho, hab⟩ := h
  exact ⟨⟨vw, vl, h1.only k hS, rfl⟩, ho.step k (fun i hi => .inr (ha i hi)), hab⟩
theorem HasR.keep0 (h : HasR a w H rb r) (k : Only [] w w') : HasR a w' H rb r := h.keep k (by simp) (by simp)
theorem HasR.blk (h : HasR a w H rb r) : rb < w.heap.size := by
  obtain ⟨⟨vw, vl, h1, rfl⟩, _⟩ := h
  exact h1.blk.lt
theorem RTo.refl (h : HasR a w H rb r) : RTo a w H rb r w := ⟨H, h, Stepped.refl _ _⟩
theorem RTo.trans (h : Stepped w w' H H') (k : RTo a w' H' rb r w'') : RTo a w H rb r w'' := by
  obtain ⟨H2, k1, k2⟩ := k
  exact ⟨H2, k1, h.trans k2⟩
theorem hasR_of {r' : RG} {vw' vl' : Value} (h : HasR a w H rb r) (h1 : RAt w' rb vw' vl' r') (k : Stepped w w' H (hRr rb vw' vl')) : RTo a w H rb r' w' := by
  obtain ⟨q1, q2⟩ := k.above h.only h.above
  exact ⟨_, ⟨⟨vw', vl', h1, rfl⟩, q1, q2⟩, k⟩
/-- What is read of a group: its fields, and each item. -/
theorem RAt.open (h : RAt w rb vw vl r) : ∃ Aw cw Al cl, vw = .slice Aw r.who.length cw ∧ vl = .slice Al r.l.length cl ∧ r.who.length ≤ cw ∧ cw ≤ maxLen ∧ r.l.length ≤ cl ∧ cl ≤ maxLen ∧
    (∀ j (hj : j < r.who.length), ∃ b off, Aw = some ⟨b, off, none⟩ ∧ b < w.heap.size ∧ w.cell? ⟨b, off + j, none⟩ = some (.string r.who[j])) ∧
    (∀ j (hj : j < r.l.length), ∃ b off, Al = some ⟨b, off, none⟩ ∧ b < w.heap.size ∧ ∀ i, i < 4 → w.cell? ⟨b, off + j * 4 + i, none⟩ = (r.l[j].cells)[i]?) := by
  obtain ⟨Aw, cw, e1, q1, q2, q3⟩ := (Slc.of_own h.who).1.openS
  obtain ⟨Al, cl, e2, q4, q5, q6⟩ := (Slc.of_own h.l).1.openE Item.cells (fun _ => rfl)
  exact ⟨Aw, cw, Al, cl, e1, e2, q1, q2, q4, q5, q3, q6⟩
end
section
variable {a w : World} {H : List Nat} {rb : Nat} {r : RG}
set_option maxRecDepth 100000 in
set_option maxHeartbeats 1000000 in
theorem rwho_any (h : HasR a w H rb r) (s : ByteArray) :
    Calls Tryz.prog 87 #[.pointer (some ⟨rb, 0, none⟩), .string s] w fun e w' => e = .returned (.int .i64 (whoIx r.who s)) ∧ Only [] w w' := by
  obtain ⟨⟨vw, vl, hR, rfl⟩, hoa, hab⟩ := h
  obtain ⟨Aw, cw, Al, cl, rfl, rfl, hnw, hcw, hnl, hcl, helw, hell⟩ := hR.open
  unfold maxLen at hcw hcl
  have f0 : w.cell? ⟨rb, 0, none⟩ = some (.int .i64 r.from_) := hR.blk.cell 0
  have f1 : w.cell? ⟨rb, 1, none⟩ = some (.int .i64 r.buf) := hR.blk.cell 1
  have f2 : w.cell? ⟨rb, 2, none⟩ = some (.int .i64 r.ret) := hR.blk.cell 2
  have f3 : w.cell? ⟨rb, 3, none⟩ = some (.slice Aw r.who.length cw) := hR.blk.cell 3
  have f4 : w.cell? ⟨rb, 4, none⟩ = some (.slice Al r.l.length cl) := hR.blk.cell 4
  have hrb := hR.blk.lt
  have HW := Lib.hid helw
  have HL := Lib.hid hell
  clear helw hell
  go_enter Tryz.func87, Tryz.ntmps87
  go_wp2
  go_loopw [5] (fun iv wr => ∃ j : Nat, j ≤ r.who.length ∧ iv = .int .i64 j ∧ Only [] w wr ∧ Hid (∀ k (hk : k < j) (hl : k < r.who.length), (decide (r.who[k] = s)) = false)) (fun iv _ => r.who.length - (intOf iv).toNat)
  case atStart => exact ⟨0, Nat.zero_le _, rfl, Only.refl _ _, fun k hk => absurd hk (Nat.not_lt_zero _)⟩
  case round =>
    obtain ⟨j, hj, rfl, hO, hs⟩ := hrel
    have g3 : wr.cell? ⟨rb, 3, none⟩ = some (.slice Aw r.who.length cw) := (hO.cell hrb (by simp)).trans f3
    by_cases hlt : j < r.who.length
    · obtain ⟨b, off, rfl, hb, hcell⟩ := HW.out j hlt
      obtain ⟨x, hx⟩ : ∃ x, x = r.who[j] := ⟨_, rfl⟩
      rw [← hx] at hcell
      have c0 : wr.cell? ⟨b, off + j, none⟩ = some (.string x) := (hO.cell hb (by simp)).trans hcell
      by_cases he : x = s
      · have hf : whoIx r.who s = j := by
          unfold whoIx
          rw [findIdx_hit hlt hs.out (by rw [← hx, he]; simp)]
          simp [hlt]
        have he2 := eqB_t he
        clear hcell hx he
        go_wp2
        go_ret
        rw [hf]
        exact ⟨rfl, hO⟩
      · have hs2 : Hid (∀ k (hk : k < j + 1) (hl : k < r.who.length), (decide (r.who[k] = s)) = false) := fun k hk hl => by
          by_cases e : k = j
          · subst e
            rw [← hx]
            simp [he]
          · exact hs.out k (by omega) hl
        have he2 := eqB_f he
        clear hcell hx hs he
        go_wp2
        exact ⟨⟨j + 1, hlt, by simp, hO, hs2⟩, by simp [intOf]; omega⟩
    · have hf : whoIx r.who s = -1 := by
        unfold whoIx
        rw [findIdx_end (fun k hl => hs.out k (by omega) hl)]
        simp
      clear hs
      go_wp2
      go_ret
      rw [hf]
      exact ⟨rfl, hO⟩
set_option maxRecDepth 100000 in
set_option maxHeartbeats 1000000 in
theorem rckpt_any (h : HasR a w H rb r) (hb : r.from_ ≤ 1099511627776 ∧ 0 ≤ r.from_ ∧ r.l.length ≤ 1000000) :
    Calls Tryz.prog 52 #[.pointer (some ⟨rb, 0, none⟩)] w fun e w' => e = .returned (.int .i64 r.ckpt) ∧ Only [] w w' := by
  obtain ⟨⟨vw, vl, hR, rfl⟩, hoa, hab⟩ := h
  obtain ⟨Aw, cw, Al, cl, rfl, rfl, hnw, hcw, hnl, hcl, helw, hell⟩ := hR.open
  unfold maxLen at hcw hcl
  have f0 : w.cell? ⟨rb, 0, none⟩ = some (.int .i64 r.from_) := hR.blk.cell 0
  have f1 : w.cell? ⟨rb, 1, none⟩ = some (.int .i64 r.buf) := hR.blk.cell 1
  have f2 : w.cell? ⟨rb, 2, none⟩ = some (.int .i64 r.ret) := hR.blk.cell 2
  have f3 : w.cell? ⟨rb, 3, none⟩ = some (.slice Aw r.who.length cw) := hR.blk.cell 3
  have f4 : w.cell? ⟨rb, 4, none⟩ = some (.slice Al r.l.length cl) := hR.blk.cell 4
  have hrb := hR.blk.lt
  have HW := Lib.hid helw
  have HL := Lib.hid hell
  clear helw hell
  have hsum := IntWalk.i64_in (r.from_ + (r.l.length : Int)) ⟨by omega, by omega⟩
  go_enter Tryz.func52, Tryz.ntmps52
  go_wp2
  go_loopw [3] (fun iv wr => ∃ j : Nat, j ≤ r.l.length ∧ iv = .int .i64 j ∧ Only [] w wr ∧ Hid (∀ k (hk : k < j) (hl : k < r.l.length), pOpen r.l[k] = false)) (fun iv _ => r.l.length - (intOf iv).toNat)
  case atStart => exact ⟨0, Nat.zero_le _, rfl, Only.refl _ _, fun k hk => absurd hk (Nat.not_lt_zero _)⟩
  case round =>
    obtain ⟨j, hj, rfl, hO, hs⟩ := hrel
    have g4 : wr.cell? ⟨rb, 4, none⟩ = some (.slice Al r.l.length cl) := (hO.cell hrb (by simp)).trans f4
    have g0 : wr.cell? ⟨rb, 0, none⟩ = some (.int .i64 r.from_) := (hO.cell hrb (by simp)).trans f0
    by_cases hlt : j < r.l.length
    · obtain ⟨b, off, rfl, hb, hcell⟩ := HL.out j hlt
      obtain ⟨x, hx⟩ : ∃ x, x = r.l[j] := ⟨_, rfl⟩
      rw [← hx] at hcell
      have c0 : wr.cell? ⟨b, off + j * 4, none⟩ = some (.int .i64 x.n) := (hO.cell hb (by simp)).trans (hcell 0 (by omega))
      have c1 : wr.cell? ⟨b, off + j * 4 + 1, none⟩ = some (.int .i64 x.st) := (hO.cell hb (by simp)).trans (hcell 1 (by omega))
      have c2 : wr.cell? ⟨b, off + j * 4 + 2, none⟩ = some (.int .i64 x.tries) := (hO.cell hb (by simp)).trans (hcell 2 (by omega))
      have c3 : wr.cell? ⟨b, off + j * 4 + 3, none⟩ = some (.string x.own) := (hO.cell hb (by simp)).trans (hcell 3 (by omega))
      clear hcell
      by_cases he : x.st ≤ 2
      · have hf : r.ckpt = x.n := by
          unfold RG.ckpt
          rw [find_hit hlt hs.out (by rw [← hx]; simp [pOpen, he]), ← hx]
        have HF := Lib.hid hf
        clear hx hs hf
        go_wp2
        go_ret
        rw [HF.out]
        exact ⟨rfl, hO⟩
      · have hs2 : Hid (∀ k (hk : k < j + 1) (hl : k < r.l.length), pOpen r.l[k] = false) := fun k hk hl => by
          by_cases e : k = j
          · subst e
            rw [← hx]
            simp [pOpen, he]
          · exact hs.out k (by omega) hl
        clear hx hs
        go_wp2
        exact ⟨⟨j + 1, hlt, by simp, hO, hs2⟩, by simp [intOf]; omega⟩
    · have hf : r.ckpt = r.from_ + r.l.length := by
        unfold RG.ckpt
        rw [find_end (fun k hl => hs.out k (by omega) hl)]
      have HF := Lib.hid hf
      clear hs hf
      have d0 := Within.cell (S := []) g0 (by simp)
      have d4 := Within.cell (S := []) g4 (by simp)
      go_wp2_with fail
      refine wp_region_stages (C := fun W => ∃ p : Within [] wr, W = p.W) [([0, 1, 2, 3, 4, 5, 6, 7, 8, 9, 10], [])] [] (by kernel_rfl) (by kernel_rfl) (by intro c d u a w h; cases d <;> exact h) ⟨⟨_, (Only.refl _ _).drew⟩, rfl⟩ ?_
      refine stagesFirst ?_
      show wpQuiet _ _ _ _ [_, _, _, _, _, _, _, _, _, _, _] _
      repeat (go_big_quiet_step (fail))
      refine wpQuiet_nil ?_
      refine stagesDone ?_
      go_wp2
      go_ret
      rw [HF.out]
      exact ⟨rfl, hO.drew⟩
set_option maxRecDepth 100000 in
set_option maxHeartbeats 1000000 in
theorem rtries_any (h : HasR a w H rb r) (n : Int) :
    Calls Tryz.prog 49 #[.pointer (some ⟨rb, 0, none⟩), .int .i64 n] w fun e w' => e = .returned (.int .i64 (r.triesOf n)) ∧ Only [] w w' := by
  obtain ⟨⟨vw, vl, hR, rfl⟩, hoa, hab⟩ := h
  obtain ⟨Aw, cw, Al, cl, rfl, rfl, hnw, hcw, hnl, hcl, helw, hell⟩ := hR.open
  unfold maxLen at hcw hcl
  have f0 : w.cell? ⟨rb, 0, none⟩ = some (.int .i64 r.from_) := hR.blk.cell 0
  have f1 : w.cell? ⟨rb, 1, none⟩ = some (.int .i64 r.buf) := hR.blk.cell 1
  have f2 : w.cell? ⟨rb, 2, none⟩ = some (.int .i64 r.ret) := hR.blk.cell 2
  have f3 : w.cell? ⟨rb, 3, none⟩ = some (.slice Aw r.who.length cw) := hR.blk.cell 3
  have f4 : w.cell? ⟨rb, 4, none⟩ = some (.slice Al r.l.length cl) := hR.blk.cell 4
  have hrb := hR.blk.lt
  have HW := Lib.hid helw
  have HL := Lib.hid hell
  clear helw hell
  go_enter Tryz.func49, Tryz.ntmps49
  go_wp2
  go_loopw [5] (fun iv wr => ∃ j : Nat, j ≤ r.l.length ∧ iv = .int .i64 j ∧ Only [] w wr ∧ Hid (∀ k (hk : k < j) (hl : k < r.l.length), pTries n r.l[k] = false)) (fun iv _ => r.l.length - (intOf iv).toNat)
  case atStart => exact ⟨0, Nat.zero_le _, rfl, Only.refl _ _, fun k hk => absurd hk (Nat.not_lt_zero _)⟩
  case round =>
    obtain ⟨j, hj, rfl, hO, hs⟩ := hrel
    have g4 : wr.cell? ⟨rb, 4, none⟩ = some (.slice Al r.l.length cl) := (hO.cell hrb (by simp)).trans f4
    by_cases hlt : j < r.l.length
    · obtain ⟨b, off, rfl, hb, hcell⟩ := HL.out j hlt
      obtain ⟨x, hx⟩ : ∃ x, x = r.l[j] := ⟨_, rfl⟩
      rw [← hx] at hcell
      have c0 : wr.cell? ⟨b, off + j * 4, none⟩ = some (.int .i64 x.n) := (hO.cell hb (by simp)).trans (hcell 0 (by omega))
      have c1 : wr.cell? ⟨b, off + j * 4 + 1, none⟩ = some (.int .i64 x.st) := (hO.cell hb (by simp)).trans (hcell 1 (by omega))
      have c2 : wr.cell? ⟨b, off + j * 4 + 2, none⟩ = some (.int .i64 x.tries) := (hO.cell hb (by simp)).trans (hcell 2 (by omega))
      have c3 : wr.cell? ⟨b, off + j * 4 + 3, none⟩ = some (.string x.own) := (hO.cell hb (by simp)).trans (hcell 3 (by omega))
      clear hcell
      have hno : pTries n x = false → Hid (∀ k (hk : k < j + 1) (hl : k < r.l.length), pTries n r.l[k] = false) := fun he k hk hl => by
        by_cases e : k = j
        · subst e
          rw [← hx]
          exact he
        · exact hs.out k (by omega) hl
      have hye : pTries n x = true → r.triesOf n = x.tries := fun he => by
        unfold RG.triesOf
        rw [find_hit hlt hs.out (by rw [← hx]; exact he), ← hx]
      have HNo := Lib.hid hno
      have HYe := Lib.hid hye
      clear hx hs hno hye
      by_cases k1 : x.n = n
      · have b1 : (x.n == n) = true := by rw [beq_iff_eq]; exact k1
        by_cases k2 : x.st ≤ 2
        · have HF := Lib.hid (HYe.out (by simp [pTries, k1, k2]))
          clear HNo HYe k1
          go_wp2
          go_ret
          rw [HF.out]
          exact ⟨rfl, hO.alloc _⟩
        · by_cases k3 : x.st = 4
          · have HF := Lib.hid (HYe.out (by simp [pTries, k1, k3]))
            clear HNo HYe k1
            rw [k3] at c1
            go_wp2
            go_ret
            rw [HF.out]
            exact ⟨rfl, hO.alloc _⟩
          · have b3 : (x.st == 4) = false := by rw [beq_eq_false_iff_ne]; exact k3
            have hs2 := HNo.out (by simp [pTries, k2, k3])
            clear HNo HYe k1 k3
            go_wp2
            exact ⟨⟨j + 1, hlt, by simp, hO.alloc _, hs2⟩, by simp [intOf]; omega⟩
      · have b1 : (x.n == n) = false := by rw [beq_eq_false_iff_ne]; exact k1
        have hs2 := HNo.out (by simp [pTries, k1])
        clear HNo HYe k1
        go_wp2
        exact ⟨⟨j + 1, hlt, by simp, hO.alloc _, hs2⟩, by simp [intOf]; omega⟩
    · have hf : r.triesOf n = 0 := by
        unfold RG.triesOf
        rw [find_end (fun k hl => hs.out k (by omega) hl)]
      have HF := Lib.hid hf
      clear hs hf
      go_wp2
      go_ret
      rw [HF.out]
      exact ⟨rfl, hO⟩
end
end Go.Proofs.YthjgplgfcbhihaaGreat
/- The document's group: List, set, give. -/
set_option linter.unusedVariables false
set_option linter.unusedSimpArgs false
namespace Go.Proofs.YthjgplgfcbhihaaGreat
open Go.RowKit Go Go.Sort Go.Lib
theorem filt_next {α β : Type} (p : α → Bool) (f : α → β) (l : List α) (j : Nat) (h : j < l.length) : ((l.take (j + 1)).filter p).map f = ((l.take j).filter p).map f ++ (if p l[j] = true then [f l[j]] else []) := by
  rw [List.take_succ_eq_append_getElem h, List.filter_append, List.map_append]
  congr 1
  by_cases q : p l[j] = true <;> simp [q]
theorem icells_set : ∀ (l : List Item) (i : Nat) (x : Item), i < l.length →
    (((((icells l).set (i * 4) (.int .i64 x.n)).set (i * 4 + 1) (.int .i64 x.st)).set (i * 4 + 2) (.int .i64 x.tries)).set (i * 4 + 3) (.string x.own)) = icells (l.set i x)
  | [], i, x, h => absurd h (Nat.not_lt_zero _)
  | y :: l, 0, x, _ => by simp [icells, Item.cells]
  | y :: l, i + 1, x, h => by
    have ih := icells_set l i x (by simpa using h)
    have e : icells (y :: l) = .int .i64 y.n :: .int .i64 y.st :: .int .i64 y.tries :: .string y.own :: icells l := by simp [icells, Item.cells]
    have e2 : icells ((y :: l).set (i + 1) x) = .int .i64 y.n :: .int .i64 y.st :: .int .i64 y.tries :: .string y.own :: icells (l.set i x) := by simp [icells, Item.cells]
    rw [e, e2, ← ih, show (i + 1) * 4 = i * 4 + 1 + 1 + 1 + 1 by omega]
    simp [List.set_cons_succ]
theorem slc_new1 {w : World} {e : TypeId} {size : Nat} {cs : List Value} (hs : cs.length = 1 * size) : Slc (w.alloc (.cells cs.toArray e)) size (.slice (some ⟨w.heap.size, 0, none⟩) 1 1) 1 cs := by
  have hb := Blk.new w e cs.toArray
  refine ⟨_, 1, rfl, hs, Nat.le_refl _, by simp [maxLen], fun _ => ⟨w.heap.size, 0, rfl, hb.lt, fun j hj => ?_⟩⟩
  rw [Nat.zero_add, hb.cell j]
  simp
section
variable {a w : World} {H : List Nat} {rb : Nat} {r : RG}
set_option maxRecDepth 100000 in
set_option maxHeartbeats 4000000 in
theorem rlist_any (h : HasR a w H rb r) (st : Int) (s : ByteArray) (hb : r.l.length ≤ 1000000) :
    Calls Tryz.prog 47 #[.pointer (some ⟨rb, 0, none⟩), .int .i64 st, .string s] w (RowRet w (r.list st s)) := by
  obtain ⟨⟨vw, vl, hR, rfl⟩, hoa, hab⟩ := h
  obtain ⟨Aw, cw, Al, cl, rfl, rfl, hnw, hcw, hnl, hcl, helw, hell⟩ := hR.open
  unfold maxLen at hcw hcl
  have f0 : w.cell? ⟨rb, 0, none⟩ = some (.int .i64 r.from_) := hR.blk.cell 0
  have f1 : w.cell? ⟨rb, 1, none⟩ = some (.int .i64 r.buf) := hR.blk.cell 1
  have f2 : w.cell? ⟨rb, 2, none⟩ = some (.int .i64 r.ret) := hR.blk.cell 2
  have f3 : w.cell? ⟨rb, 3, none⟩ = some (.slice Aw r.who.length cw) := hR.blk.cell 3
  have f4 : w.cell? ⟨rb, 4, none⟩ = some (.slice Al r.l.length cl) := hR.blk.cell 4
  have hrb := hR.blk.lt
  have HW := Lib.hid helw
  have HL := Lib.hid hell
  clear helw hell
  go_enter Tryz.func47, Tryz.ntmps47
  go_wp2
  go_loopw [7, 8] (fun ov iv wr => ∃ (j : Nat) (Ao : Option Addr) (co : Nat), j ≤ r.l.length ∧ ov = .slice Ao (((r.l.take j).filter (pList st s)).map (·.n)).length co ∧ iv = .int .i64 j ∧ Only [] w wr ∧ wr.ownsRow w.heap.size 3 1 (.slice Ao (((r.l.take j).filter (pList st s)).map (·.n)).length co) (((r.l.take j).filter (pList st s)).map (·.n)).length (ints (((r.l.take j).filter (pList st s)).map (·.n)))) (fun _ iv _ => r.l.length - (intOf iv).toNat)
  case atStart => exact ⟨0, none, 0, Nat.zero_le _, rfl, rfl, Only.refl _ _, World.ownsRow_nil _ _ _ _⟩
  case round =>
    obtain ⟨j, Ao, co, hj, rfl, rfl, hO, hown⟩ := hrel
    have g4 : wr.cell? ⟨rb, 4, none⟩ = some (.slice Al r.l.length cl) := (hO.cell hrb (by simp)).trans f4
    by_cases hlt : j < r.l.length
    · have hfn := filt_next (pList st s) (·.n) r.l j hlt
      have hLl : (((r.l.take j).filter (pList st s)).map (·.n)).length ≤ r.l.length := by
        rw [List.length_map]
        exact Nat.le_trans (List.length_filter_le _ _) (by simp; omega)
      obtain ⟨L, hL⟩ : ∃ L, L = ((r.l.take j).filter (pList st s)).map (·.n) := ⟨_, rfl⟩
      rw [← hL] at hown hfn hLl
      rw [← hL]
      obtain ⟨b, off, rfl, hb, hcell⟩ := HL.out j hlt
      obtain ⟨x, hx⟩ : ∃ x, x = r.l[j] := ⟨_, rfl⟩
      rw [← hx] at hcell
      have c0 : wr.cell? ⟨b, off + j * 4, none⟩ = some (.int .i64 x.n) := (hO.cell hb (by simp)).trans (hcell 0 (by omega))
      have c1 : wr.cell? ⟨b, off + j * 4 + 1, none⟩ = some (.int .i64 x.st) := (hO.cell hb (by simp)).trans (hcell 1 (by omega))
      have c2 : wr.cell? ⟨b, off + j * 4 + 2, none⟩ = some (.int .i64 x.tries) := (hO.cell hb (by simp)).trans (hcell 2 (by omega))
      have c3 : wr.cell? ⟨b, off + j * 4 + 3, none⟩ = some (.string x.own) := (hO.cell hb (by simp)).trans (hcell 3 (by omega))
      clear hcell
      rw [← hx] at hfn
      obtain ⟨A4, c4, w4, hr, hown4, hO4, _⟩ := run_app (P := Tryz.prog) (w := wr.alloc (.cells #[.int .i64 x.n] 3)) 43 43 w.heap.size 3 (.int .i64 0) 1 8 Tryz.underlying43 infoI rfl (by decide) (hown.alloc _) (slc_new1 (w := wr) (e := 3) (cs := [.int .i64 x.n]) rfl) (by simp [Value.oneCell']) (by omega) (by unfold maxLen; omega) (Nat.le_trans hO.size (by simp))
      have hlen1 : pList st s x = true → (((r.l.take (j + 1)).filter (pList st s)).map (·.n)).length = L.length + 1 := fun he => by rw [hfn, if_pos he]; simp
      have hlen0 : pList st s x = false → (((r.l.take (j + 1)).filter (pList st s)).map (·.n)).length = L.length := fun he => by rw [hfn, if_neg (by simp [he])]; simp
      have HY : pList st s x = true → w4.ownsRow w.heap.size 3 1 (.slice A4 (((r.l.take (j + 1)).filter (pList st s)).map (·.n)).length c4) (((r.l.take (j + 1)).filter (pList st s)).map (·.n)).length (ints (((r.l.take (j + 1)).filter (pList st s)).map (·.n))) := fun he => by
        rw [hfn, if_pos he]
        simpa [ints] using hown4
      have HN : pList st s x = false → wr.ownsRow w.heap.size 3 1 (.slice Ao (((r.l.take (j + 1)).filter (pList st s)).map (·.n)).length co) (((r.l.take (j + 1)).filter (pList st s)).map (·.n)).length (ints (((r.l.take (j + 1)).filter (pList st s)).map (·.n))) := fun he => by
        rw [hfn, if_neg (by simp [he])]
        simpa using hown
      have hOut : Only [] w w4 := by
        refine (hO.alloc (.cells #[.int .i64 x.n] 3)).step hO4 (fun i hi => .inr ?_)
        exact (World.ownsRow.lt hown i (by simpa using hi)).1
      have HR := Lib.hid hr
      have H1 := Lib.hid hlen1
      have H0 := Lib.hid hlen0
      have HY := Lib.hid HY
      have HN := Lib.hid HN
      have HO := Lib.hid hOut
      clear hr hown4 hO4 hOut hfn hL hx hown hlen1 hlen0
      by_cases k1 : x.st = st
      · have b1 : (x.st == st) = true := by rw [beq_iff_eq]; exact k1
        by_cases k2 : st = 2
        · have b2 : (st != 2) = false := by rw [bne_eq_false_iff_eq]; exact k2
          by_cases k3 : x.own = s
          · have b3 := eqB_t k3
            have hy := HY.out (by simp [pList, k1, k3])
            have hl1 := Lib.hid (H1.out (by simp [pList, k1, k3]))
            clear HY HN k3 k1 k2
            go_wp2_with (at_builtin; refine Lib.wpList_append_run _ rfl (.tmp 44) (.tmp 53) 43 43 rfl _ _ rfl rfl _ _ HR.out ?_)
            exact ⟨⟨j + 1, A4, c4, hlt, by rw [hl1.out], by simp, HO.out, hy⟩, by simp [intOf]; omega⟩
          · have b3 := eqB_f k3
            have hn := HN.out (by simp [pList, k2, k3])
            have hl0 := Lib.hid (H0.out (by simp [pList, k2, k3]))
            clear HY HN k3 k1 k2
            go_wp2
            exact ⟨⟨j + 1, Ao, co, hlt, by rw [hl0.out], by simp, hO, hn⟩, by simp [intOf]; omega⟩
        · have b2 : (st != 2) = true := by rw [bne_iff_ne]; exact k2
          have hy := HY.out (by simp [pList, k1, k2])
          have hl1 := Lib.hid (H1.out (by simp [pList, k1, k2]))
          clear HY HN k1 k2
          go_wp2_with (at_builtin; refine Lib.wpList_append_run _ rfl (.tmp 44) (.tmp 53) 43 43 rfl _ _ rfl rfl _ _ HR.out ?_)
          exact ⟨⟨j + 1, A4, c4, hlt, by rw [hl1.out], by simp, HO.out, hy⟩, by simp [intOf]; omega⟩
      · have b1 : (x.st == st) = false := by rw [beq_eq_false_iff_ne]; exact k1
        have hn := HN.out (by simp [pList, k1])
        have hl0 := Lib.hid (H0.out (by simp [pList, k1]))
        clear HY HN k1
        go_wp2
        exact ⟨⟨j + 1, Ao, co, hlt, by rw [hl0.out], by simp, hO, hn⟩, by simp [intOf]; omega⟩
    · have hjl : r.l.take j = r.l := List.take_of_length_le (by omega)
      rw [hjl] at hown
      have hO5 : Own wr (.slice Ao (((r.l.take j).filter (pList st s)).map (·.n)).length co) (r.list st s) := by rw [hjl]; exact own_base hown (Nat.zero_le _)
      have hlt5 := World.ownsRow.lt hown
      rw [hjl] at hO5
      rw [hjl]
      clear hjl hown
      have HF := Lib.hid hlt5
      have H5 := Lib.hid hO5
      clear hlt5 hO5
      go_wp2
      go_ret
      exact ⟨_, rfl, H5.out, fun g hg => (HF.out g hg).1, hO⟩
set_option maxRecDepth 100000 in
set_option maxHeartbeats 4000000 in
theorem rset_any (h : HasR a w H rb r) (i : Nat) (hi : i < r.l.length) (hb : r.l.length ≤ 1000000) (x : Item) :
    Calls Tryz.prog 88 #[.pointer (some ⟨rb, 0, none⟩), .int .i64 i, .agg #[.int .i64 x.n, .int .i64 x.st, .int .i64 x.tries, .string x.own]] w fun e w' => e = .returned (.tuple #[]) ∧ RTo a w H rb { r with l := r.l.set i x } w' := by
  have hh := h
  obtain ⟨⟨vw, vl, hR, rfl⟩, hoa, hab⟩ := h
  obtain ⟨Aw, cw, Al, cl, rfl, rfl, hnw, hcw, hnl, hcl, helw, hell⟩ := hR.open
  unfold maxLen at hcw hcl
  have f0 : w.cell? ⟨rb, 0, none⟩ = some (.int .i64 r.from_) := hR.blk.cell 0
  have f1 : w.cell? ⟨rb, 1, none⟩ = some (.int .i64 r.buf) := hR.blk.cell 1
  have f2 : w.cell? ⟨rb, 2, none⟩ = some (.int .i64 r.ret) := hR.blk.cell 2
  have f3 : w.cell? ⟨rb, 3, none⟩ = some (.slice Aw r.who.length cw) := hR.blk.cell 3
  have f4 : w.cell? ⟨rb, 4, none⟩ = some (.slice Al r.l.length cl) := hR.blk.cell 4
  have hrb := hR.blk.lt
  have HW := Lib.hid helw
  have HL := Lib.hid hell
  clear helw hell
  have hsl := (Slc.of_own hR.l).1
  have k1 := (Only.refl [] w).alloc (.cells #[.int .i64 x.n, .int .i64 x.st, .int .i64 x.tries, .string x.own] 79)
  obtain ⟨A4, c4, w4, hr, hown4, hO4, _⟩ := run_app (P := Tryz.prog) (w := w.alloc (.cells #[.int .i64 x.n, .int .i64 x.st, .int .i64 x.tries, .string x.own] 79)) 62 62 w.heap.size 79 _ 4 40 Tryz.underlying62 infoIt rfl (by decide) (World.ownsRow_nil _ _ _ _) (hsl.only k1 (by simp)) (icells_one r.l) (by omega) (by unfold maxLen; omega) (by simp)
  simp only [Nat.zero_add, List.nil_append] at hr hown4
  obtain ⟨g, cap, hv, hbg, hlg⟩ := hown4.form (by omega)
  obtain ⟨rfl, rfl⟩ : A4 = some ⟨g, 0, none⟩ ∧ c4 = cap := by injection hv with e1 e2 e3; exact ⟨e1, e3⟩
  have hO4' : Only [] w w4 := k1.trans (by simpa [Value.ownBlock] using hO4)
  have hbx := (Blk.new w 79 #[.int .i64 x.n, .int .i64 x.st, .int .i64 x.tries, .string x.own])
  have hbx4 := (show Only [] _ w4 by simpa [Value.ownBlock] using hO4).blk hbx (by simp)
  have x0 : w4.cell? ⟨w.heap.size, 0, none⟩ = some (.int .i64 x.n) := hbx4.cell 0
  have x1 : w4.cell? ⟨w.heap.size, 1, none⟩ = some (.int .i64 x.st) := hbx4.cell 1
  have x2 : w4.cell? ⟨w.heap.size, 2, none⟩ = some (.int .i64 x.tries) := hbx4.cell 2
  have x3 : w4.cell? ⟨w.heap.size, 3, none⟩ = some (.string x.own) := hbx4.cell 3
  obtain ⟨_, _, hv2, _, _, hel4⟩ := (Slc.of_own hown4).1.openE Item.cells (fun _ => rfl)
  obtain ⟨b2, off2, hb2, _, hc4⟩ := hel4 i hi
  injection hv2 with e1 e2 e3
  subst e1 e3
  cases hb2
  obtain ⟨y, hy⟩ : ∃ y, y = r.l[i] := ⟨_, rfl⟩
  rw [← hy] at hc4
  simp only [Nat.zero_add] at hc4
  have y0 : w4.cell? ⟨g, i * 4, none⟩ = some (.int .i64 y.n) := hc4 0 (by omega)
  have y1 : w4.cell? ⟨g, i * 4 + 1, none⟩ = some (.int .i64 y.st) := hc4 1 (by omega)
  have y2 : w4.cell? ⟨g, i * 4 + 2, none⟩ = some (.int .i64 y.tries) := hc4 2 (by omega)
  have y3 : w4.cell? ⟨g, i * 4 + 3, none⟩ = some (.string y.own) := hc4 3 (by omega)
  clear hc4 hel4 hy
  have g4 : w4.cell? ⟨rb, 4, none⟩ = some (.slice Al r.l.length cl) := (hO4'.cell hrb (by simp)).trans f4
  have fr : ∀ j, w4.frozen? ⟨g, j, none⟩ = false := fun j => hown4.frozenAt j
  have hRb4 := hO4'.blk hR.blk (by simp)
  have fb : w4.frozen? ⟨rb, 4, none⟩ = false := hRb4.free 4
  have HR := Lib.hid hr
  clear hr hv hO4 k1 hsl
  go_enter Tryz.func88, Tryz.ntmps88
  go_wp2_with (at_builtin; refine Lib.wpList_append_run _ rfl (.const (.slice none 0 0)) (.tmp 10) 62 62 rfl _ _ rfl rfl _ _ HR.out ?_)
  go_end0
  have hgb : g ≠ rb := by omega
  have K5 : Only [g] w4 ((((w4.setCell ⟨g, i * 4, none⟩ (.int .i64 x.n)).setCell ⟨g, i * 4 + 1, none⟩ (.int .i64 x.st)).setCell ⟨g, i * 4 + 2, none⟩ (.int .i64 x.tries)).setCell ⟨g, i * 4 + 3, none⟩ (.string x.own)) :=
    ((((Only.refl _ _).setCell (.inl (by simp)) _).setCell (.inl (by simp)) _).setCell (.inl (by simp)) _).setCell (.inl (by simp)) _
  have hown5 := ((((hown4.stored (i * 4) (.int .i64 x.n)).1.stored (i * 4 + 1) (.int .i64 x.st)).1.stored (i * 4 + 2) (.int .i64 x.tries)).1.stored (i * 4 + 3) (.string x.own)).1
  rw [icells_set r.l i x hi] at hown5
  obtain ⟨w5, hw5⟩ : ∃ w5, w5 = ((((w4.setCell ⟨g, i * 4, none⟩ (.int .i64 x.n)).setCell ⟨g, i * 4 + 1, none⟩ (.int .i64 x.st)).setCell ⟨g, i * 4 + 2, none⟩ (.int .i64 x.tries)).setCell ⟨g, i * 4 + 3, none⟩ (.string x.own)) := ⟨_, rfl⟩
  rw [← hw5] at K5 hown5 ⊢
  have O5 : Only [] w w5 := hO4'.step K5 (fun b hb => .inr (by simp at hb; omega))
  have O6 : ∀ u, Only [rb] w (w5.setCell ⟨rb, 4, none⟩ u) := fun u => (O5.of_nil (S := [rb])).setCell (.inl (by simp)) u
  have hne := hR.ne
  refine ⟨rfl, hasR_of (vw' := .slice Aw r.who.length cw) hh ⟨(O5.blk hR.blk (by simp)).set 4 _, own_only hR.who (O6 _) (fun b hb => by simp; exact hne.1 b hb), ?_⟩ (Stepped.of (O6 _) (by simp [hRr]) (fun b hb => ?_))⟩
  · have hown6 := own_only hown5 ((Only.refl [rb] w5).setCell (.inl (by simp)) (.slice (some ⟨g, 0, none⟩) r.l.length c4) (p := ⟨rb, 4, none⟩)) (fun b hb => by simp [Value.ownBlock] at hb ⊢; omega)
    show World.ownsRow _ 0 79 4 _ (r.l.set i x).length _
    rw [List.length_set]
    exact own_base hown6 (Nat.zero_le _)
  · simp only [hRr, List.mem_cons, List.mem_append, Option.mem_toList] at hb ⊢
    rcases hb with rfl | q | q
    · exact .inl (.inl rfl)
    · exact .inl (.inr (.inl q))
    · right
      simp [Value.ownBlock] at q
      omega
set_option maxRecDepth 100000 in
set_option maxHeartbeats 4000000 in
theorem rgive_any (h : HasR a w H rb r) (i : Nat) (hi : i < r.l.length) (hb : r.l.length ≤ 1000000) (how : Int) :
    Calls Tryz.prog 89 #[.pointer (some ⟨rb, 0, none⟩), .int .i64 i, .int .i64 how] w fun e w' => e = .returned (.tuple #[]) ∧ RTo a w H rb { r with l := r.l.set i (giveI r.ret how r.l[i]) } w' := by
  have HSet := Lib.hid (fun (W : World) (hW : Only [] w W) (x : Item) => rset_any (h.keep0 hW) i hi hb x)
  have hh := h
  obtain ⟨⟨vw, vl, hR, rfl⟩, hoa, hab⟩ := h
  obtain ⟨Aw, cw, Al, cl, rfl, rfl, hnw, hcw, hnl, hcl, helw, hell⟩ := hR.open
  unfold maxLen at hcw hcl
  have f0 : w.cell? ⟨rb, 0, none⟩ = some (.int .i64 r.from_) := hR.blk.cell 0
  have f1 : w.cell? ⟨rb, 1, none⟩ = some (.int .i64 r.buf) := hR.blk.cell 1
  have f2 : w.cell? ⟨rb, 2, none⟩ = some (.int .i64 r.ret) := hR.blk.cell 2
  have f3 : w.cell? ⟨rb, 3, none⟩ = some (.slice Aw r.who.length cw) := hR.blk.cell 3
  have f4 : w.cell? ⟨rb, 4, none⟩ = some (.slice Al r.l.length cl) := hR.blk.cell 4
  have hrb := hR.blk.lt
  have HW := Lib.hid helw
  have HL := Lib.hid hell
  clear helw hell
  obtain ⟨b, off, rfl, hbl, hcell⟩ := HL.out i hi
  obtain ⟨x, hx⟩ : ∃ x, x = r.l[i] := ⟨_, rfl⟩
  rw [← hx] at hcell ⊢
  have c0 : w.cell? ⟨b, off + i * 4, none⟩ = some (.int .i64 x.n) := hcell 0 (by omega)
  have c1 : w.cell? ⟨b, off + i * 4 + 1, none⟩ = some (.int .i64 x.st) := hcell 1 (by omega)
  have c2 : w.cell? ⟨b, off + i * 4 + 2, none⟩ = some (.int .i64 x.tries) := hcell 2 (by omega)
  have c3 : w.cell? ⟨b, off + i * 4 + 3, none⟩ = some (.string x.own) := hcell 3 (by omega)
  clear hcell hx
  have HTo : ∀ st : Int, giveI r.ret how x = ⟨x.n, st, x.tries, ⟨#[]⟩⟩ → ∀ W, Only [] w W → Calls Tryz.prog 88 #[.pointer (some ⟨rb, 0, none⟩), .int .i64 i, .agg #[.int .i64 x.n, .int .i64 st, .int .i64 x.tries, .string ⟨#[]⟩]] W fun e w' => e = .returned (.tuple #[]) ∧ RTo a w (hRr rb (Value.slice Aw r.who.length cw) (Value.slice (some ⟨b, off, none⟩) r.l.length cl)) rb { r with l := r.l.set i (giveI r.ret how x) } w' := fun st e W hW => by
    have q := HSet.out W hW (giveI r.ret how x)
    rw [e] at q ⊢
    exact q.mono fun e w' ⟨q1, q2⟩ => ⟨q1, RTo.trans (Stepped.first0 hW (Stepped.refl _ _)) q2⟩
  have hend : ∀ {st : Int}, giveI r.ret how x = ⟨x.n, st, x.tries, ⟨#[]⟩⟩ → Hid (∀ W, Only [] w W → Calls Tryz.prog 88 #[.pointer (some ⟨rb, 0, none⟩), .int .i64 i, .agg #[.int .i64 x.n, .int .i64 st, .int .i64 x.tries, .string ⟨#[]⟩]] W fun e w' => e = .returned (.tuple #[]) ∧ RTo a w (hRr rb (Value.slice Aw r.who.length cw) (Value.slice (some ⟨b, off, none⟩) r.l.length cl)) rb { r with l := r.l.set i (giveI r.ret how x) } w') := fun e => HTo _ e
  clear HTo HSet hR hh hab HL HW
  by_cases k0 : how = 0
  · have HT := hend (st := 3) (by simp [giveI, k0, emptyB])
    clear hend
    subst k0
    go_enter Tryz.func89, Tryz.ntmps89
    go_wp2_with (go_at_call 88; refine (HT.out _ ((Only.refl [] w).alloc _)).mono ?_; rintro e w2 ⟨rfl, h2⟩)
    go_end0
    exact ⟨rfl, h2⟩
  by_cases k1 : how = 1
  · have HT := hend (st := 4) (by simp [giveI, k0, k1, emptyB])
    clear hend
    subst k1
    go_enter Tryz.func89, Tryz.ntmps89
    go_wp2_with (go_at_call 88; refine (HT.out _ ((Only.refl [] w).alloc _)).mono ?_; rintro e w2 ⟨rfl, h2⟩)
    go_end0
    exact ⟨rfl, h2⟩
  by_cases k3 : how = 3
  · have HT := hend (st := 5) (by simp [giveI, k0, k1, k3, emptyB])
    clear hend
    subst k3
    go_enter Tryz.func89, Tryz.ntmps89
    go_wp2_with (go_at_call 88; refine (HT.out _ ((Only.refl [] w).alloc _)).mono ?_; rintro e w2 ⟨rfl, h2⟩)
    go_end0
    exact ⟨rfl, h2⟩
  have b0 : (how == 0) = false := by rw [beq_eq_false_iff_ne]; exact k0
  have b1 : (how == 1) = false := by rw [beq_eq_false_iff_ne]; exact k1
  have b3 : (how == 3) = false := by rw [beq_eq_false_iff_ne]; exact k3
  have hbx := Blk.new w 79 #[.int .i64 x.n, .int .i64 4, .int .i64 x.tries, .string ⟨#[]⟩]
  have d0 := Within.cell (S := []) (show (w.alloc (.cells #[.int .i64 x.n, .int .i64 4, .int .i64 x.tries, .string ⟨#[]⟩] 79)).cell? ⟨w.heap.size, 2, none⟩ = some (.int .i64 x.tries) from hbx.cell 2) (by simp)
  have d1 := Within.cell (S := []) (show (w.alloc (.cells #[.int .i64 x.n, .int .i64 4, .int .i64 x.tries, .string ⟨#[]⟩] 79)).cell? ⟨rb, 2, none⟩ = some (.int .i64 r.ret) from (((Only.refl [] w).alloc _).cell hrb (by simp)).trans f2) (by simp)
  by_cases k4 : x.tries ≤ r.ret
  · have HT := hend (st := 1) (by simp [giveI, k0, k1, k3, k4, emptyB])
    clear hend k0 k1 k3
    go_enter Tryz.func89, Tryz.ntmps89
    go_wp2_with fail
    refine wp_region_stages (C := fun W => ∃ p : Within [] (w.alloc (.cells #[.int .i64 x.n, .int .i64 4, .int .i64 x.tries, .string ⟨#[]⟩] 79)), W = p.W) [([0, 1, 2, 3, 4, 5, 6], [])] [] (by kernel_rfl) (by kernel_rfl) (by intro c d u a w h; cases d <;> exact h) ⟨⟨_, (Only.refl _ _).drew⟩, rfl⟩ ?_
    refine stagesFirst ?_
    show wpQuiet _ _ _ _ [_, _, _, _, _, _, _] _
    repeat (go_big_quiet_step (fail))
    refine wpQuiet_nil ?_
    refine stagesDone ?_
    clear d0 d1 hbx
    go_wp2_with (go_at_call 88; refine (HT.out _ (((Only.refl [] w).alloc _).drew)).mono ?_; rintro e w2 ⟨rfl, h2⟩)
    go_end0
    exact ⟨rfl, h2⟩
  · have HT := hend (st := 4) (by simp [giveI, k0, k1, k3, k4, emptyB])
    clear hend k0 k1 k3
    go_enter Tryz.func89, Tryz.ntmps89
    go_wp2_with fail
    refine wp_region_stages (C := fun W => ∃ p : Within [] (w.alloc (.cells #[.int .i64 x.n, .int .i64 4, .int .i64 x.tries, .string ⟨#[]⟩] 79)), W = p.W) [([0, 1, 2, 3, 4, 5, 6], [])] [] (by kernel_rfl) (by kernel_rfl) (by intro c d u a w h; cases d <;> exact h) ⟨⟨_, (Only.refl _ _).drew⟩, rfl⟩ ?_
    refine stagesFirst ?_
    show wpQuiet _ _ _ _ [_, _, _, _, _, _, _] _
    repeat (go_big_quiet_step (fail))
    refine wpQuiet_nil ?_
    refine stagesDone ?_
    clear d0 d1 hbx
    go_wp2_with (go_at_call 88; refine (HT.out _ (((Only.refl [] w).alloc _).drew)).mono ?_; rintro e w2 ⟨rfl, h2⟩)
    go_end0
    exact ⟨rfl, h2⟩
end
end Go.Proofs.YthjgplgfcbhihaaGreat
