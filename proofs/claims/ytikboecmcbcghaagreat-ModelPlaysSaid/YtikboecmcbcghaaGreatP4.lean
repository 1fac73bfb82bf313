/- Proved here: contracts of functions and plain laws, part 4 of one proof. Conditions: each theorem names its own. -/
import Derived.Test.YtikboecmcbcghaaGreatP3
import Derived.Lib.QuietBelow
import Derived.Deep.DeepCutAuto
/- The document's state, for its Do: what stays fine, what a step keeps, plain lemmas of the loops. -/
set_option linter.unusedVariables false
set_option linter.unusedSimpArgs false
namespace Go.Proofs.YtikboecmcbcghaaGreat
open Go Go.RowKit Go.Sort
section
variable {a w w' : World} {H H' : List Nat} {rb : Nat} {r : RS} {vl vs : Value}
theorem Stepped.keepB (h : Stepped w w' H H') {g : Nat} {t : TypeId} {cur : Array Value} (hb : Blk w g t cur) (hn : g ∉ H) : Blk w' g t cur ∧ g ∉ H' := by
  obtain ⟨⟨S, h1, h2⟩, h3⟩ := h
  refine ⟨h1.blk hb (fun q => hn (h2 g q)), fun q => ?_⟩
  rcases h3 g q with y | y
  · exact hn y
  · exact absurd hb.lt (by omega)
theorem Stepped.keepS (h : Stepped w w' H H') {size n : Nat} {v : Value} {cs : List Value} (hs : Slc w size v n cs) (hn : ∀ g, v.ownBlock = some g → g ∉ H) : Slc w' size v n cs := by
  obtain ⟨⟨S, h1, h2⟩, h3⟩ := h
  exact hs.only h1 (fun b q z => hn b q (h2 b z))
theorem Stepped.setB (h : Stepped w w' H H') {g k : Nat} {u : Value} (hg : w.heap.size ≤ g) : Stepped w (w'.setCell ⟨g, k, none⟩ u) H H' := by
  obtain ⟨⟨S, h1, h2⟩, h3⟩ := h
  exact ⟨⟨S, h1.setCell (.inr hg) _, h2⟩, h3⟩
theorem HasD.setB (h : HasD a w H rb r) {g k : Nat} {u : Value} (hg : g ∉ H) (ha : a.heap.size ≤ g) : HasD a (w.setCell ⟨g, k, none⟩ u) H rb r :=
  h.keep (S := [g]) ((Only.refl _ _).setCell (.inl (by simp)) _) (by simpa using ha) (fun b hb => by simp; exact fun e => hg (e ▸ hb))
theorem HasD.setNow (h : HasD a w H rb r) (t : Int) : HasD a (w.setCell ⟨rb, 2, none⟩ (.int .i64 t)) H rb { r with now := t } ∧ Stepped w (w.setCell ⟨rb, 2, none⟩ (.int .i64 t)) H H := by
  obtain ⟨⟨vl, vs, hA, rfl⟩, ho, hab⟩ := h
  have hne := hA.ne
  have ks : Only [rb] w (w.setCell ⟨rb, 2, none⟩ (.int .i64 t)) := (Only.refl _ _).setCell (.inl (by simp)) _
  have hrb : a.heap.size ≤ rb := hab rb (by simp [hD])
  refine ⟨⟨⟨vl, vs, ⟨hA.blk.set 2 _, ?_, ?_⟩, rfl⟩, ho.setCell (.inr hrb) _, hab⟩, Stepped.of ks (by simp [hD]) (fun b hb => .inl hb)⟩
  · exact own_only hA.l ks (fun g hg hm => hne.1 g hg (List.mem_singleton.1 hm))
  · exact own_only hA.s ks (fun g hg hm => hne.2.1 g hg (List.mem_singleton.1 hm))
theorem HasD.setDone (h : HasD a w H rb r) (t : Int) : HasD a (w.setCell ⟨rb, 3, none⟩ (.int .i64 t)) H rb { r with done := t } ∧ Stepped w (w.setCell ⟨rb, 3, none⟩ (.int .i64 t)) H H := by
  obtain ⟨⟨vl, vs, hA, rfl⟩, ho, hab⟩ := h
  have hne := hA.ne
  have ks : Only [rb] w (w.setCell ⟨rb, 3, none⟩ (.int .i64 t)) := (Only.refl _ _).setCell (.inl (by simp)) _
  have hrb : a.heap.size ≤ rb := hab rb (by simp [hD])
  refine ⟨⟨⟨vl, vs, ⟨hA.blk.set 3 _, ?_, ?_⟩, rfl⟩, ho.setCell (.inr hrb) _, hab⟩, Stepped.of ks (by simp [hD]) (fun b hb => .inl hb)⟩
  · exact own_only hA.l ks (fun g hg hm => hne.1 g hg (List.mem_singleton.1 hm))
  · exact own_only hA.s ks (fun g hg hm => hne.2.1 g hg (List.mem_singleton.1 hm))
theorem DTo.setL {v' : Value} {w5 : World} {base : Nat} {l' : List StoredR} (h : HasD a w (hD rb vl vs) rb r) (hA : DocAt w rb vl vs r) (k : Only [] w w5) (hown : w5.ownsRow base 66 8 v' l'.length (l'.flatMap StoredR.cells)) (hb : w.heap.size ≤ base) :
    DTo a w (hD rb vl vs) rb { r with l := l' } (w5.setCell ⟨rb, 0, none⟩ v') := by
  have hne := hA.ne
  have hrb := hA.blk.lt
  have ks : Only [rb] w5 (w5.setCell ⟨rb, 0, none⟩ v') := (Only.refl _ _).setCell (.inl (by simp)) _
  refine hasD_of h ⟨(k.blk hA.blk (by simp)).set 0 v', ?_, ?_⟩ ?_
  · exact own_only (own_base hown (Nat.zero_le _)) ks (fun g hg hm => by
      have := (hown.lt g hg).1
      rw [List.mem_singleton.1 hm] at this
      omega)
  · exact own_only (own_only hA.s k (by simp)) ks (fun g hg hm => hne.2.1 g hg (List.mem_singleton.1 hm))
  · refine Stepped.of (S := [rb]) (k.of_nil.trans ks) (fun b hb => by rw [List.mem_singleton.1 hb]; simp [hD]) (fun b hb2 => ?_)
    simp only [hD, List.mem_cons, List.mem_append, Option.mem_toList] at hb2 ⊢
    rcases hb2 with e | e | e
    · exact .inl (.inl e)
    · have := (hown.lt b e).1
      exact .inr (by omega)
    · exact .inl (.inr (.inr e))
end
section
variable {r : RS}
theorem dfloor_bd (r : RS) (n : ByteArray) (h : r.l.length ≤ 1000000) : 0 ≤ r.floor n ∧ r.floor n ≤ 1000000 := by
  have h1 := floorE_bd (r.get n).mt (r.get n).kept r.now ((r.of n).map (·.time))
  have h2 : (r.of n).length ≤ r.l.length := List.length_filter_le _ _
  rw [List.length_map] at h1
  unfold RS.floor
  omega
theorem RS.Fine.put (h : r.Fine) {x : DStr} (h1 : x.mt.ok = true) (h2 : 0 ≤ x.kept ∧ x.kept ≤ 1000000000) : (r.put x).Fine :=
  ⟨h.few, fun n => by rw [get_put]; split; exact h1; exact h.mt n, fun n => by rw [get_put]; split; exact h2; exact h.kept n, h.now⟩
theorem RS.Fine.keep (h : r.Fine) (n : ByteArray) : (r.keep n).Fine := by
  have hb := dfloor_bd r n h.few
  exact h.put (x := { r.get n with kept := r.floor n }) (h.mt n) ⟨hb.1, by dsimp only; omega⟩
theorem RS.Fine.tick (h : r.Fine) {t : Int} (ht : within t = true) : (r.tick t).Fine := by
  refine ⟨h.few, h.mt, h.kept, ?_⟩
  have := h.now
  simp [within] at ht
  show 0 ≤ max r.now t ∧ max r.now t ≤ 1099511627776
  omega
theorem RS.Fine.more (h : r.Fine) {l : List StoredR} (hl : l.length ≤ 1000000) : ({ r with l := l } : RS).Fine := ⟨hl, h.mt, h.kept, h.now⟩
theorem putD_len (l : List DStr) (x : DStr) : (putD l x).length ≤ l.length + 1 := by
  induction l with
  | nil => simp [putD]
  | cons y l ih =>
    unfold putD
    split
    · simp
    · simp only [List.length_cons]; omega
theorem put_len (r : RS) (x : DStr) : (r.put x).s.length ≤ r.s.length + 1 := putD_len r.s x
theorem keep_len (r : RS) (n : ByteArray) : (r.keep n).s.length ≤ r.s.length + 1 := putD_len r.s _
theorem check_kind {c : Cmd} (h : c.check = 0) : 1 ≤ c.kind ∧ c.kind ≤ 5 ∧ within c.time = true := by
  unfold Cmd.check at h
  by_cases q : c.kind < 1 ∨ 5 < c.kind ∨ within c.time = false
  · rw [if_pos q] at h
    cases h
  · refine ⟨by omega, by omega, ?_⟩
    cases hw : within c.time with
    | true => rfl
    | false => exact absurd (.inr (.inr hw)) q
theorem check_evs {c : Cmd} (h : c.check = 0) (hk : c.kind = 1) : eventsE c.events = 0 := by
  obtain ⟨h1, h2, h3⟩ := check_kind h
  apply Classical.byContradiction
  intro hn
  unfold Cmd.check at h
  rw [if_neg (by rw [h3]; simp; omega)] at h
  by_cases q : c.kind ≤ 3 ∧ nameOk c.stream = false
  · rw [if_pos q] at h
    cases h
  · rw [if_neg q, if_pos ⟨hk, hn⟩] at h
    exact hn h
theorem check_mt {c : Cmd} (h : c.check = 0) (hk : c.kind = 2) : c.mt.ok = true := by
  obtain ⟨h1, h2, h3⟩ := check_kind h
  cases hm : c.mt.ok with
  | true => rfl
  | false =>
    unfold Cmd.check at h
    rw [if_neg (by rw [h3]; simp; omega)] at h
    by_cases q : c.kind ≤ 3 ∧ nameOk c.stream = false
    · rw [if_pos q] at h
      cases h
    · rw [if_neg q, if_neg (by omega), if_neg (by omega), if_pos ⟨hk, hm⟩] at h
      cases h
end
end Go.Proofs.YtikboecmcbcghaaGreat
/- The place of a name among rising names, step by step (for the document's Streams). -/
set_option linter.unusedVariables false
set_option linter.unusedSimpArgs false
namespace Go.Proofs.YtikboecmcbcghaaGreat
open Go Go.RowKit Go.Sort
theorem place_go {out : List ByteArray} {s : ByteArray} {j : Nat} (h : j ≤ placeS out s) (hj : j < out.length) (hl : ltB out[j] s = true) : j + 1 ≤ placeS out s := by
  rcases Nat.lt_or_ge j (placeS out s) with q | q
  · exact q
  · have e : j = placeS out s := Nat.le_antisymm h q
    have h2 : placeS out s < out.length := e ▸ hj
    have h3 := List.findIdx_getElem (p := fun x => !ltB x s) (xs := out) (w := h2)
    have h4 : out[j] = out[placeS out s] := by simp only [← e]
    rw [h4] at hl
    have h5 : (!ltB out[placeS out s] s) = true := h3
    rw [hl] at h5
    cases h5
theorem place_stop {out : List ByteArray} {s : ByteArray} {j : Nat} (h : j ≤ placeS out s) (hj : j < out.length) (hl : ltB out[j] s = false) : placeS out s = j := by
  refine Nat.le_antisymm (Nat.le_of_not_lt fun q => ?_) h
  have := List.not_of_lt_findIdx (p := fun x => !ltB x s) (xs := out) q
  simp [hl] at this
theorem place_end {out : List ByteArray} {s : ByteArray} {j : Nat} (h : j ≤ placeS out s) (hj : ¬ j < out.length) : placeS out s = j := by
  have := List.findIdx_le_length (p := fun x => !ltB x s) (xs := out)
  unfold placeS at *
  omega
end Go.Proofs.YtikboecmcbcghaaGreat
/- Contract of the document's Streams. -/
set_option linter.unusedVariables false
set_option linter.unusedSimpArgs false
namespace Go.Proofs.YtikboecmcbcghaaGreat
open Go Go.RowKit Go.Sort
theorem infoS : (Tryz.prog.info? 9).map (fun i => (i.zero, i.size, i.bytes)) = some (some (.string ⟨#[]⟩), 1, 16) := by kernel_rfl
theorem strs_one (l : List ByteArray) : ∀ u ∈ strs l, u.oneCell' = true := by
  intro u hu
  obtain ⟨x, _, rfl⟩ := List.mem_map.1 hu
  rfl
theorem slc_drop {w : World} {n cap k b off : Nat} {cs : List Value} (h : Slc w 1 (.slice (some ⟨b, off, none⟩) n cap) n cs) (hk : k ≤ n) : Slc w 1 (.slice (if cap = k then some ⟨b, off, none⟩ else some ⟨b, off + k, none⟩) (n - k) (cap - k)) (n - k) (cs.drop k) := by
  obtain ⟨A', cap', e, h1, h2, h3, h4⟩ := h
  injection e with e1 e2 e3
  subst e1 e3
  refine ⟨_, cap - k, rfl, by rw [List.length_drop, h1]; omega, by omega, by omega, fun hn => ?_⟩
  obtain ⟨b', off', e, hb, hc⟩ := h4 (by omega)
  cases e
  refine ⟨b, off + k, by rw [if_neg (by omega)], hb, fun j hj => ?_⟩
  rw [List.length_drop] at hj
  rw [Nat.add_assoc, hc (k + j) (by omega), List.getElem?_drop]
theorem streamsD_succ (l : List StoredR) {k : Nat} (h : k < l.length) : streamsD (l.take (k + 1)) = insS (streamsD (l.take k)) l[k].stream := by
  rw [List.take_succ_eq_append_getElem h]
  unfold streamsD
  rw [List.foldl_append]
  rfl
theorem insS_old {L : List ByteArray} {s : ByteArray} {j : Nat} (hp : placeS L s = j) (hj : j < L.length) (he : L[j] = s) : insS L s = L := by
  unfold insS
  rw [hp, if_pos (by rw [List.getElem?_eq_getElem hj, he])]
theorem insS_new {L : List ByteArray} {s : ByteArray} {j : Nat} (hp : placeS L s = j) (hn : ∀ hj : j < L.length, ¬ L[j] = s) : insS L s = L.take j ++ s :: L.drop j := by
  unfold insS
  rw [hp, if_neg]
  intro q
  obtain ⟨hj, e⟩ := List.getElem?_eq_some_iff.1 q
  exact hn hj e
section
variable {a w : World} {H : List Nat} {rb : Nat} {r : RS}
set_option maxRecDepth 100000 in
set_option maxHeartbeats 4000000 in
theorem dstreams_any (h : HasD a w H rb r) (hl : r.l.length ≤ 1000000) :
    Calls Tryz.prog 57 #[.pointer (some ⟨rb, 0, none⟩)] w fun e w' => ∃ v', e = .returned v' ∧ w'.ownsRow w.heap.size 9 1 v' (streamsD r.l).length (strs (streamsD r.l)) ∧ Only [] w w' := by
  obtain ⟨⟨vl, vs, hA, rfl⟩, -, -⟩ := h
  obtain ⟨Al, cl, As, cs, rfl, rfl, -, hcm1, -, -, hel1, -⟩ := hA.open
  unfold maxLen at hcm1
  have f0 : w.cell? ⟨rb, 0, none⟩ = some (.slice Al r.l.length cl) := hA.blk.cell 0
  have hrb := hA.blk.lt
  obtain ⟨l, hle⟩ : ∃ l, r.l = l := ⟨_, rfl⟩
  rw [hle] at hel1 f0 hl ⊢
  clear hA hle
  go_enter Tryz.func57, Tryz.ntmps57
  go_wp2
  go_loopw [3, 4] (fun o i wr => ∃ (k : Nat) (A : Option Addr) (cap : Nat), k ≤ l.length ∧ i = .int .i64 k ∧ o = .slice A (streamsD (l.take k)).length cap ∧ wr.ownsRow w.heap.size 9 1 (.slice A (streamsD (l.take k)).length cap) (streamsD (l.take k)).length (strs (streamsD (l.take k))) ∧ (streamsD (l.take k)).length ≤ k ∧ Only [] w wr) (fun _ i _ => l.length - (intOf i).toNat)
  case atStart => exact ⟨0, none, 0, Nat.zero_le _, rfl, rfl, World.ownsRow_nil _ _ _ _, Nat.le_refl _, Only.refl _ _⟩
  case round =>
    obtain ⟨k, A, cap, hk, rfl, rfl, hown, hfew, hO⟩ := hrel
    have g0 : wr.cell? ⟨rb, 0, none⟩ = some (.slice Al l.length cl) := (hO.cell hrb (by simp)).trans f0
    by_cases hlt : k < l.length
    · obtain ⟨b, off, rfl, hbb, hcc⟩ := hel1 k hlt
      have hnx := streamsD_succ l hlt
      obtain ⟨x, hx⟩ : ∃ x, x = l[k] := ⟨_, rfl⟩
      rw [← hx] at hcc hnx
      have c4 : wr.cell? ⟨b, off + k * 8 + 4, none⟩ = some (.string x.stream) := (hO.cell hbb (by simp)).trans (hcc 4 (by omega))
      obtain ⟨L, hL⟩ : ∃ L, L = streamsD (l.take k) := ⟨_, rfl⟩
      rw [← hL] at hown hfew hnx ⊢
      have HNX := Lib.hid hnx
      have HOwn := Lib.hid hown
      obtain ⟨A', cap', e, hcp1, hcp2⟩ := own_form hown
      injection e with e1 e2 e3
      subst e1 e3
      unfold maxLen at hcp2
      clear hcc hx hel1 hL hnx hown e2
      rename World => wo
      go_wp2
      go_loopw [5] (fun jv w2 => ∃ j : Nat, j ≤ L.length ∧ jv = .int .i64 j ∧ Only [] wo w2 ∧ Hid (j ≤ placeS L x.stream)) (fun jv _ => L.length - (intOf jv).toNat)
      case atStart => exact ⟨0, Nat.zero_le _, rfl, Only.refl _ _, Nat.zero_le _⟩
      case round =>
        obtain ⟨j, hj, rfl, hO2, hpl⟩ := hrel
        have hgr := (hO2.cell (p := ⟨rb, 0, none⟩) (Nat.lt_of_lt_of_le hrb hO.size) (by simp)).trans g0
        have hcr := (hO2.cell (p := ⟨b, off + k * 8 + 4, none⟩) (Nat.lt_of_lt_of_le hbb hO.size) (by simp)).trans c4
        have G0 : ∀ (e : Nat) (os : Array Obj), World.cell? (grow (redrawn wr e) os) _ = some _ := fun e os => cell_regrown hgr e os
        have C4 : ∀ (e : Nat) (os : Array Obj), World.cell? (grow (redrawn wr e) os) _ = some _ := fun e os => cell_regrown hcr e os
        have HGr := Lib.hid hgr
        have HCr := Lib.hid hcr
        clear g0 c4 f0 hgr hcr
        by_cases hlj : j < L.length
        · obtain ⟨b2, off2, hA2, hb2, hc2⟩ : ∃ b off, A = some ⟨b, off, none⟩ ∧ b < wo.heap.size ∧ wo.cell? ⟨b, off + j, none⟩ = some (.string L[j]) := by
            obtain ⟨A', cap', e, h1, h2, h3, h4⟩ := (Slc.of_own HOwn.out).1
            injection e with e1 e2 e3
            obtain ⟨b', off', rfl, hb, hc⟩ := h4 (by omega)
            refine ⟨b', off', e1, hb, ?_⟩
            rw [hc j (by simpa [strs] using hlj)]
            simp [strs, hlj]
          subst hA2
          obtain ⟨z, hz⟩ : ∃ z, z = L[j] := ⟨_, rfl⟩
          rw [← hz] at hc2
          have hzr := (hO2.cell (p := ⟨b2, off2 + j, none⟩) hb2 (by simp)).trans hc2
          have Z0 : ∀ (e : Nat) (os : Array Obj), World.cell? (grow (redrawn wr e) os) _ = some _ := fun e os => cell_regrown hzr e os
          have HZr := Lib.hid hzr
          cases hlt2 : Op.bytesLess z.toList x.stream.toList with
          | true =>
            have hp2 : Hid (j + 1 ≤ placeS L x.stream) := place_go hpl.out hlj (by rw [← hz]; exact hlt2)
            clear hzr hc2 hz
            go_wp2_with fail
            refine wp_region_quiet_below (by kernel_rfl) (by kernel_rfl) ?_
            repeat (go_big_quiet_step (fail))
            refine wpQuiet_nil ?_
            rintro _ ⟨p, rfl⟩
            go_wp2
            go_round
            case rel => exact ⟨j + 1, hlj, by simp, hO2.trans (Only.regrown [] _ p.d p.os), hp2⟩
            case measure => simp [intOf]; omega
          | false =>
            have hp2 : Hid (placeS L x.stream = j) := place_stop hpl.out hlj (by rw [← hz]; exact hlt2)
            have HZ := Lib.hid hz
            clear hzr hc2 hz
            go_wp2_with fail
            refine wp_region_quiet_below (by kernel_rfl) (by kernel_rfl) ?_
            repeat (go_big_quiet_step (fail))
            refine wpQuiet_nil ?_
            rintro _ ⟨p, rfl⟩
            have Z1 := Lib.hid (Z0 p.d p.os)
            have q6 := Only.regrown [] wr p.d p.os
            have G1 := G0 p.d p.os
            have C1 := C4 p.d p.os
            generalize grow (redrawn wr p.d) p.os = w6 at q6 G1 C1 Z1 ⊢
            have hO6 := hO2.trans q6
            clear G0 C4 Z0 HGr HCr HZr p
            have G0 : ∀ (e : Nat) (os : Array Obj), World.cell? (grow (redrawn w6 e) os) _ = some _ := fun e os => cell_regrown G1 e os
            have C4 : ∀ (e : Nat) (os : Array Obj), World.cell? (grow (redrawn w6 e) os) _ = some _ := fun e os => cell_regrown C1 e os
            have Z0 : ∀ (e : Nat) (os : Array Obj), World.cell? (grow (redrawn w6 e) os) _ = some _ := fun e os => cell_regrown Z1.out e os
            clear G1 C1
            have hjb : ((j : Int) == (L.length : Int)) = false := by rw [beq_eq_false_iff_ne]; omega
            by_cases he : z = x.stream
            · have HN : Hid (streamsD (l.take (k + 1)) = L) := HNX.out.trans (insS_old hp2.out hlj (by rw [← HZ.out]; exact he))
              have he2 := eqD_t he
              clear he
              go_wp2_with fail
              refine wp_region_quiet_below (by kernel_rfl) (by kernel_rfl) ?_
              repeat (go_big_quiet_step (fail))
              refine wpQuiet_nil ?_
              rintro _ ⟨p, rfl⟩
              go_wp2
              go_round
              case rel =>
                refine ⟨k + 1, some ⟨b2, off2, none⟩, cap, hlt, by simp, by rw [HN.out], ?_, by rw [HN.out]; omega, hO.trans (hO6.trans (Only.regrown [] w6 p.d p.os))⟩
                rw [HN.out]
                exact own_only HOwn.out (hO6.trans (Only.regrown [] w6 p.d p.os)) (by simp)
              case measure => simp [intOf]; omega
            · have hns : ∀ hj : j < L.length, ¬ L[j] = x.stream := fun _ => by rw [← HZ.out]; exact he
              have he2 := eqD_f he
              have hoff : Hid (off2 = 0) := by
                obtain ⟨g, c0, e, _, _⟩ := HOwn.out.form (by omega)
                injection e with e1 _ _
                injection e1 with e1
                injection e1
              clear he
              go_wp2_with fail
              refine wp_region_quiet_below (by kernel_rfl) (by kernel_rfl) ?_
              repeat (go_big_quiet_step (fail))
              refine wpQuiet_nil ?_
              rintro _ ⟨p, rfl⟩
              have q8 := Only.regrown [] w6 p.d p.os
              have G1 := G0 p.d p.os
              have C1 := C4 p.d p.os
              generalize grow (redrawn w6 p.d) p.os = w8 at q8 G1 C1 ⊢
              have hO8 := hO6.trans q8
              have HGr := Lib.hid G1
              have HCr := Lib.hid C1
              have hsl := (Slc.of_own HOwn.out).1.only0 hO8
              clear G0 C4 G1 C1
              have hcj : ¬ cap = j := by omega
              have hsl1 : Slc w8 1 (.slice (some ⟨b2, off2, none⟩) j cap) j (strs (L.take j)) := by
                have := slc_take hsl (Nat.le_of_lt hlj)
                rwa [Nat.mul_one, show (strs L).take j = strs (L.take j) by simp [strs]] at this
              have hsl2 : Slc w8 1 (.slice (some ⟨b2, off2 + j, none⟩) (L.length - j) (cap - j)) (L.length - j) (strs (L.drop j)) := by
                have := slc_drop hsl (Nat.le_of_lt hlj)
                rwa [if_neg hcj, show (strs L).drop j = strs (L.drop j) by simp [strs]] at this
              clear hsl
              have HN : Hid (streamsD (l.take (k + 1)) = L.take j ++ x.stream :: L.drop j) := HNX.out.trans (insS_new hp2.out hns)
              have HLn : Hid (j + 1 + (L.length - j) = (streamsD (l.take (k + 1))).length) := by
                unfold Hid
                rw [HN.out, List.length_append, List.length_cons, List.length_take, List.length_drop]
                omega
              have HFin := Lib.hid (fun (W : World) (A : Option Addr) (c : Nat) (k6 : Only [] w8 W) (ho : W.ownsRow w8.heap.size 9 1 (.slice A (j + 1 + (L.length - j)) c) (j + 1 + (L.length - j)) (strs (L.take j) ++ [.string x.stream] ++ strs (L.drop j))) =>
                show W.ownsRow w.heap.size 9 1 (.slice A (streamsD (l.take (k + 1))).length c) (streamsD (l.take (k + 1))).length (strs (streamsD (l.take (k + 1)))) from by
                  rw [← HLn.out, HN.out]
                  have e : strs (L.take j ++ x.stream :: L.drop j) = strs (L.take j) ++ [.string x.stream] ++ strs (L.drop j) := by simp [strs]
                  rw [e]
                  exact own_base ho (Nat.le_trans hO.size hO8.size))
              have hlv := fun (W : World) (hW : Only [] w8 W) => run_app (P := Tryz.prog) 41 41 w8.heap.size 9 (.string ⟨#[]⟩) 1 16 Tryz.underlying41 infoS rfl (by decide) (World.ownsRow_nil W w8.heap.size 9 1) (hsl1.only0 hW) (strs_one _) (by omega) (by unfold maxLen; omega) hW.size
              have HApp := Lib.hid hlv
              have HSl2 := Lib.hid hsl2
              have d0 := Within.cell (S := []) HGr.out (by simp)
              have d4 := Within.cell (S := []) HCr.out (by simp)
              clear hsl1 hsl2 hlv hns
              go_wp2_with fail
              refine wp_region_fork [] [0, 1, 2, 4, 5, 6, 7, 8, 9, 10, 11, 14, 15, 16] 3 12 [13, 17] [18] (by kernel_rfl) (by kernel_rfl) (by intro c d u a w h; cases d <;> exact h) ?_
              show wpQuiet _ _ _ _ [_, _, _, _, _, _, _, _, _, _, _, _, _, _] _
              repeat (go_big_quiet_step (fail))
              refine wpQuiet_nil ?_
              clear d0 d4
              refine fork_intro (fun a0 a1 W => ∃ (A4 : Option Addr) (c4 g : Nat), a1 = (a0.put (some 58) (.slice A4 j c4)).put (some 67) (.slice (some ⟨g, 0, none⟩) 1 1) ∧ Only [] w8 W ∧ W.ownsRow w8.heap.size 9 1 (.slice A4 j c4) j (strs (L.take j)) ∧ Slc W 1 (.slice (some ⟨g, 0, none⟩) 1 1) 1 [.string x.stream]) ?_ ?_ ?_
              · obtain ⟨A4, c4, w4, hr4, hown4, hO4, _⟩ := HApp.out w8.drew (Only.refl _ _).drew
                simp only [Nat.zero_add, List.nil_append] at hr4 hown4
                have hO4' : Only [] w8.drew w4 := by simpa [Value.ownBlock] using hO4
                have HR4 := Lib.hid hr4
                clear hr4 hO4
                show wpList _ _ _ [_] _ _
                go_wp2_with (at_builtin; refine Lib.wpList_append_run _ rfl (.const (.slice none 0 0)) (.tmp 57) 41 41 rfl _ _ rfl rfl _ _ HR4.out ?_)
                refine check_of (S := []) ((Only.refl [] _).drew.trans hO4') ?_
                show wpList _ _ _ [_] _ _
                go_wp2
                exact check_of (S := []) (((Only.refl [] _).drew.trans hO4').alloc _) ⟨A4, c4, w4.heap.size, rfl, ((Only.refl [] _).drew.trans hO4').alloc _, hown4.alloc _, slc_new1 rfl⟩
              · obtain ⟨A4, c4, w4, hr4, hown4, hO4, _⟩ := HApp.out (w8.drew.alloc (.cells #[.string x.stream] 9)) ((Only.refl _ _).drew.alloc _)
                simp only [Nat.zero_add, List.nil_append] at hr4 hown4
                have hO4' : Only [] (w8.drew.alloc (.cells #[.string x.stream] 9)) w4 := by simpa [Value.ownBlock] using hO4
                have HR4 := Lib.hid hr4
                clear hr4 hO4
                show wpList _ _ _ [_] _ _
                go_wp2
                refine check_of (S := []) ((Only.refl [] _).drew.alloc _) ?_
                show wpList _ _ _ [_] _ _
                go_wp2_with (at_builtin; refine Lib.wpList_append_run _ rfl (.const (.slice none 0 0)) (.tmp 57) 41 41 rfl _ _ rfl rfl _ _ HR4.out ?_)
                exact check_of (S := []) (((Only.refl [] _).drew.alloc _).trans hO4') ⟨A4, c4, w8.drew.heap.size, rfl, ((Only.refl [] _).drew.alloc _).trans hO4', hown4, (slc_new1 (cs := [.string x.stream]) rfl).only0 hO4'⟩
              · rintro _ W ⟨A4, c4, g, rfl, hW, hown4, hs1⟩
                obtain ⟨A5, c5, w5, hr5, hown5, hO5, _⟩ := run_app (P := Tryz.prog) 41 41 w8.heap.size 9 (.string ⟨#[]⟩) 1 16 Tryz.underlying41 infoS rfl (by decide) hown4 hs1 (by simp [Value.oneCell']) (by omega) (by unfold maxLen; omega) hW.size
                have k5 : Only [] w8 w5 := hW.step hO5 (fun g hg => .inr (World.ownsRow.lt hown4 g (by simpa using hg)).1)
                obtain ⟨A6, c6, w6, hr6, hown6, hO6, _⟩ := run_app (P := Tryz.prog) 41 41 w8.heap.size 9 (.string ⟨#[]⟩) 1 16 Tryz.underlying41 infoS rfl (by decide) hown5 (HSl2.out.only0 k5) (strs_one _) (by omega) (by unfold maxLen; omega) k5.size
                have k6 : Only [] w8 w6 := k5.step hO6 (fun g hg => .inr (World.ownsRow.lt hown5 g (by simpa using hg)).1)
                have HR5 := Lib.hid hr5
                have HR6 := Lib.hid hr6
                have HW6 := Lib.hid (HFin.out w6 _ _ k6 hown6)
                have hO6' : Only [] w w6 := hO.trans (hO8.trans k6)
                clear hr5 hr6 hown4 hown5 hown6 hO5 hO6 hs1
                show wpList _ _ _ [_] _ _
                go_frame
                go_wp2_with (at_builtin; refine Lib.wpList_append_run _ rfl (.tmp 58) (.tmp 67) 41 41 rfl _ _ rfl rfl _ _ HR5.out ?_)
                refine check_of (S := []) k5 ?_
                show wpList _ _ _ [_] _ _
                go_wp2_with (at_builtin; refine Lib.wpList_append_run _ rfl (.tmp 68) (.tmp 71) 41 41 rfl _ _ rfl rfl _ _ HR6.out ?_)
                refine check_of (S := []) k6 ?_
                show wpList _ _ _ [_] _ _
                go_wp2
                go_round
                case rel => exact ⟨k + 1, A6, c6, hlt, by simp, by rw [← HLn.out], HW6.out, by rw [← HLn.out]; omega, hO6'⟩
                case measure => simp [intOf]; omega
        · have hjn : Hid (j = L.length) := by unfold Hid; omega
          have hp2 : Hid (placeS L x.stream = j) := place_end hpl.out hlj
          have hns : ∀ hj : j < L.length, ¬ L[j] = x.stream := fun q => absurd q hlj
          go_wp2_with fail
          refine wp_region_quiet_below (by kernel_rfl) (by kernel_rfl) ?_
          repeat (go_big_quiet_step (fail))
          refine wpQuiet_nil ?_
          rintro _ ⟨p, rfl⟩
          have q6 := Only.regrown [] wr p.d p.os
          have G1 := G0 p.d p.os
          have C1 := C4 p.d p.os
          generalize grow (redrawn wr p.d) p.os = w6 at q6 G1 C1 ⊢
          have hO6 := hO2.trans q6
          clear G0 C4 HGr HCr p
          have G0 : ∀ (e : Nat) (os : Array Obj), World.cell? (grow (redrawn w6 e) os) _ = some _ := fun e os => cell_regrown G1 e os
          have C4 : ∀ (e : Nat) (os : Array Obj), World.cell? (grow (redrawn w6 e) os) _ = some _ := fun e os => cell_regrown C1 e os
          clear G1 C1
          have hjb : ((j : Int) == (L.length : Int)) = true := by rw [beq_iff_eq]; have := hjn.out; omega
          go_wp2_with fail
          refine wp_region_quiet_below (by kernel_rfl) (by kernel_rfl) ?_
          repeat (go_big_quiet_step (fail))
          refine wpQuiet_nil ?_
          rintro _ ⟨p, rfl⟩
          have q8 := Only.regrown [] w6 p.d p.os
          have G1 := G0 p.d p.os
          have C1 := C4 p.d p.os
          generalize grow (redrawn w6 p.d) p.os = w8 at q8 G1 C1 ⊢
          have hO8 := hO6.trans q8
          have HGr := Lib.hid G1
          have HCr := Lib.hid C1
          have hsl := (Slc.of_own HOwn.out).1.only0 hO8
          clear G0 C4 G1 C1
          cases A with
          | none =>
            have hj0 : L.length = 0 := by
              rcases HOwn.out.2 with ⟨e, h0⟩ | ⟨g, c0, cur, e, _⟩
              · injection e with _ e2 e3
              · injection e with e1 _ _
                cases e1
            have hLn : L = [] := List.eq_nil_of_length_eq_zero hj0
            have hsl1 : Slc w8 1 (.slice none j cap) j (strs (L.take j)) := ⟨none, cap, rfl, by subst hLn; simp [strs]; omega, by omega, by unfold maxLen; omega, fun q => by omega⟩
            have hsl2 : Slc w8 1 (.slice none (L.length - j) (cap - j)) (L.length - j) (strs (L.drop j)) := ⟨none, cap - j, rfl, by subst hLn; simp [strs], by omega, by unfold maxLen; omega, fun q => by omega⟩
            clear hsl hLn hj0
            have HN : Hid (streamsD (l.take (k + 1)) = L.take j ++ x.stream :: L.drop j) := HNX.out.trans (insS_new hp2.out hns)
            have HLn : Hid (j + 1 + (L.length - j) = (streamsD (l.take (k + 1))).length) := by
              unfold Hid
              rw [HN.out, List.length_append, List.length_cons, List.length_take, List.length_drop]
              omega
            have HFin := Lib.hid (fun (W : World) (A : Option Addr) (c : Nat) (k6 : Only [] w8 W) (ho : W.ownsRow w8.heap.size 9 1 (.slice A (j + 1 + (L.length - j)) c) (j + 1 + (L.length - j)) (strs (L.take j) ++ [.string x.stream] ++ strs (L.drop j))) =>
              show W.ownsRow w.heap.size 9 1 (.slice A (streamsD (l.take (k + 1))).length c) (streamsD (l.take (k + 1))).length (strs (streamsD (l.take (k + 1)))) from by
                rw [← HLn.out, HN.out]
                have e : strs (L.take j ++ x.stream :: L.drop j) = strs (L.take j) ++ [.string x.stream] ++ strs (L.drop j) := by simp [strs]
                rw [e]
                exact own_base ho (Nat.le_trans hO.size hO8.size))
            have hlv := fun (W : World) (hW : Only [] w8 W) => run_app (P := Tryz.prog) 41 41 w8.heap.size 9 (.string ⟨#[]⟩) 1 16 Tryz.underlying41 infoS rfl (by decide) (World.ownsRow_nil W w8.heap.size 9 1) (hsl1.only0 hW) (strs_one _) (by omega) (by unfold maxLen; omega) hW.size
            have HApp := Lib.hid hlv
            have HSl2 := Lib.hid hsl2
            have d0 := Within.cell (S := []) HGr.out (by simp)
            have d4 := Within.cell (S := []) HCr.out (by simp)
            clear hsl1 hsl2 hlv hns
            go_wp2_with fail
            refine wp_region_fork [] [0, 1, 2, 4, 5, 6, 7, 8, 9, 10, 11, 14, 15, 16] 3 12 [13, 17] [18] (by kernel_rfl) (by kernel_rfl) (by intro c d u a w h; cases d <;> exact h) ?_
            show wpQuiet _ _ _ _ [_, _, _, _, _, _, _, _, _, _, _, _, _, _] _
            repeat (go_big_quiet_step (fail))
            refine wpQuiet_nil ?_
            clear d0 d4
            refine fork_intro (fun a0 a1 W => ∃ (A4 : Option Addr) (c4 g : Nat), a1 = (a0.put (some 58) (.slice A4 j c4)).put (some 67) (.slice (some ⟨g, 0, none⟩) 1 1) ∧ Only [] w8 W ∧ W.ownsRow w8.heap.size 9 1 (.slice A4 j c4) j (strs (L.take j)) ∧ Slc W 1 (.slice (some ⟨g, 0, none⟩) 1 1) 1 [.string x.stream]) ?_ ?_ ?_
            · obtain ⟨A4, c4, w4, hr4, hown4, hO4, _⟩ := HApp.out w8.drew (Only.refl _ _).drew
              simp only [Nat.zero_add, List.nil_append] at hr4 hown4
              have hO4' : Only [] w8.drew w4 := by simpa [Value.ownBlock] using hO4
              have HR4 := Lib.hid hr4
              clear hr4 hO4
              show wpList _ _ _ [_] _ _
              go_wp2_with (at_builtin; refine Lib.wpList_append_run _ rfl (.const (.slice none 0 0)) (.tmp 57) 41 41 rfl _ _ rfl rfl _ _ HR4.out ?_)
              refine check_of (S := []) ((Only.refl [] _).drew.trans hO4') ?_
              show wpList _ _ _ [_] _ _
              go_wp2
              exact check_of (S := []) (((Only.refl [] _).drew.trans hO4').alloc _) ⟨A4, c4, w4.heap.size, rfl, ((Only.refl [] _).drew.trans hO4').alloc _, hown4.alloc _, slc_new1 rfl⟩
            · obtain ⟨A4, c4, w4, hr4, hown4, hO4, _⟩ := HApp.out (w8.drew.alloc (.cells #[.string x.stream] 9)) ((Only.refl _ _).drew.alloc _)
              simp only [Nat.zero_add, List.nil_append] at hr4 hown4
              have hO4' : Only [] (w8.drew.alloc (.cells #[.string x.stream] 9)) w4 := by simpa [Value.ownBlock] using hO4
              have HR4 := Lib.hid hr4
              clear hr4 hO4
              show wpList _ _ _ [_] _ _
              go_wp2
              refine check_of (S := []) ((Only.refl [] _).drew.alloc _) ?_
              show wpList _ _ _ [_] _ _
              go_wp2_with (at_builtin; refine Lib.wpList_append_run _ rfl (.const (.slice none 0 0)) (.tmp 57) 41 41 rfl _ _ rfl rfl _ _ HR4.out ?_)
              exact check_of (S := []) (((Only.refl [] _).drew.alloc _).trans hO4') ⟨A4, c4, w8.drew.heap.size, rfl, ((Only.refl [] _).drew.alloc _).trans hO4', hown4, (slc_new1 (cs := [.string x.stream]) rfl).only0 hO4'⟩
            · rintro _ W ⟨A4, c4, g, rfl, hW, hown4, hs1⟩
              obtain ⟨A5, c5, w5, hr5, hown5, hO5, _⟩ := run_app (P := Tryz.prog) 41 41 w8.heap.size 9 (.string ⟨#[]⟩) 1 16 Tryz.underlying41 infoS rfl (by decide) hown4 hs1 (by simp [Value.oneCell']) (by omega) (by unfold maxLen; omega) hW.size
              have k5 : Only [] w8 w5 := hW.step hO5 (fun g hg => .inr (World.ownsRow.lt hown4 g (by simpa using hg)).1)
              obtain ⟨A6, c6, w6, hr6, hown6, hO6, _⟩ := run_app (P := Tryz.prog) 41 41 w8.heap.size 9 (.string ⟨#[]⟩) 1 16 Tryz.underlying41 infoS rfl (by decide) hown5 (HSl2.out.only0 k5) (strs_one _) (by omega) (by unfold maxLen; omega) k5.size
              have k6 : Only [] w8 w6 := k5.step hO6 (fun g hg => .inr (World.ownsRow.lt hown5 g (by simpa using hg)).1)
              have HR5 := Lib.hid hr5
              have HR6 := Lib.hid hr6
              have HW6 := Lib.hid (HFin.out w6 _ _ k6 hown6)
              have hO6' : Only [] w w6 := hO.trans (hO8.trans k6)
              clear hr5 hr6 hown4 hown5 hown6 hO5 hO6 hs1
              show wpList _ _ _ [_] _ _
              go_frame
              go_wp2_with (at_builtin; refine Lib.wpList_append_run _ rfl (.tmp 58) (.tmp 67) 41 41 rfl _ _ rfl rfl _ _ HR5.out ?_)
              refine check_of (S := []) k5 ?_
              show wpList _ _ _ [_] _ _
              go_wp2_with (at_builtin; refine Lib.wpList_append_run _ rfl (.tmp 68) (.tmp 71) 41 41 rfl _ _ rfl rfl _ _ HR6.out ?_)
              refine check_of (S := []) k6 ?_
              show wpList _ _ _ [_] _ _
              go_wp2
              go_round
              case rel => exact ⟨k + 1, A6, c6, hlt, by simp, by rw [← HLn.out], HW6.out, by rw [← HLn.out]; omega, hO6'⟩
              case measure => simp [intOf]; omega
          | some Aa =>
            obtain ⟨g2, hg2⟩ : ∃ g, Aa = ⟨g, 0, none⟩ := by
              rcases HOwn.out.2 with ⟨e, h0⟩ | ⟨g, c0, cur, e, _⟩
              · injection e with e1 _ _
                cases e1
              · injection e with e1 _ _
                injection e1 with e1
                exact ⟨g, e1⟩
            subst hg2
            have hsl1 : Slc w8 1 (.slice (some ⟨g2, 0, none⟩) j cap) j (strs (L.take j)) := by
              have := slc_take hsl hj
              rwa [Nat.mul_one, show (strs L).take j = strs (L.take j) by simp [strs]] at this
            by_cases hcj : cap = j
            · have hsl2 : Slc w8 1 (.slice (some ⟨g2, 0, none⟩) (L.length - j) (cap - j)) (L.length - j) (strs (L.drop j)) := by
                have := slc_drop hsl hj
                rwa [if_pos hcj, show (strs L).drop j = strs (L.drop j) by simp [strs]] at this
              clear hsl
              have HN : Hid (streamsD (l.take (k + 1)) = L.take j ++ x.stream :: L.drop j) := HNX.out.trans (insS_new hp2.out hns)
              have HLn : Hid (j + 1 + (L.length - j) = (streamsD (l.take (k + 1))).length) := by
                unfold Hid
                rw [HN.out, List.length_append, List.length_cons, List.length_take, List.length_drop]
                omega
              have HFin := Lib.hid (fun (W : World) (A : Option Addr) (c : Nat) (k6 : Only [] w8 W) (ho : W.ownsRow w8.heap.size 9 1 (.slice A (j + 1 + (L.length - j)) c) (j + 1 + (L.length - j)) (strs (L.take j) ++ [.string x.stream] ++ strs (L.drop j))) =>
                show W.ownsRow w.heap.size 9 1 (.slice A (streamsD (l.take (k + 1))).length c) (streamsD (l.take (k + 1))).length (strs (streamsD (l.take (k + 1)))) from by
                  rw [← HLn.out, HN.out]
                  have e : strs (L.take j ++ x.stream :: L.drop j) = strs (L.take j) ++ [.string x.stream] ++ strs (L.drop j) := by simp [strs]
                  rw [e]
                  exact own_base ho (Nat.le_trans hO.size hO8.size))
              have hlv := fun (W : World) (hW : Only [] w8 W) => run_app (P := Tryz.prog) 41 41 w8.heap.size 9 (.string ⟨#[]⟩) 1 16 Tryz.underlying41 infoS rfl (by decide) (World.ownsRow_nil W w8.heap.size 9 1) (hsl1.only0 hW) (strs_one _) (by omega) (by unfold maxLen; omega) hW.size
              have HApp := Lib.hid hlv
              have HSl2 := Lib.hid hsl2
              have d0 := Within.cell (S := []) HGr.out (by simp)
              have d4 := Within.cell (S := []) HCr.out (by simp)
              clear hsl1 hsl2 hlv hns
              go_wp2_with fail
              refine wp_region_fork [] [0, 1, 2, 4, 5, 6, 7, 8, 9, 10, 11, 14, 15, 16] 3 12 [13, 17] [18] (by kernel_rfl) (by kernel_rfl) (by intro c d u a w h; cases d <;> exact h) ?_
              show wpQuiet _ _ _ _ [_, _, _, _, _, _, _, _, _, _, _, _, _, _] _
              repeat (go_big_quiet_step (fail))
              refine wpQuiet_nil ?_
              clear d0 d4
              refine fork_intro (fun a0 a1 W => ∃ (A4 : Option Addr) (c4 g : Nat), a1 = (a0.put (some 58) (.slice A4 j c4)).put (some 67) (.slice (some ⟨g, 0, none⟩) 1 1) ∧ Only [] w8 W ∧ W.ownsRow w8.heap.size 9 1 (.slice A4 j c4) j (strs (L.take j)) ∧ Slc W 1 (.slice (some ⟨g, 0, none⟩) 1 1) 1 [.string x.stream]) ?_ ?_ ?_
              · obtain ⟨A4, c4, w4, hr4, hown4, hO4, _⟩ := HApp.out w8.drew (Only.refl _ _).drew
                simp only [Nat.zero_add, List.nil_append] at hr4 hown4
                have hO4' : Only [] w8.drew w4 := by simpa [Value.ownBlock] using hO4
                have HR4 := Lib.hid hr4
                clear hr4 hO4
                show wpList _ _ _ [_] _ _
                go_wp2_with (at_builtin; refine Lib.wpList_append_run _ rfl (.const (.slice none 0 0)) (.tmp 57) 41 41 rfl _ _ rfl rfl _ _ HR4.out ?_)
                refine check_of (S := []) ((Only.refl [] _).drew.trans hO4') ?_
                show wpList _ _ _ [_] _ _
                go_wp2
                exact check_of (S := []) (((Only.refl [] _).drew.trans hO4').alloc _) ⟨A4, c4, w4.heap.size, rfl, ((Only.refl [] _).drew.trans hO4').alloc _, hown4.alloc _, slc_new1 rfl⟩
              · obtain ⟨A4, c4, w4, hr4, hown4, hO4, _⟩ := HApp.out (w8.drew.alloc (.cells #[.string x.stream] 9)) ((Only.refl _ _).drew.alloc _)
                simp only [Nat.zero_add, List.nil_append] at hr4 hown4
                have hO4' : Only [] (w8.drew.alloc (.cells #[.string x.stream] 9)) w4 := by simpa [Value.ownBlock] using hO4
                have HR4 := Lib.hid hr4
                clear hr4 hO4
                show wpList _ _ _ [_] _ _
                go_wp2
                refine check_of (S := []) ((Only.refl [] _).drew.alloc _) ?_
                show wpList _ _ _ [_] _ _
                go_wp2_with (at_builtin; refine Lib.wpList_append_run _ rfl (.const (.slice none 0 0)) (.tmp 57) 41 41 rfl _ _ rfl rfl _ _ HR4.out ?_)
                exact check_of (S := []) (((Only.refl [] _).drew.alloc _).trans hO4') ⟨A4, c4, w8.drew.heap.size, rfl, ((Only.refl [] _).drew.alloc _).trans hO4', hown4, (slc_new1 (cs := [.string x.stream]) rfl).only0 hO4'⟩
              · rintro _ W ⟨A4, c4, g, rfl, hW, hown4, hs1⟩
                obtain ⟨A5, c5, w5, hr5, hown5, hO5, _⟩ := run_app (P := Tryz.prog) 41 41 w8.heap.size 9 (.string ⟨#[]⟩) 1 16 Tryz.underlying41 infoS rfl (by decide) hown4 hs1 (by simp [Value.oneCell']) (by omega) (by unfold maxLen; omega) hW.size
                have k5 : Only [] w8 w5 := hW.step hO5 (fun g hg => .inr (World.ownsRow.lt hown4 g (by simpa using hg)).1)
                obtain ⟨A6, c6, w6, hr6, hown6, hO6, _⟩ := run_app (P := Tryz.prog) 41 41 w8.heap.size 9 (.string ⟨#[]⟩) 1 16 Tryz.underlying41 infoS rfl (by decide) hown5 (HSl2.out.only0 k5) (strs_one _) (by omega) (by unfold maxLen; omega) k5.size
                have k6 : Only [] w8 w6 := k5.step hO6 (fun g hg => .inr (World.ownsRow.lt hown5 g (by simpa using hg)).1)
                have HR5 := Lib.hid hr5
                have HR6 := Lib.hid hr6
                have HW6 := Lib.hid (HFin.out w6 _ _ k6 hown6)
                have hO6' : Only [] w w6 := hO.trans (hO8.trans k6)
                clear hr5 hr6 hown4 hown5 hown6 hO5 hO6 hs1
                show wpList _ _ _ [_] _ _
                go_frame
                go_wp2_with (at_builtin; refine Lib.wpList_append_run _ rfl (.tmp 58) (.tmp 67) 41 41 rfl _ _ rfl rfl _ _ HR5.out ?_)
                refine check_of (S := []) k5 ?_
                show wpList _ _ _ [_] _ _
                go_wp2_with (at_builtin; refine Lib.wpList_append_run _ rfl (.tmp 68) (.tmp 71) 41 41 rfl _ _ rfl rfl _ _ HR6.out ?_)
                refine check_of (S := []) k6 ?_
                show wpList _ _ _ [_] _ _
                go_wp2
                go_round
                case rel => exact ⟨k + 1, A6, c6, hlt, by simp, by rw [← HLn.out], HW6.out, by rw [← HLn.out]; omega, hO6'⟩
                case measure => simp [intOf]; omega
            · have hsl2 : Slc w8 1 (.slice (some ⟨g2, 0 + j, none⟩) (L.length - j) (cap - j)) (L.length - j) (strs (L.drop j)) := by
                have := slc_drop hsl hj
                rwa [if_neg hcj, show (strs L).drop j = strs (L.drop j) by simp [strs]] at this
              rw [Nat.zero_add] at hsl2
              clear hsl
              have HN : Hid (streamsD (l.take (k + 1)) = L.take j ++ x.stream :: L.drop j) := HNX.out.trans (insS_new hp2.out hns)
              have HLn : Hid (j + 1 + (L.length - j) = (streamsD (l.take (k + 1))).length) := by
                unfold Hid
                rw [HN.out, List.length_append, List.length_cons, List.length_take, List.length_drop]
                omega
              have HFin := Lib.hid (fun (W : World) (A : Option Addr) (c : Nat) (k6 : Only [] w8 W) (ho : W.ownsRow w8.heap.size 9 1 (.slice A (j + 1 + (L.length - j)) c) (j + 1 + (L.length - j)) (strs (L.take j) ++ [.string x.stream] ++ strs (L.drop j))) =>
                show W.ownsRow w.heap.size 9 1 (.slice A (streamsD (l.take (k + 1))).length c) (streamsD (l.take (k + 1))).length (strs (streamsD (l.take (k + 1)))) from by
                  rw [← HLn.out, HN.out]
                  have e : strs (L.take j ++ x.stream :: L.drop j) = strs (L.take j) ++ [.string x.stream] ++ strs (L.drop j) := by simp [strs]
                  rw [e]
                  exact own_base ho (Nat.le_trans hO.size hO8.size))
              have hlv := fun (W : World) (hW : Only [] w8 W) => run_app (P := Tryz.prog) 41 41 w8.heap.size 9 (.string ⟨#[]⟩) 1 16 Tryz.underlying41 infoS rfl (by decide) (World.ownsRow_nil W w8.heap.size 9 1) (hsl1.only0 hW) (strs_one _) (by omega) (by unfold maxLen; omega) hW.size
              have HApp := Lib.hid hlv
              have HSl2 := Lib.hid hsl2
              have d0 := Within.cell (S := []) HGr.out (by simp)
              have d4 := Within.cell (S := []) HCr.out (by simp)
              clear hsl1 hsl2 hlv hns
              go_wp2_with fail
              refine wp_region_fork [] [0, 1, 2, 4, 5, 6, 7, 8, 9, 10, 11, 14, 15, 16] 3 12 [13, 17] [18] (by kernel_rfl) (by kernel_rfl) (by intro c d u a w h; cases d <;> exact h) ?_
              show wpQuiet _ _ _ _ [_, _, _, _, _, _, _, _, _, _, _, _, _, _] _
              repeat (go_big_quiet_step (fail))
              refine wpQuiet_nil ?_
              clear d0 d4
              refine fork_intro (fun a0 a1 W => ∃ (A4 : Option Addr) (c4 g : Nat), a1 = (a0.put (some 58) (.slice A4 j c4)).put (some 67) (.slice (some ⟨g, 0, none⟩) 1 1) ∧ Only [] w8 W ∧ W.ownsRow w8.heap.size 9 1 (.slice A4 j c4) j (strs (L.take j)) ∧ Slc W 1 (.slice (some ⟨g, 0, none⟩) 1 1) 1 [.string x.stream]) ?_ ?_ ?_
              · obtain ⟨A4, c4, w4, hr4, hown4, hO4, _⟩ := HApp.out w8.drew (Only.refl _ _).drew
                simp only [Nat.zero_add, List.nil_append] at hr4 hown4
                have hO4' : Only [] w8.drew w4 := by simpa [Value.ownBlock] using hO4
                have HR4 := Lib.hid hr4
                clear hr4 hO4
                show wpList _ _ _ [_] _ _
                go_wp2_with (at_builtin; refine Lib.wpList_append_run _ rfl (.const (.slice none 0 0)) (.tmp 57) 41 41 rfl _ _ rfl rfl _ _ HR4.out ?_)
                refine check_of (S := []) ((Only.refl [] _).drew.trans hO4') ?_
                show wpList _ _ _ [_] _ _
                go_wp2
                exact check_of (S := []) (((Only.refl [] _).drew.trans hO4').alloc _) ⟨A4, c4, w4.heap.size, rfl, ((Only.refl [] _).drew.trans hO4').alloc _, hown4.alloc _, slc_new1 rfl⟩
              · obtain ⟨A4, c4, w4, hr4, hown4, hO4, _⟩ := HApp.out (w8.drew.alloc (.cells #[.string x.stream] 9)) ((Only.refl _ _).drew.alloc _)
                simp only [Nat.zero_add, List.nil_append] at hr4 hown4
                have hO4' : Only [] (w8.drew.alloc (.cells #[.string x.stream] 9)) w4 := by simpa [Value.ownBlock] using hO4
                have HR4 := Lib.hid hr4
                clear hr4 hO4
                show wpList _ _ _ [_] _ _
                go_wp2
                refine check_of (S := []) ((Only.refl [] _).drew.alloc _) ?_
                show wpList _ _ _ [_] _ _
                go_wp2_with (at_builtin; refine Lib.wpList_append_run _ rfl (.const (.slice none 0 0)) (.tmp 57) 41 41 rfl _ _ rfl rfl _ _ HR4.out ?_)
                exact check_of (S := []) (((Only.refl [] _).drew.alloc _).trans hO4') ⟨A4, c4, w8.drew.heap.size, rfl, ((Only.refl [] _).drew.alloc _).trans hO4', hown4, (slc_new1 (cs := [.string x.stream]) rfl).only0 hO4'⟩
              · rintro _ W ⟨A4, c4, g, rfl, hW, hown4, hs1⟩
                obtain ⟨A5, c5, w5, hr5, hown5, hO5, _⟩ := run_app (P := Tryz.prog) 41 41 w8.heap.size 9 (.string ⟨#[]⟩) 1 16 Tryz.underlying41 infoS rfl (by decide) hown4 hs1 (by simp [Value.oneCell']) (by omega) (by unfold maxLen; omega) hW.size
                have k5 : Only [] w8 w5 := hW.step hO5 (fun g hg => .inr (World.ownsRow.lt hown4 g (by simpa using hg)).1)
                obtain ⟨A6, c6, w6, hr6, hown6, hO6, _⟩ := run_app (P := Tryz.prog) 41 41 w8.heap.size 9 (.string ⟨#[]⟩) 1 16 Tryz.underlying41 infoS rfl (by decide) hown5 (HSl2.out.only0 k5) (strs_one _) (by omega) (by unfold maxLen; omega) k5.size
                have k6 : Only [] w8 w6 := k5.step hO6 (fun g hg => .inr (World.ownsRow.lt hown5 g (by simpa using hg)).1)
                have HR5 := Lib.hid hr5
                have HR6 := Lib.hid hr6
                have HW6 := Lib.hid (HFin.out w6 _ _ k6 hown6)
                have hO6' : Only [] w w6 := hO.trans (hO8.trans k6)
                clear hr5 hr6 hown4 hown5 hown6 hO5 hO6 hs1
                show wpList _ _ _ [_] _ _
                go_frame
                go_wp2_with (at_builtin; refine Lib.wpList_append_run _ rfl (.tmp 58) (.tmp 67) 41 41 rfl _ _ rfl rfl _ _ HR5.out ?_)
                refine check_of (S := []) k5 ?_
                show wpList _ _ _ [_] _ _
                go_wp2_with (at_builtin; refine Lib.wpList_append_run _ rfl (.tmp 68) (.tmp 71) 41 41 rfl _ _ rfl rfl _ _ HR6.out ?_)
                refine check_of (S := []) k6 ?_
                show wpList _ _ _ [_] _ _
                go_wp2
                go_round
                case rel => exact ⟨k + 1, A6, c6, hlt, by simp, by rw [← HLn.out], HW6.out, by rw [← HLn.out]; omega, hO6'⟩
                case measure => simp [intOf]; omega
    · have hkl : k = l.length := by omega
      subst hkl
      rw [List.take_length] at hown ⊢
      obtain ⟨L, hL⟩ : ∃ L, L = streamsD l := ⟨_, rfl⟩
      rw [← hL] at hown ⊢
      have HL := Lib.hid hL
      clear hel1 hL
      go_wp2
      go_ret
      refine ⟨_, rfl, ?_, hO⟩
      rw [← HL.out]
      exact hown
end
end Go.Proofs.YtikboecmcbcghaaGreat
/- A book of lists that are kept (texts, stored events), in memory. -/
set_option linter.unusedVariables false
set_option linter.unusedSimpArgs false
namespace Go.Proofs.YtikboecmcbcghaaGreat
open Go.RowKit Go Go.Sort Go.Lib
theorem infoZs : (Tryz.prog.info? 28).map (fun i => (i.zero, i.size, i.bytes)) = some (some (.slice none 0 0), 1, 24) := by kernel_rfl
def scs (l : List StoredR) : List Value := l.flatMap StoredR.cells
theorem scs_len (l : List StoredR) : (scs l).length = l.length * 8 := by
  unfold scs
  induction l with
  | nil => rfl
  | cons x l ih =>
    rw [List.flatMap_cons, List.length_append, ih, List.length_cons]
    have : (StoredR.cells x).length = 8 := rfl
    omega
theorem scs_one (l : List StoredR) : ∀ u ∈ scs l, u.oneCell' = true := stored_one l
theorem infoSs : (Tryz.prog.info? 41).map (fun i => (i.zero, i.size, i.bytes)) = some (some (.slice none 0 0), 1, 24) := by kernel_rfl
def blocksV {α : Type} (L : List (Value × α)) : List Nat := L.flatMap fun p => p.1.ownBlock.toList
theorem mem_blocksV {α : Type} {L : List (Value × α)} {b : Nat} : b ∈ blocksV L ↔ ∃ p ∈ L, p.1.ownBlock = some b := by simp [blocksV]
theorem blocksV_app {α : Type} (L M : List (Value × α)) : blocksV (L ++ M) = blocksV L ++ blocksV M := by simp [blocksV]
/-- Rows of one's own beside each other. -/
structure Kpt (w : World) (e : TypeId) (L : List (Value × List Value)) : Prop where
  own : ∀ p ∈ L, w.ownsRow 0 e 1 p.1 p.2.length p.2
  nod : (blocksV L).Nodup
  lit : ∀ p ∈ L, ∃ A c, p.1 = .slice A p.2.length c
section
variable {w w' : World} {e : TypeId} {L M : List (Value × List Value)} {S : List Nat}
theorem Kpt.only (h : Kpt w e L) (k : Only S w w') (hd : ∀ b ∈ blocksV L, b ∉ S) : Kpt w' e L := ⟨fun p hp => own_only (h.own p hp) k (fun g hg => hd g (mem_blocksV.2 ⟨p, hp, hg⟩)), h.nod, h.lit⟩
theorem Kpt.lt (h : Kpt w e L) : ∀ b ∈ blocksV L, b < w.heap.size := fun b hb => by
  obtain ⟨p, hp, q⟩ := mem_blocksV.1 hb
  exact (World.ownsRow.lt (h.own p hp) b q).2
theorem Kpt.sub (h : Kpt w e (L ++ M)) : Kpt w e L ∧ Kpt w e M := by
  have hn := h.nod
  rw [blocksV_app] at hn
  obtain ⟨n1, n2, _⟩ := List.nodup_append.1 hn
  exact ⟨⟨fun p hp => h.own p (List.mem_append_left _ hp), n1, fun p hp => h.lit p (List.mem_append_left _ hp)⟩, ⟨fun p hp => h.own p (List.mem_append_right _ hp), n2, fun p hp => h.lit p (List.mem_append_right _ hp)⟩⟩
theorem Kpt.perm (h : Kpt w e L) (p : L.Perm M) : Kpt w e M := ⟨fun q hq => h.own q (p.mem_iff.2 hq), (List.Perm.flatMap_right _ p).nodup_iff.1 h.nod, fun q hq => h.lit q (p.mem_iff.2 hq)⟩
theorem Kpt.cons (h : Kpt w e L) {A : Option Addr} {c : Nat} {cs : List Value} (ho : w.ownsRow 0 e 1 (.slice A cs.length c) cs.length cs) (hf : ∀ b, (Value.slice A cs.length c).ownBlock = some b → b ∉ blocksV L) : Kpt w e ((.slice A cs.length c, cs) :: L) := by
  refine ⟨fun p hp => ?_, ?_, fun p hp => ?_⟩
  · rcases List.mem_cons.1 hp with rfl | hp
    · exact ho
    · exact h.own p hp
  · show ((Value.slice A cs.length c).ownBlock.toList ++ blocksV L).Nodup
    refine List.nodup_append.2 ⟨by cases (Value.slice A cs.length c).ownBlock <;> simp, h.nod, fun a ha b hb e => ?_⟩
    exact hf a (by simpa using ha) (by rw [e]; exact hb)
  · rcases List.mem_cons.1 hp with rfl | hp
    · exact ⟨A, c, rfl⟩
    · exact h.lit p hp
end
/-- Rows of one's own beside each other. -/
structure KpS (w : World) (L : List (Value × List StoredR)) : Prop where
  own : ∀ p ∈ L, w.ownsRow 0 66 8 p.1 p.2.length (scs p.2)
  nod : (blocksV L).Nodup
  lit : ∀ p ∈ L, ∃ A c, p.1 = .slice A p.2.length c
section
variable {w w' : World} {L M : List (Value × List StoredR)} {S : List Nat}
theorem KpS.only (h : KpS w L) (k : Only S w w') (hd : ∀ b ∈ blocksV L, b ∉ S) : KpS w' L := ⟨fun p hp => own_only (h.own p hp) k (fun g hg => hd g (mem_blocksV.2 ⟨p, hp, hg⟩)), h.nod, h.lit⟩
theorem KpS.lt (h : KpS w L) : ∀ b ∈ blocksV L, b < w.heap.size := fun b hb => by
  obtain ⟨p, hp, q⟩ := mem_blocksV.1 hb
  exact (World.ownsRow.lt (h.own p hp) b q).2
theorem KpS.sub (h : KpS w (L ++ M)) : KpS w L ∧ KpS w M := by
  have hn := h.nod
  rw [blocksV_app] at hn
  obtain ⟨n1, n2, _⟩ := List.nodup_append.1 hn
  exact ⟨⟨fun p hp => h.own p (List.mem_append_left _ hp), n1, fun p hp => h.lit p (List.mem_append_left _ hp)⟩, ⟨fun p hp => h.own p (List.mem_append_right _ hp), n2, fun p hp => h.lit p (List.mem_append_right _ hp)⟩⟩
theorem KpS.perm (h : KpS w L) (p : L.Perm M) : KpS w M := ⟨fun q hq => h.own q (p.mem_iff.2 hq), (List.Perm.flatMap_right _ p).nodup_iff.1 h.nod, fun q hq => h.lit q (p.mem_iff.2 hq)⟩
theorem KpS.cons (h : KpS w L) {A : Option Addr} {c : Nat} {cs : List StoredR} (ho : w.ownsRow 0 66 8 (.slice A cs.length c) cs.length (scs cs)) (hf : ∀ b, (Value.slice A cs.length c).ownBlock = some b → b ∉ blocksV L) : KpS w ((.slice A cs.length c, cs) :: L) := by
  refine ⟨fun p hp => ?_, ?_, fun p hp => ?_⟩
  · rcases List.mem_cons.1 hp with rfl | hp
    · exact ho
    · exact h.own p hp
  · show ((Value.slice A cs.length c).ownBlock.toList ++ blocksV L).Nodup
    refine List.nodup_append.2 ⟨by cases (Value.slice A cs.length c).ownBlock <;> simp, h.nod, fun a ha b hb e => ?_⟩
    exact hf a (by simpa using ha) (by rw [e]; exact hb)
  · rcases List.mem_cons.1 hp with rfl | hp
    · exact ⟨A, c, rfl⟩
    · exact h.lit p hp
end
/-- The book. -/
structure BkAt (w : World) (bb : Nat) (vt vx vi vy : Value) (T X : List (Value × List Value)) (I Y : List (Value × List StoredR)) : Prop where
  blk : Blk w bb 40 #[vt, vx, .slice none 0 0, .slice none 0 0, vi, vy, .slice none 0 0, .slice none 0 0, .slice none 0 0, .slice none 0 0, .slice none 0 0, .slice none 0 0]
  rt : w.ownsRow 0 41 1 vt T.length (T.map (·.1))
  rx : w.ownsRow 0 41 1 vx X.length (X.map (·.1))
  ri : w.ownsRow 0 28 1 vi I.length (I.map (·.1))
  ry : w.ownsRow 0 28 1 vy Y.length (Y.map (·.1))
  nt : ∀ b, vt.ownBlock = some b → vx.ownBlock ≠ some b
  ni : ∀ b, vi.ownBlock = some b → vy.ownBlock ≠ some b
  kt : Kpt w 9 (X ++ T)
  ki : KpS w (Y ++ I)
  st : T.map (·.2) = X.map (·.2)
  si : I.map (·.2) = Y.map (·.2)
  ct : ∀ p ∈ T, ∃ l : List ByteArray, p.2 = strs l ∧ l.length ≤ 1000000
  ci : ∀ p ∈ I, p.2.length ≤ 900000
  few : T.length ≤ 250 ∧ I.length ≤ 250
def hBk (bb : Nat) (vt vx vi vy : Value) (T X : List (Value × List Value)) (I Y : List (Value × List StoredR)) : List Nat :=
  bb :: (vt.ownBlock.toList ++ (vx.ownBlock.toList ++ (vi.ownBlock.toList ++ (vy.ownBlock.toList ++ (blocksV (X ++ T) ++ blocksV (Y ++ I))))))
structure HasB (a w : World) (H : List Nat) (bb : Nat) : Prop where
  at_ : ∃ vt vx vi vy T X I Y, BkAt w bb vt vx vi vy T X I Y ∧ H = hBk bb vt vx vi vy T X I Y
  only : Only [] a w
  above : ∀ b ∈ H, a.heap.size ≤ b
section
variable {a w w' : World} {H H' S : List Nat} {bb : Nat} {vt vx vi vy : Value} {T X : List (Value × List Value)} {I Y : List (Value × List StoredR)}
theorem mem_hBk {b : Nat} : b ∈ hBk bb vt vx vi vy T X I Y ↔ b = bb ∨ vt.ownBlock = some b ∨ vx.ownBlock = some b ∨ vi.ownBlock = some b ∨ vy.ownBlock = some b ∨ b ∈ blocksV (X ++ T) ∨ b ∈ blocksV (Y ++ I) := by
  simp [hBk]
theorem BkAt.lt (h : BkAt w bb vt vx vi vy T X I Y) : ∀ b ∈ hBk bb vt vx vi vy T X I Y, b < w.heap.size := fun b hb => by
  rcases mem_hBk.1 hb with rfl | q | q | q | q | q | q
  · exact h.blk.lt
  · exact (World.ownsRow.lt h.rt b q).2
  · exact (World.ownsRow.lt h.rx b q).2
  · exact (World.ownsRow.lt h.ri b q).2
  · exact (World.ownsRow.lt h.ry b q).2
  · exact h.kt.lt b q
  · exact h.ki.lt b q
theorem BkAt.keep (h : BkAt w bb vt vx vi vy T X I Y) (k : Only S w w') (hd : ∀ b ∈ hBk bb vt vx vi vy T X I Y, b ∉ S) : BkAt w' bb vt vx vi vy T X I Y :=
  ⟨k.blk h.blk (hd bb (by simp [hBk])), own_only h.rt k (fun g q => hd g (mem_hBk.2 (.inr (.inl q)))), own_only h.rx k (fun g q => hd g (mem_hBk.2 (.inr (.inr (.inl q))))),
    own_only h.ri k (fun g q => hd g (mem_hBk.2 (.inr (.inr (.inr (.inl q)))))), own_only h.ry k (fun g q => hd g (mem_hBk.2 (.inr (.inr (.inr (.inr (.inl q))))))),
    h.nt, h.ni, h.kt.only k (fun g q => hd g (mem_hBk.2 (.inr (.inr (.inr (.inr (.inr (.inl q)))))))), h.ki.only k (fun g q => hd g (mem_hBk.2 (.inr (.inr (.inr (.inr (.inr (.inr q)))))))), h.st, h.si, h.ct, h.ci, h.few⟩
theorem HasB.lt (h : HasB a w H bb) : ∀ b ∈ H, b < w.heap.size := by
  obtain ⟨⟨vt, vx, vi, vy, T, X, I, Y, h1, rfl⟩, _⟩ := h
  exact h1.lt
theorem HasB.keep (h : HasB a w H bb) (k : Only S w w') (ha : ∀ b ∈ S, a.heap.size ≤ b) (hd : ∀ b ∈ H, b ∉ S) : HasB a w' H bb := by
  obtain ⟨⟨vt, vx, vi, vy, T, X, I, Y, h1, rfl⟩, h2, h3⟩ := h
  exact ⟨⟨vt, vx, vi, vy, T, X, I, Y, h1.keep k hd, rfl⟩, h2.step k (fun i hi => .inr (ha i hi)), h3⟩
theorem HasB.keep0 (h : HasB a w H bb) (k : Only [] w w') : HasB a w' H bb := h.keep k (by simp) (by simp)
/-- The blocks of the book are of other types than its rows. -/
theorem BkAt.ne (h : BkAt w bb vt vx vi vy T X I Y) : (∀ b, vi.ownBlock = some b → b ≠ bb ∧ vt.ownBlock ≠ some b ∧ vx.ownBlock ≠ some b ∧ b ∉ blocksV (X ++ T) ∧ b ∉ blocksV (Y ++ I)) ∧
    (∀ b, vy.ownBlock = some b → b ≠ bb ∧ vt.ownBlock ≠ some b ∧ vx.ownBlock ≠ some b ∧ b ∉ blocksV (X ++ T) ∧ b ∉ blocksV (Y ++ I)) ∧
    (∀ b, vt.ownBlock = some b → b ≠ bb ∧ vi.ownBlock ≠ some b ∧ vy.ownBlock ≠ some b ∧ b ∉ blocksV (X ++ T) ∧ b ∉ blocksV (Y ++ I)) ∧
    (∀ b, vx.ownBlock = some b → b ≠ bb ∧ vi.ownBlock ≠ some b ∧ vy.ownBlock ≠ some b ∧ b ∉ blocksV (X ++ T) ∧ b ∉ blocksV (Y ++ I)) ∧
    bb ∉ blocksV (X ++ T) ∧ bb ∉ blocksV (Y ++ I) := by
  have kts : ∀ b ∈ blocksV (X ++ T), ∃ cur, Blk w b 9 cur := fun b hb => by
    obtain ⟨p, hp, q⟩ := mem_blocksV.1 hb
    exact own_type (h.kt.own p hp) q
  have kis : ∀ b ∈ blocksV (Y ++ I), ∃ cur, Blk w b 66 cur := fun b hb => by
    obtain ⟨p, hp, q⟩ := mem_blocksV.1 hb
    exact own_type (h.ki.own p hp) q
  have one : ∀ {e : TypeId} {v : Value} {n : Nat} {xs : List Value} (ho : w.ownsRow 0 e 1 v n xs) (h1 : e ≠ 40) (h2 : e ≠ 9) (h3 : e ≠ 66) (b : Nat), v.ownBlock = some b → b ≠ bb ∧ b ∉ blocksV (X ++ T) ∧ b ∉ blocksV (Y ++ I) := fun ho h1 h2 h3 b hb => by
    obtain ⟨cur, hc⟩ := own_type ho hb
    refine ⟨hc.other h.blk h1, fun q => ?_, fun q => ?_⟩
    · obtain ⟨c2, hc2⟩ := kts b q
      exact hc.other hc2 h2 rfl
    · obtain ⟨c2, hc2⟩ := kis b q
      exact hc.other hc2 h3 rfl
  have two : ∀ {v u : Value} {n m : Nat} {xs ys : List Value} (ho : w.ownsRow 0 28 1 v n xs) (hu : w.ownsRow 0 41 1 u m ys) (b : Nat), v.ownBlock = some b → u.ownBlock ≠ some b := fun ho hu b hb q => by
    obtain ⟨c1, h1⟩ := own_type ho hb
    obtain ⟨c2, h2⟩ := own_type hu q
    exact h1.other h2 (by decide) rfl
  refine ⟨fun b hb => ?_, fun b hb => ?_, fun b hb => ?_, fun b hb => ?_, fun q => ?_, fun q => ?_⟩
  · obtain ⟨z1, z2, z3⟩ := one h.ri (by decide) (by decide) (by decide) b hb
    exact ⟨z1, two h.ri h.rt b hb, two h.ri h.rx b hb, z2, z3⟩
  · obtain ⟨z1, z2, z3⟩ := one h.ry (by decide) (by decide) (by decide) b hb
    exact ⟨z1, two h.ry h.rt b hb, two h.ry h.rx b hb, z2, z3⟩
  · obtain ⟨z1, z2, z3⟩ := one h.rt (by decide) (by decide) (by decide) b hb
    exact ⟨z1, fun y => two h.ri h.rt b y hb, fun y => two h.ry h.rt b y hb, z2, z3⟩
  · obtain ⟨z1, z2, z3⟩ := one h.rx (by decide) (by decide) (by decide) b hb
    exact ⟨z1, fun y => two h.ri h.rx b y hb, fun y => two h.ry h.rx b y hb, z2, z3⟩
  · obtain ⟨c2, hc2⟩ := kts bb q
    exact h.blk.other hc2 (by decide) rfl
  · obtain ⟨c2, hc2⟩ := kis bb q
    exact h.blk.other hc2 (by decide) rfl
end
end Go.Proofs.YtikboecmcbcghaaGreat
/- One more list in the book: Stored. -/
set_option linter.unusedVariables false
set_option linter.unusedSimpArgs false
namespace Go.Proofs.YtikboecmcbcghaaGreat
open Go.RowKit Go Go.Sort Go.Lib
set_option maxRecDepth 100000 in
set_option maxHeartbeats 500000 in
theorem copyS_any {w : World} {l : List StoredR} {lv : Value} (hl : Slc w 8 lv l.length (scs l)) (hb : l.length ≤ 1000000) :
    Calls Tryz.prog 73 #[lv] w fun e w' => ∃ A c, e = .returned (.slice A l.length c) ∧ w'.ownsRow w.heap.size 66 8 (.slice A l.length c) l.length (scs l) ∧ Only [] w w' := by
  obtain ⟨Av, cv, rfl, _, _, _⟩ := hl.openE StoredR.cells (fun _ => rfl)
  obtain ⟨A4, c4, w4, hr4, hown4, hO4, _⟩ := run_app (P := Tryz.prog) (w := w) 28 28 w.heap.size 66 (.agg #[.int .i64 0, .string ⟨#[]⟩, .string ⟨#[]⟩, .float .f64 0, .string ⟨#[]⟩, .int .i64 0, .int .i64 0, .int .i64 0]) 8 88 Tryz.underlying28 infoSt rfl (by decide) (World.ownsRow_nil w w.heap.size 66 8) hl (scs_one l) (by omega) (by unfold maxLen; omega) (Nat.le_refl _)
  simp only [Nat.zero_add, List.nil_append] at hr4 hown4
  have k4 : Only [] w w4 := by simpa [Value.ownBlock] using hO4
  have HR4 := Lib.hid hr4
  have HO := Lib.hid hown4
  clear hr4 hown4 hO4 hl
  go_enter Tryz.func73, Tryz.ntmps73
  go_wp2_with (at_builtin; refine Lib.wpList_append_run _ rfl (.const (.slice none 0 0)) (.tmp 3) 28 28 rfl _ _ rfl rfl _ _ HR4.out ?_)
  go_ret
  exact ⟨_, _, rfl, HO.out, k4⟩
def KpTo (a w : World) (H : List Nat) (bb : Nat) (v : Value) (w' : World) : Prop := ∃ H', HasB a w' H' bb ∧ (∃ S, Only S w w' ∧ (∀ b ∈ S, b ∈ H) ∧ ∀ b ∈ S, ∀ cur, ¬ Blk w b 66 cur ∧ ¬ Blk w b 9 cur) ∧ ∀ b ∈ H', b ∈ H ∨ v.ownBlock = some b ∨ w.heap.size ≤ b
theorem app_perm {α : Type} (x y : α) (Y I : List α) : (x :: y :: (Y ++ I)).Perm ((Y ++ [y]) ++ (I ++ [x])) := by
  have h1 : (x :: y :: (Y ++ I)).Perm (y :: (Y ++ I) ++ [x]) := (List.perm_append_singleton x (y :: (Y ++ I))).symm
  have h2 := (List.perm_middle (a := y) (l₁ := Y) (l₂ := I ++ [x])).symm
  refine h1.trans ?_
  simpa using h2
set_option maxRecDepth 100000 in
set_option maxHeartbeats 400000 in
theorem bstored_any {a w : World} {H : List Nat} {bb : Nat} (h : HasB a w H bb) {A : Option Addr} {c : Nat} {l : List StoredR} (ho : w.ownsRow 0 66 8 (.slice A l.length c) l.length (scs l))
    (hf : ∀ b, (Value.slice A l.length c).ownBlock = some b → b ∉ H ∧ a.heap.size ≤ b) (hl : l.length ≤ 900000) :
    Calls Tryz.prog 19 #[.pointer (some ⟨bb, 0, none⟩), .slice A l.length c] w fun e w' => e = .returned (.tuple #[]) ∧ KpTo a w H bb (.slice A l.length c) w' := by
  have hh := h
  obtain ⟨⟨vt, vx, vi, vy, T, X, I, Y, hB, rfl⟩, hoa, hab⟩ := h
  obtain ⟨Ai, ci, rfl, hni, hmi⟩ := own_form hB.ri
  obtain ⟨Ay, cy, rfl, hny, hmy⟩ := own_form hB.ry
  unfold maxLen at hmi hmy
  have g2 : w.cell? ⟨bb, 4, none⟩ = some (.slice Ai I.length ci) := hB.blk.cell 4
  have hbl := hB.blk.lt
  by_cases hlt : 250 ≤ I.length
  · have HK := Lib.hid (show KpTo a w _ bb (.slice A l.length c) w from ⟨_, hh, ⟨[], Only.refl _ _, by simp, by simp⟩, fun b hb => .inl hb⟩)
    clear hh hB hab hf
    go_enter Tryz.func19, Tryz.ntmps19
    go_wp2
    go_end0
    exact ⟨rfl, HK.out⟩
  have hYl : Y.length = I.length := by
    have := congrArg List.length hB.si
    simpa using this.symm
  obtain ⟨ni, ny, nt, nx, _, nbi⟩ := hB.ne
  -- the first list
  obtain ⟨A4, c4, w4, hr4, hown4, hO4, hf4⟩ := run_app (P := Tryz.prog) (w := w.alloc (.cells #[.slice A l.length c] 28)) 35 35 0 28 (.slice none 0 0) 1 24 Tryz.underlying35 infoZs rfl (by decide) (hB.ri.alloc _) (slc_new1 (w := w) (e := 28) (cs := [.slice A l.length c]) rfl) (by simp [Value.oneCell']) (by omega) (by unfold maxLen; omega) (Nat.zero_le _)
  have k4 : Only (Value.slice Ai I.length ci).ownBlock.toList w w4 := (((Only.refl [] w).alloc _).of_nil).trans hO4
  have hbi : bb ∉ (Value.slice Ai I.length ci).ownBlock.toList := fun q => (ni bb (by simpa using q)).1 rfl
  have hB4 := k4.blk hB.blk hbi
  have g24 : w4.cell? ⟨bb, 4, none⟩ = some (.slice Ai I.length ci) := hB4.cell 4
  have fr24 : w4.frozen? ⟨bb, 4, none⟩ = false := hB4.free 4
  obtain ⟨W5, hW5⟩ : ∃ W5, W5 = w4.setCell ⟨bb, 4, none⟩ (.slice A4 (I.length + 1) c4) := ⟨_, rfl⟩
  have k5 : Only (bb :: (Value.slice Ai I.length ci).ownBlock.toList) w W5 := by rw [hW5]; exact (k4.mono (fun b q => List.mem_cons_of_mem _ q)).setCell (.inl (by simp)) _
  have hfB : ∀ b, (Value.slice A l.length c).ownBlock = some b → b ∉ bb :: (Value.slice Ai I.length ci).ownBlock.toList := fun b q z => (hf b q).1 (by
    rcases List.mem_cons.1 z with y | y
    · exact mem_hBk.2 (.inl y)
    · exact mem_hBk.2 (.inr (.inr (.inr (.inl (by simpa using y))))))
  have hv5 : W5.ownsRow 0 66 8 (.slice A l.length c) l.length (scs l) := own_only ho k5 hfB
  have hyd : ∀ b, (Value.slice Ay Y.length cy).ownBlock = some b → b ∉ bb :: (Value.slice Ai I.length ci).ownBlock.toList := fun b q z => by
    rcases List.mem_cons.1 z with y | y
    · exact (ny b q).1 y
    · exact hB.ni b (by simpa using y) q
  have hy5 := own_only hB.ry k5 hyd
  have hBk5 : Blk W5 bb 40 #[vt, vx, .slice none 0 0, .slice none 0 0, .slice A4 (I.length + 1) c4, .slice Ay Y.length cy, .slice none 0 0, .slice none 0 0, .slice none 0 0, .slice none 0 0, .slice none 0 0, .slice none 0 0] := by rw [hW5]; exact hB4.set 4 _
  have g35 : W5.cell? ⟨bb, 5, none⟩ = some (.slice Ay Y.length cy) := hBk5.cell 5
  have d3 := Within.cell (S := (Value.slice Ay Y.length cy).ownBlock.toList) g35 (by
    intro q
    exact (ny bb (by simpa using q)).1 rfl)
  -- its copy
  have HCp := Lib.hid (copyS_any (w := W5.drew) ((Slc.of_own hv5).1.only0 (Only.refl _ _).drew) (by omega))
  have HAp := Lib.hid (fun (w6 : World) (A6 : Option Addr) (c6 : Nat) (k6 : Only [] W5.drew w6) => run_app (P := Tryz.prog) (w := w6.alloc (.cells #[.slice A6 l.length c6] 28)) 35 35 0 28 (.slice none 0 0) 1 24 Tryz.underlying35 infoZs rfl (by decide) ((own_only (own_only hy5 (Only.refl [] W5).drew (by simp)) k6 (by simp)).alloc _) (slc_new1 (w := w6) (e := 28) (cs := [.slice A6 l.length c6]) rfl) (by simp [Value.oneCell']) (by omega) (by unfold maxLen; omega) (Nat.zero_le _))
  have HR4 := Lib.hid hr4
  have HW5 := Lib.hid hW5
  have HYl := Lib.hid hYl
  clear hr4 hO4 hW5 hYl
  go_enter Tryz.func19, Tryz.ntmps19
  go_wp2_with (at_builtin; refine Lib.wpList_append_run _ rfl (.tmp 14) (.tmp 16) 35 35 rfl _ _ rfl rfl _ _ HR4.out ?_)
  rw [← HW5.out]
  refine wp_region_in (Value.slice Ay Y.length cy).ownBlock.toList [0, 1, 2, 3, 4, 5] [6, 7, 8] [9, 10, 11] (by kernel_rfl) (by kernel_rfl) (by intro c d u a w h; cases d <;> exact h) ?_
  show wpQuiet _ _ _ _ [_, _, _, _, _, _] _
  repeat (go_big_quiet_step (fail))
  refine wpQuiet_nil ?_
  show wpList _ _ _ [_] _ _
  go_wp2_with fail
  refine HCp.out.mono ?_
  rintro e w6 ⟨A6, c6, rfl, hown6, k6⟩
  obtain ⟨A8, c8, w8, hr8, hown8, hO8, hf8⟩ := HAp.out w6 A6 c6 k6
  have k56 : Only [] W5 w6 := (Only.refl [] W5).drew.trans k6
  have k58 : Only (Value.slice Ay Y.length cy).ownBlock.toList W5 w8 := ((k56.alloc (.cells #[.slice A6 l.length c6] 28)).of_nil).trans hO8
  have HR8 := Lib.hid hr8
  clear hr8 HAp HCp
  go_wp2_with fail
  refine check_of k56.of_nil ?_
  show wpList _ _ _ [_] _ _
  go_wp2_with fail
  refine check_of (k56.alloc _).of_nil ?_
  show wpList _ _ _ [_] _ _
  go_wp2_with (at_builtin; refine Lib.wpList_append_run _ rfl (.tmp 24) (.tmp 27) 35 35 rfl _ _ rfl rfl _ _ HR8.out ?_)
  refine check_of k58 ?_
  show wpList _ _ _ [_, _, _] _ _
  have hby : bb ∉ (Value.slice Ay Y.length cy).ownBlock.toList := fun q => (ny bb (by simpa using q)).1 rfl
  have hBk8 := k58.blk hBk5 hby
  have f38 : w8.cell? ⟨bb, 5, none⟩ = some (.slice Ay Y.length cy) := hBk8.cell 5
  have fr38 : w8.frozen? ⟨bb, 5, none⟩ = false := hBk8.free 5
  clear HR4 HR8 d3 g2 g24 fr24 g35
  go_wp2
  go_end0
  have hYl := HYl.out
  have hz5 := k5.size
  have hz4 := k4.size
  have hz6 := k56.size
  have hz8 := k58.size
  have O9 : Only (bb :: ((Value.slice Ai I.length ci).ownBlock.toList ++ (Value.slice Ay Y.length cy).ownBlock.toList)) w (w8.setCell ⟨bb, 5, none⟩ (.slice A8 (Y.length + 1) c8)) :=
    ((k5.mono (fun b q => by rcases List.mem_cons.1 q with y | y; (simp [y]); (simp at y; simp [y]))).trans (k58.mono (fun b q => by simp at q; simp [q]))).setCell (.inl (by simp)) _
  have hvl := World.ownsRow.lt hB.ri
  have hyl := World.ownsRow.lt hB.ry
  have hxl := World.ownsRow.lt ho
  have b4 : ∀ b, (Value.slice A4 (I.length + 1) c4).ownBlock = some b → (Value.slice Ai I.length ci).ownBlock = some b ∨ w.heap.size + 1 ≤ b := fun b q => (hf4 b q).imp id (fun z => by simpa using z)
  have b8 : ∀ b, (Value.slice A8 (Y.length + 1) c8).ownBlock = some b → (Value.slice Ay Y.length cy).ownBlock = some b ∨ w6.heap.size + 1 ≤ b := fun b q => (hf8 b q).imp id (fun z => by simpa using z)
  have l4 : ∀ b, (Value.slice A4 (I.length + 1) c4).ownBlock = some b → b < w4.heap.size := fun b q => (World.ownsRow.lt hown4 b q).2
  have z45 : w4.heap.size = W5.heap.size := by rw [HW5.out]; simp
  have l6 := World.ownsRow.lt hown6
  have z6 : ∀ b, (Value.slice A6 l.length c6).ownBlock = some b → w.heap.size ≤ b := fun b q => by have h1 := (l6 b q).1; have : W5.drew.heap.size = W5.heap.size := rfl; omega
  have set_ok : ∀ {v : Value} {n sz : Nat} {xs : List Value} {e : TypeId} {w0 : World} {u : Value} {k : Nat}, w0.ownsRow 0 e sz v n xs → v.ownBlock ≠ some bb → (w0.setCell ⟨bb, k, none⟩ u).ownsRow 0 e sz v n xs := fun h1 h2 => own_only h1 ((Only.refl [bb] _).setCell (.inl (by simp)) _) (fun b q => by
    simp
    intro e
    rw [e] at q
    exact h2 q)
  have hnb4 : (Value.slice A4 (I.length + 1) c4).ownBlock ≠ some bb := fun q => by
    rcases b4 bb q with z | z
    · exact (ni bb z).1 rfl
    · omega
  have hnb8 : (Value.slice A8 (Y.length + 1) c8).ownBlock ≠ some bb := fun q => by
    rcases b8 bb q with z | z
    · exact (ny bb z).1 rfl
    · omega
  have hri : (w8.setCell ⟨bb, 5, none⟩ (.slice A8 (Y.length + 1) c8)).ownsRow 0 28 1 (.slice A4 (I.length + 1) c4) (I.length + 1) (I.map (·.1) ++ [.slice A l.length c]) := by
    refine set_ok (own_only (S := (Value.slice Ay Y.length cy).ownBlock.toList) (w := W5) ?_ k58 (fun b q z => ?_)) hnb4
    · rw [HW5.out]
      exact set_ok hown4 hnb4
    · have hz := hyl b (by simpa using z)
      rcases b4 b q with y | y
      · exact hB.ni b y (by simpa using z)
      · omega
  have hry : (w8.setCell ⟨bb, 5, none⟩ (.slice A8 (Y.length + 1) c8)).ownsRow 0 28 1 (.slice A8 (Y.length + 1) c8) (Y.length + 1) (Y.map (·.1) ++ [.slice A6 l.length c6]) := set_ok hown8 hnb8
  have hS9 : ∀ b, b ∈ bb :: ((Value.slice Ai I.length ci).ownBlock.toList ++ (Value.slice Ay Y.length cy).ownBlock.toList) → b = bb ∨ (Value.slice Ai I.length ci).ownBlock = some b ∨ (Value.slice Ay Y.length cy).ownBlock = some b := fun b q => by simpa using q
  have hkiN : ∀ b ∈ blocksV (Y ++ I), b ∉ bb :: ((Value.slice Ai I.length ci).ownBlock.toList ++ (Value.slice Ay Y.length cy).ownBlock.toList) := fun b q z => by
    rcases hS9 b z with y | y | y
    · exact nbi (by rw [← y]; exact q)
    · exact (ni b y).2.2.2.2 q
    · exact (ny b y).2.2.2.2 q
  have hktN : ∀ b ∈ blocksV (X ++ T), b ∉ bb :: ((Value.slice Ai I.length ci).ownBlock.toList ++ (Value.slice Ay Y.length cy).ownBlock.toList) := fun b q z => by
    rcases hS9 b z with y | y | y
    · exact hB.ne.2.2.2.2.1 (by rw [← y]; exact q)
    · exact (ni b y).2.2.2.1 q
    · exact (ny b y).2.2.2.1 q
  have hy6 : (w8.setCell ⟨bb, 5, none⟩ (.slice A8 (Y.length + 1) c8)).ownsRow 0 66 8 (.slice A6 l.length c6) l.length (scs l) := by
    refine set_ok (own_only (S := (Value.slice Ay Y.length cy).ownBlock.toList) (own_base (World.ownsRow.alloc hown6 _) (Nat.zero_le _)) hO8 (fun b q z => ?_)) (fun q => ?_)
    · have := (hyl b (by simpa using z)).2
      have := z6 b q
      omega
    · have := z6 bb q
      omega
  have hv9 : (w8.setCell ⟨bb, 5, none⟩ (.slice A8 (Y.length + 1) c8)).ownsRow 0 66 8 (.slice A l.length c) l.length (scs l) := own_only ho O9 (fun b q z => (hf b q).1 (by
    rcases hS9 b z with y | y | y
    · exact mem_hBk.2 (.inl y)
    · exact mem_hBk.2 (.inr (.inr (.inr (.inl y))))
    · exact mem_hBk.2 (.inr (.inr (.inr (.inr (.inl y)))))))
  have hki : KpS (w8.setCell ⟨bb, 5, none⟩ (.slice A8 (Y.length + 1) c8)) ((Y ++ [(.slice A6 l.length c6, l)]) ++ (I ++ [(.slice A l.length c, l)])) := by
    have hil : l.length = l.length := rfl
    refine KpS.perm ?_ (app_perm (Value.slice A l.length c, l) (Value.slice A6 l.length c6, l) Y I)
    have e1 := (hB.ki.only O9 hkiN).cons (A := A6) (c := c6) (cs := l) (by rw [hil]; exact hy6) (fun b q z => by
      rw [hil] at q
      have := hB.ki.lt b z
      have := z6 b q
      omega)
    have e2 := e1.cons (A := A) (c := c) (cs := l) (by rw [hil]; exact hv9) (fun b q z => by
      rw [hil] at q
      obtain ⟨p, hp, hpb⟩ := mem_blocksV.1 z
      rcases List.mem_cons.1 hp with rfl | hp
      · rw [hil] at hpb
        have := z6 b hpb
        have := (hxl b q).2
        omega
      · exact (hf b q).1 (mem_hBk.2 (.inr (.inr (.inr (.inr (.inr (.inr (mem_blocksV.2 ⟨p, hp, hpb⟩)))))))))
    rw [hil] at e2
    exact e2
  have hlen1 : (I ++ [(Value.slice A l.length c, l)]).length = I.length + 1 := by simp
  have hlen2 : (Y ++ [(Value.slice A6 l.length c6, l)]).length = Y.length + 1 := by simp
  have hmem : ∀ b ∈ hBk bb vt vx (.slice A4 (I.length + 1) c4) (.slice A8 (Y.length + 1) c8) T X (I ++ [(.slice A l.length c, l)]) (Y ++ [(.slice A6 l.length c6, l)]),
      b ∈ hBk bb vt vx (.slice Ai I.length ci) (.slice Ay Y.length cy) T X I Y ∨ (Value.slice A l.length c).ownBlock = some b ∨ w.heap.size ≤ b := fun b hb => by
    rcases mem_hBk.1 hb with y | y | y | y | y | y | y
    · exact .inl (mem_hBk.2 (.inl y))
    · exact .inl (mem_hBk.2 (.inr (.inl y)))
    · exact .inl (mem_hBk.2 (.inr (.inr (.inl y))))
    · rcases b4 b y with z | z
      · exact .inl (mem_hBk.2 (.inr (.inr (.inr (.inl z)))))
      · exact .inr (.inr (by omega))
    · rcases b8 b y with z | z
      · exact .inl (mem_hBk.2 (.inr (.inr (.inr (.inr (.inl z))))))
      · exact .inr (.inr (by omega))
    · exact .inl (mem_hBk.2 (.inr (.inr (.inr (.inr (.inr (.inl y)))))))
    · obtain ⟨p, hp, hpb⟩ := mem_blocksV.1 y
      have hin : ∀ q ∈ Y ++ I, q.1.ownBlock = some b → b ∈ hBk bb vt vx (.slice Ai I.length ci) (.slice Ay Y.length cy) T X I Y := fun q hq z => mem_hBk.2 (.inr (.inr (.inr (.inr (.inr (.inr (mem_blocksV.2 ⟨q, hq, z⟩)))))))
      rcases List.mem_append.1 hp with hp | hp
      · rcases List.mem_append.1 hp with hp | hp
        · exact .inl (hin p (List.mem_append_left _ hp) hpb)
        · have e : p = (.slice A6 l.length c6, l) := by simpa using hp
          rw [e] at hpb
          exact .inr (.inr (z6 b hpb))
      · rcases List.mem_append.1 hp with hp | hp
        · exact .inl (hin p (List.mem_append_right _ hp) hpb)
        · have e : p = (.slice A l.length c, l) := by simpa using hp
          rw [e] at hpb
          exact .inr (.inl hpb)
  have hblk9 : Blk (w8.setCell ⟨bb, 5, none⟩ (.slice A8 (Y.length + 1) c8)) bb 40 #[vt, vx, .slice none 0 0, .slice none 0 0, .slice A4 (I.length + 1) c4, .slice A8 (Y.length + 1) c8, .slice none 0 0, .slice none 0 0, .slice none 0 0, .slice none 0 0, .slice none 0 0, .slice none 0 0] := hBk8.set 5 _
  obtain ⟨W9, hW9⟩ : ∃ W9, W9 = w8.setCell ⟨bb, 5, none⟩ (.slice A8 (Y.length + 1) c8) := ⟨_, rfl⟩
  rw [← hW9] at hblk9 O9 hri hry hy6 hv9 hki ⊢
  obtain ⟨S9, hS9e⟩ : ∃ S9, S9 = bb :: ((Value.slice Ai I.length ci).ownBlock.toList ++ (Value.slice Ay Y.length cy).ownBlock.toList) := ⟨_, rfl⟩
  rw [← hS9e] at O9 hS9 hkiN hktN
  have hrt9 : W9.ownsRow 0 41 1 vt T.length (T.map (·.1)) := own_only hB.rt O9 (fun b q z => by
    rcases hS9 b z with y | y | y
    · exact (nt b q).1 y
    · exact (nt b q).2.1 y
    · exact (nt b q).2.2.1 y)
  have hrx9 : W9.ownsRow 0 41 1 vx X.length (X.map (·.1)) := own_only hB.rx O9 (fun b q z => by
    rcases hS9 b z with y | y | y
    · exact (nx b q).1 y
    · exact (nx b q).2.1 y
    · exact (nx b q).2.2.1 y)
  have hni9 : ∀ b, (Value.slice A4 (I.length + 1) c4).ownBlock = some b → (Value.slice A8 (Y.length + 1) c8).ownBlock ≠ some b := fun b q z => by
    have h4 := l4 b q
    rcases b8 b z with y8 | y8
    · rcases b4 b q with y4 | y4
      · exact hB.ni b y4 y8
      · have := (hyl b y8).2
        omega
    · omega
  have hkt9 := hB.kt.only O9 hktN
  have hsH : ∀ b ∈ S9, b ∈ hBk bb vt vx (.slice Ai I.length ci) (.slice Ay Y.length cy) T X I Y := fun b z => by
    rcases hS9 b z with y | y | y
    · exact mem_hBk.2 (.inl y)
    · exact mem_hBk.2 (.inr (.inr (.inr (.inl y))))
    · exact mem_hBk.2 (.inr (.inr (.inr (.inr (.inl y)))))
  obtain ⟨I9, hI9⟩ : ∃ I9, I9 = I ++ [(Value.slice A l.length c, l)] := ⟨_, rfl⟩
  obtain ⟨Y9, hY9⟩ : ∃ Y9, Y9 = Y ++ [(Value.slice A6 l.length c6, l)] := ⟨_, rfl⟩
  have hri9 : W9.ownsRow 0 28 1 (.slice A4 (I.length + 1) c4) I9.length (I9.map (·.1)) := by
    rw [hI9, hlen1, List.map_append]
    exact hri
  have hry9 : W9.ownsRow 0 28 1 (.slice A8 (Y.length + 1) c8) Y9.length (Y9.map (·.1)) := by
    rw [hY9, hlen2, List.map_append]
    exact hry
  have hsi9 : I9.map (·.2) = Y9.map (·.2) := by
    rw [hI9, hY9, List.map_append, List.map_append, hB.si]
    rfl
  have hci9 : ∀ p ∈ I9, p.2.length ≤ 900000 := fun p hp => by
    rw [hI9] at hp
    rcases List.mem_append.1 hp with q | q
    · exact hB.ci p q
    · have : p = (.slice A l.length c, l) := by simpa using q
      rw [this]
      exact hl
  have hfw9 : I9.length ≤ 250 := by rw [hI9, hlen1]; omega
  rw [← hI9, ← hY9] at hki hmem
  have hfin : BkAt W9 bb vt vx (.slice A4 (I.length + 1) c4) (.slice A8 (Y.length + 1) c8) T X I9 Y9 := ⟨hblk9, hrt9, hrx9, hri9, hry9, hB.nt, hni9, hkt9, hki, hB.st, hsi9, hB.ct, hci9, ⟨hB.few.1, hfw9⟩⟩
  have ho9 : Only [] a W9 := hoa.step O9 (fun b z => .inr (hab b (hsH b z)))
  have hab9 : ∀ b ∈ hBk bb vt vx (.slice A4 (I.length + 1) c4) (.slice A8 (Y.length + 1) c8) T X I9 Y9, a.heap.size ≤ b := fun b hb => by
    rcases hmem b hb with y | y | y
    · exact hab b y
    · exact (hf b y).2
    · exact Nat.le_trans hoa.size y
  have hty : ∀ b ∈ S9, ∀ cur, ¬ Blk w b 66 cur ∧ ¬ Blk w b 9 cur := fun b z cur => by
    rcases hS9 b z with y | y | y
    · rw [y]
      exact ⟨fun q => q.other hB.blk (by decide) rfl, fun q => q.other hB.blk (by decide) rfl⟩
    · obtain ⟨c1, q1⟩ := own_type hB.ri y
      exact ⟨fun q => q.other q1 (by decide) rfl, fun q => q.other q1 (by decide) rfl⟩
    · obtain ⟨c1, q1⟩ := own_type hB.ry y
      exact ⟨fun q => q.other q1 (by decide) rfl, fun q => q.other q1 (by decide) rfl⟩
  exact ⟨rfl, hBk bb vt vx (.slice A4 (I.length + 1) c4) (.slice A8 (Y.length + 1) c8) T X I9 Y9, ⟨⟨vt, vx, .slice A4 (I.length + 1) c4, .slice A8 (Y.length + 1) c8, T, X, I9, Y9, hfin, rfl⟩, ho9, hab9⟩, ⟨S9, O9, hsH, hty⟩, hmem⟩
end Go.Proofs.YtikboecmcbcghaaGreat
/- One more list in the book: Texts. -/
set_option linter.unusedVariables false
set_option linter.unusedSimpArgs false
namespace Go.Proofs.YtikboecmcbcghaaGreat
open Go.RowKit Go Go.Sort Go.Lib
set_option maxRecDepth 100000 in
set_option maxHeartbeats 500000 in
theorem copyT_any {w : World} {l : List ByteArray} {lv : Value} (hl : Slc w 1 lv l.length (strs l)) (hb : l.length ≤ 1000000) :
    Calls Tryz.prog 125 #[lv] w fun e w' => ∃ A c, e = .returned (.slice A l.length c) ∧ w'.ownsRow w.heap.size 9 1 (.slice A l.length c) l.length (strs l) ∧ Only [] w w' := by
  obtain ⟨Av, cv, e, _⟩ := id hl
  subst e
  obtain ⟨A4, c4, w4, hr4, hown4, hO4, _⟩ := run_app (P := Tryz.prog) (w := w) 41 41 w.heap.size 9 (.string ⟨#[]⟩) 1 16 Tryz.underlying41 infoS rfl (by decide) (World.ownsRow_nil w w.heap.size 9 1) hl (strs_one l) (by omega) (by unfold maxLen; omega) (Nat.le_refl _)
  simp only [Nat.zero_add, List.nil_append] at hr4 hown4
  have k4 : Only [] w w4 := by simpa [Value.ownBlock] using hO4
  have HR4 := Lib.hid hr4
  have HO := Lib.hid hown4
  clear hr4 hown4 hO4 hl
  go_enter Tryz.func125, Tryz.ntmps125
  go_wp2_with (at_builtin; refine Lib.wpList_append_run _ rfl (.const (.slice none 0 0)) (.tmp 3) 41 41 rfl _ _ rfl rfl _ _ HR4.out ?_)
  go_ret
  exact ⟨_, _, rfl, HO.out, k4⟩
set_option maxRecDepth 100000 in
set_option maxHeartbeats 400000 in
theorem btexts_any {a w : World} {H : List Nat} {bb : Nat} (h : HasB a w H bb) {A : Option Addr} {c : Nat} {l : List ByteArray} (ho : w.ownsRow 0 9 1 (.slice A l.length c) l.length (strs l))
    (hf : ∀ b, (Value.slice A l.length c).ownBlock = some b → b ∉ H ∧ a.heap.size ≤ b) (hl : l.length ≤ 1000000) :
    Calls Tryz.prog 53 #[.pointer (some ⟨bb, 0, none⟩), .slice A l.length c] w fun e w' => e = .returned (.tuple #[]) ∧ KpTo a w H bb (.slice A l.length c) w' := by
  have hh := h
  obtain ⟨⟨vt, vx, vi, vy, T, X, I, Y, hB, rfl⟩, hoa, hab⟩ := h
  obtain ⟨At, ct0, rfl, hni, hmi⟩ := own_form hB.rt
  obtain ⟨Ax, cx, rfl, hny, hmy⟩ := own_form hB.rx
  unfold maxLen at hmi hmy
  have g2 : w.cell? ⟨bb, 0, none⟩ = some (.slice At T.length ct0) := hB.blk.cell 0
  have hbl := hB.blk.lt
  by_cases hlt : 250 ≤ T.length
  · have HK := Lib.hid (show KpTo a w _ bb (.slice A l.length c) w from ⟨_, hh, ⟨[], Only.refl _ _, by simp, by simp⟩, fun b hb => .inl hb⟩)
    clear hh hB hab hf
    go_enter Tryz.func53, Tryz.ntmps53
    go_wp2
    go_end0
    exact ⟨rfl, HK.out⟩
  have hYl : X.length = T.length := by
    have := congrArg List.length hB.st
    simpa using this.symm
  obtain ⟨ni, ny, nt, nx, nbt, _⟩ := hB.ne
  -- the first list
  obtain ⟨A4, c4, w4, hr4, hown4, hO4, hf4⟩ := run_app (P := Tryz.prog) (w := w.alloc (.cells #[.slice A l.length c] 41)) 33 33 0 41 (.slice none 0 0) 1 24 Tryz.underlying33 infoSs rfl (by decide) (hB.rt.alloc _) (slc_new1 (w := w) (e := 41) (cs := [.slice A l.length c]) rfl) (by simp [Value.oneCell']) (by omega) (by unfold maxLen; omega) (Nat.zero_le _)
  have k4 : Only (Value.slice At T.length ct0).ownBlock.toList w w4 := (((Only.refl [] w).alloc _).of_nil).trans hO4
  have hbi : bb ∉ (Value.slice At T.length ct0).ownBlock.toList := fun q => (nt bb (by simpa using q)).1 rfl
  have hB4 := k4.blk hB.blk hbi
  have g24 : w4.cell? ⟨bb, 0, none⟩ = some (.slice At T.length ct0) := hB4.cell 0
  have fr24 : w4.frozen? ⟨bb, 0, none⟩ = false := hB4.free 0
  obtain ⟨W5, hW5⟩ : ∃ W5, W5 = w4.setCell ⟨bb, 0, none⟩ (.slice A4 (T.length + 1) c4) := ⟨_, rfl⟩
  have k5 : Only (bb :: (Value.slice At T.length ct0).ownBlock.toList) w W5 := by rw [hW5]; exact (k4.mono (fun b q => List.mem_cons_of_mem _ q)).setCell (.inl (by simp)) _
  have hfB : ∀ b, (Value.slice A l.length c).ownBlock = some b → b ∉ bb :: (Value.slice At T.length ct0).ownBlock.toList := fun b q z => (hf b q).1 (by
    rcases List.mem_cons.1 z with y | y
    · exact mem_hBk.2 (.inl y)
    · exact mem_hBk.2 (.inr (.inl (by simpa using y))))
  have hv5 : W5.ownsRow 0 9 1 (.slice A l.length c) l.length (strs l) := own_only ho k5 hfB
  have hyd : ∀ b, (Value.slice Ax X.length cx).ownBlock = some b → b ∉ bb :: (Value.slice At T.length ct0).ownBlock.toList := fun b q z => by
    rcases List.mem_cons.1 z with y | y
    · exact (nx b q).1 y
    · exact hB.nt b (by simpa using y) q
  have hy5 := own_only hB.rx k5 hyd
  have hBk5 : Blk W5 bb 40 #[.slice A4 (T.length + 1) c4, .slice Ax X.length cx, .slice none 0 0, .slice none 0 0, vi, vy, .slice none 0 0, .slice none 0 0, .slice none 0 0, .slice none 0 0, .slice none 0 0, .slice none 0 0] := by rw [hW5]; exact hB4.set 0 _
  have g35 : W5.cell? ⟨bb, 1, none⟩ = some (.slice Ax X.length cx) := hBk5.cell 1
  have d3 := Within.cell (S := (Value.slice Ax X.length cx).ownBlock.toList) g35 (by
    intro q
    exact (nx bb (by simpa using q)).1 rfl)
  -- its copy
  have HCp := Lib.hid (copyT_any (w := W5.drew) ((Slc.of_own hv5).1.only0 (Only.refl _ _).drew) hl)
  have HAp := Lib.hid (fun (w6 : World) (A6 : Option Addr) (c6 : Nat) (k6 : Only [] W5.drew w6) => run_app (P := Tryz.prog) (w := w6.alloc (.cells #[.slice A6 l.length c6] 41)) 33 33 0 41 (.slice none 0 0) 1 24 Tryz.underlying33 infoSs rfl (by decide) ((own_only (own_only hy5 (Only.refl [] W5).drew (by simp)) k6 (by simp)).alloc _) (slc_new1 (w := w6) (e := 41) (cs := [.slice A6 l.length c6]) rfl) (by simp [Value.oneCell']) (by omega) (by unfold maxLen; omega) (Nat.zero_le _))
  have HR4 := Lib.hid hr4
  have HW5 := Lib.hid hW5
  have HYl := Lib.hid hYl
  clear hr4 hO4 hW5 hYl
  go_enter Tryz.func53, Tryz.ntmps53
  go_wp2_with (at_builtin; refine Lib.wpList_append_run _ rfl (.tmp 14) (.tmp 16) 33 33 rfl _ _ rfl rfl _ _ HR4.out ?_)
  rw [← HW5.out]
  refine wp_region_in (Value.slice Ax X.length cx).ownBlock.toList [0, 1, 2, 3, 4, 5] [6, 7, 8] [9, 10, 11] (by kernel_rfl) (by kernel_rfl) (by intro c d u a w h; cases d <;> exact h) ?_
  show wpQuiet _ _ _ _ [_, _, _, _, _, _] _
  repeat (go_big_quiet_step (fail))
  refine wpQuiet_nil ?_
  show wpList _ _ _ [_] _ _
  go_wp2_with fail
  refine HCp.out.mono ?_
  rintro e w6 ⟨A6, c6, rfl, hown6, k6⟩
  obtain ⟨A8, c8, w8, hr8, hown8, hO8, hf8⟩ := HAp.out w6 A6 c6 k6
  have k56 : Only [] W5 w6 := (Only.refl [] W5).drew.trans k6
  have k58 : Only (Value.slice Ax X.length cx).ownBlock.toList W5 w8 := ((k56.alloc (.cells #[.slice A6 l.length c6] 41)).of_nil).trans hO8
  have HR8 := Lib.hid hr8
  clear hr8 HAp HCp
  go_wp2_with fail
  refine check_of k56.of_nil ?_
  show wpList _ _ _ [_] _ _
  go_wp2_with fail
  refine check_of (k56.alloc _).of_nil ?_
  show wpList _ _ _ [_] _ _
  go_wp2_with (at_builtin; refine Lib.wpList_append_run _ rfl (.tmp 24) (.tmp 27) 33 33 rfl _ _ rfl rfl _ _ HR8.out ?_)
  refine check_of k58 ?_
  show wpList _ _ _ [_, _, _] _ _
  have hby : bb ∉ (Value.slice Ax X.length cx).ownBlock.toList := fun q => (nx bb (by simpa using q)).1 rfl
  have hBk8 := k58.blk hBk5 hby
  have f38 : w8.cell? ⟨bb, 1, none⟩ = some (.slice Ax X.length cx) := hBk8.cell 1
  have fr38 : w8.frozen? ⟨bb, 1, none⟩ = false := hBk8.free 1
  clear HR4 HR8 d3 g2 g24 fr24 g35
  go_wp2
  go_end0
  have hYl := HYl.out
  have hz5 := k5.size
  have hz4 := k4.size
  have hz6 := k56.size
  have hz8 := k58.size
  have O9 : Only (bb :: ((Value.slice At T.length ct0).ownBlock.toList ++ (Value.slice Ax X.length cx).ownBlock.toList)) w (w8.setCell ⟨bb, 1, none⟩ (.slice A8 (X.length + 1) c8)) :=
    ((k5.mono (fun b q => by rcases List.mem_cons.1 q with y | y; (simp [y]); (simp at y; simp [y]))).trans (k58.mono (fun b q => by simp at q; simp [q]))).setCell (.inl (by simp)) _
  have hvl := World.ownsRow.lt hB.rt
  have hyl := World.ownsRow.lt hB.rx
  have hxl := World.ownsRow.lt ho
  have b4 : ∀ b, (Value.slice A4 (T.length + 1) c4).ownBlock = some b → (Value.slice At T.length ct0).ownBlock = some b ∨ w.heap.size + 1 ≤ b := fun b q => (hf4 b q).imp id (fun z => by simpa using z)
  have b8 : ∀ b, (Value.slice A8 (X.length + 1) c8).ownBlock = some b → (Value.slice Ax X.length cx).ownBlock = some b ∨ w6.heap.size + 1 ≤ b := fun b q => (hf8 b q).imp id (fun z => by simpa using z)
  have l4 : ∀ b, (Value.slice A4 (T.length + 1) c4).ownBlock = some b → b < w4.heap.size := fun b q => (World.ownsRow.lt hown4 b q).2
  have z45 : w4.heap.size = W5.heap.size := by rw [HW5.out]; simp
  have l6 := World.ownsRow.lt hown6
  have z6 : ∀ b, (Value.slice A6 l.length c6).ownBlock = some b → w.heap.size ≤ b := fun b q => by have h1 := (l6 b q).1; have : W5.drew.heap.size = W5.heap.size := rfl; omega
  have set_ok : ∀ {v : Value} {n : Nat} {xs : List Value} {e : TypeId} {w0 : World} {u : Value} {k : Nat}, w0.ownsRow 0 e 1 v n xs → v.ownBlock ≠ some bb → (w0.setCell ⟨bb, k, none⟩ u).ownsRow 0 e 1 v n xs := fun h1 h2 => own_only h1 ((Only.refl [bb] _).setCell (.inl (by simp)) _) (fun b q => by
    simp
    intro e
    rw [e] at q
    exact h2 q)
  have hnb4 : (Value.slice A4 (T.length + 1) c4).ownBlock ≠ some bb := fun q => by
    rcases b4 bb q with z | z
    · exact (nt bb z).1 rfl
    · omega
  have hnb8 : (Value.slice A8 (X.length + 1) c8).ownBlock ≠ some bb := fun q => by
    rcases b8 bb q with z | z
    · exact (nx bb z).1 rfl
    · omega
  have hri : (w8.setCell ⟨bb, 1, none⟩ (.slice A8 (X.length + 1) c8)).ownsRow 0 41 1 (.slice A4 (T.length + 1) c4) (T.length + 1) (T.map (·.1) ++ [.slice A l.length c]) := by
    refine set_ok (own_only (S := (Value.slice Ax X.length cx).ownBlock.toList) (w := W5) ?_ k58 (fun b q z => ?_)) hnb4
    · rw [HW5.out]
      exact set_ok hown4 hnb4
    · have hz := hyl b (by simpa using z)
      rcases b4 b q with y | y
      · exact hB.nt b y (by simpa using z)
      · omega
  have hry : (w8.setCell ⟨bb, 1, none⟩ (.slice A8 (X.length + 1) c8)).ownsRow 0 41 1 (.slice A8 (X.length + 1) c8) (X.length + 1) (X.map (·.1) ++ [.slice A6 l.length c6]) := set_ok hown8 hnb8
  have hS9 : ∀ b, b ∈ bb :: ((Value.slice At T.length ct0).ownBlock.toList ++ (Value.slice Ax X.length cx).ownBlock.toList) → b = bb ∨ (Value.slice At T.length ct0).ownBlock = some b ∨ (Value.slice Ax X.length cx).ownBlock = some b := fun b q => by simpa using q
  have hkiN : ∀ b ∈ blocksV (X ++ T), b ∉ bb :: ((Value.slice At T.length ct0).ownBlock.toList ++ (Value.slice Ax X.length cx).ownBlock.toList) := fun b q z => by
    rcases hS9 b z with y | y | y
    · exact nbt (by rw [← y]; exact q)
    · exact (nt b y).2.2.2.1 q
    · exact (nx b y).2.2.2.1 q
  have hktN : ∀ b ∈ blocksV (Y ++ I), b ∉ bb :: ((Value.slice At T.length ct0).ownBlock.toList ++ (Value.slice Ax X.length cx).ownBlock.toList) := fun b q z => by
    rcases hS9 b z with y | y | y
    · exact hB.ne.2.2.2.2.2 (by rw [← y]; exact q)
    · exact (nt b y).2.2.2.2 q
    · exact (nx b y).2.2.2.2 q
  have hy6 : (w8.setCell ⟨bb, 1, none⟩ (.slice A8 (X.length + 1) c8)).ownsRow 0 9 1 (.slice A6 l.length c6) l.length (strs l) := by
    refine set_ok (own_only (S := (Value.slice Ax X.length cx).ownBlock.toList) (own_base (World.ownsRow.alloc hown6 _) (Nat.zero_le _)) hO8 (fun b q z => ?_)) (fun q => ?_)
    · have := (hyl b (by simpa using z)).2
      have := z6 b q
      omega
    · have := z6 bb q
      omega
  have hv9 : (w8.setCell ⟨bb, 1, none⟩ (.slice A8 (X.length + 1) c8)).ownsRow 0 9 1 (.slice A l.length c) l.length (strs l) := own_only ho O9 (fun b q z => (hf b q).1 (by
    rcases hS9 b z with y | y | y
    · exact mem_hBk.2 (.inl y)
    · exact mem_hBk.2 (.inr (.inl y))
    · exact mem_hBk.2 (.inr (.inr (.inl y)))))
  have hki : Kpt (w8.setCell ⟨bb, 1, none⟩ (.slice A8 (X.length + 1) c8)) 9 ((X ++ [(.slice A6 l.length c6, strs l)]) ++ (T ++ [(.slice A l.length c, strs l)])) := by
    have hil : (strs l).length = l.length := by simp [strs]
    refine Kpt.perm ?_ (app_perm (Value.slice A l.length c, strs l) (Value.slice A6 l.length c6, strs l) X T)
    have e1 := (hB.kt.only O9 hkiN).cons (A := A6) (c := c6) (cs := strs l) (by rw [hil]; exact hy6) (fun b q z => by
      rw [hil] at q
      have := hB.kt.lt b z
      have := z6 b q
      omega)
    have e2 := e1.cons (A := A) (c := c) (cs := strs l) (by rw [hil]; exact hv9) (fun b q z => by
      rw [hil] at q
      obtain ⟨p, hp, hpb⟩ := mem_blocksV.1 z
      rcases List.mem_cons.1 hp with rfl | hp
      · rw [hil] at hpb
        have := z6 b hpb
        have := (hxl b q).2
        omega
      · exact (hf b q).1 (mem_hBk.2 (.inr (.inr (.inr (.inr (.inr (.inl (mem_blocksV.2 ⟨p, hp, hpb⟩)))))))))
    rw [hil] at e2
    exact e2
  have hlen1 : (T ++ [(Value.slice A l.length c, strs l)]).length = T.length + 1 := by simp
  have hlen2 : (X ++ [(Value.slice A6 l.length c6, strs l)]).length = X.length + 1 := by simp
  have hmem : ∀ b ∈ hBk bb (.slice A4 (T.length + 1) c4) (.slice A8 (X.length + 1) c8) vi vy (T ++ [(.slice A l.length c, strs l)]) (X ++ [(.slice A6 l.length c6, strs l)]) I Y,
      b ∈ hBk bb (.slice At T.length ct0) (.slice Ax X.length cx) vi vy T X I Y ∨ (Value.slice A l.length c).ownBlock = some b ∨ w.heap.size ≤ b := fun b hb => by
    rcases mem_hBk.1 hb with y | y | y | y | y | y | y
    · exact .inl (mem_hBk.2 (.inl y))
    · rcases b4 b y with z | z
      · exact .inl (mem_hBk.2 (.inr (.inl z)))
      · exact .inr (.inr (by omega))
    · rcases b8 b y with z | z
      · exact .inl (mem_hBk.2 (.inr (.inr (.inl z))))
      · exact .inr (.inr (by omega))
    · exact .inl (mem_hBk.2 (.inr (.inr (.inr (.inl y)))))
    · exact .inl (mem_hBk.2 (.inr (.inr (.inr (.inr (.inl y))))))
    · obtain ⟨p, hp, hpb⟩ := mem_blocksV.1 y
      have hin : ∀ q ∈ X ++ T, q.1.ownBlock = some b → b ∈ hBk bb (.slice At T.length ct0) (.slice Ax X.length cx) vi vy T X I Y := fun q hq z => mem_hBk.2 (.inr (.inr (.inr (.inr (.inr (.inl (mem_blocksV.2 ⟨q, hq, z⟩)))))))
      rcases List.mem_append.1 hp with hp | hp
      · rcases List.mem_append.1 hp with hp | hp
        · exact .inl (hin p (List.mem_append_left _ hp) hpb)
        · have e : p = (.slice A6 l.length c6, strs l) := by simpa using hp
          rw [e] at hpb
          exact .inr (.inr (z6 b hpb))
      · rcases List.mem_append.1 hp with hp | hp
        · exact .inl (hin p (List.mem_append_right _ hp) hpb)
        · have e : p = (.slice A l.length c, strs l) := by simpa using hp
          rw [e] at hpb
          exact .inr (.inl hpb)
    · exact .inl (mem_hBk.2 (.inr (.inr (.inr (.inr (.inr (.inr y)))))))
  have hblk9 : Blk (w8.setCell ⟨bb, 1, none⟩ (.slice A8 (X.length + 1) c8)) bb 40 #[.slice A4 (T.length + 1) c4, .slice A8 (X.length + 1) c8, .slice none 0 0, .slice none 0 0, vi, vy, .slice none 0 0, .slice none 0 0, .slice none 0 0, .slice none 0 0, .slice none 0 0, .slice none 0 0] := hBk8.set 1 _
  obtain ⟨W9, hW9⟩ : ∃ W9, W9 = w8.setCell ⟨bb, 1, none⟩ (.slice A8 (X.length + 1) c8) := ⟨_, rfl⟩
  rw [← hW9] at hblk9 O9 hri hry hy6 hv9 hki ⊢
  obtain ⟨S9, hS9e⟩ : ∃ S9, S9 = bb :: ((Value.slice At T.length ct0).ownBlock.toList ++ (Value.slice Ax X.length cx).ownBlock.toList) := ⟨_, rfl⟩
  rw [← hS9e] at O9 hS9 hkiN hktN
  have hrt9 : W9.ownsRow 0 28 1 vi I.length (I.map (·.1)) := own_only hB.ri O9 (fun b q z => by
    rcases hS9 b z with y | y | y
    · exact (ni b q).1 y
    · exact (ni b q).2.1 y
    · exact (ni b q).2.2.1 y)
  have hrx9 : W9.ownsRow 0 28 1 vy Y.length (Y.map (·.1)) := own_only hB.ry O9 (fun b q z => by
    rcases hS9 b z with y | y | y
    · exact (ny b q).1 y
    · exact (ny b q).2.1 y
    · exact (ny b q).2.2.1 y)
  have hni9 : ∀ b, (Value.slice A4 (T.length + 1) c4).ownBlock = some b → (Value.slice A8 (X.length + 1) c8).ownBlock ≠ some b := fun b q z => by
    have h4 := l4 b q
    rcases b8 b z with y8 | y8
    · rcases b4 b q with y4 | y4
      · exact hB.nt b y4 y8
      · have := (hyl b y8).2
        omega
    · omega
  have hkt9 := hB.ki.only O9 hktN
  have hsH : ∀ b ∈ S9, b ∈ hBk bb (.slice At T.length ct0) (.slice Ax X.length cx) vi vy T X I Y := fun b z => by
    rcases hS9 b z with y | y | y
    · exact mem_hBk.2 (.inl y)
    · exact mem_hBk.2 (.inr (.inl y))
    · exact mem_hBk.2 (.inr (.inr (.inl y)))
  obtain ⟨T9, hT9⟩ : ∃ T9, T9 = T ++ [(Value.slice A l.length c, strs l)] := ⟨_, rfl⟩
  obtain ⟨X9, hX9⟩ : ∃ X9, X9 = X ++ [(Value.slice A6 l.length c6, strs l)] := ⟨_, rfl⟩
  have hri9 : W9.ownsRow 0 41 1 (.slice A4 (T.length + 1) c4) T9.length (T9.map (·.1)) := by
    rw [hT9, hlen1, List.map_append]
    exact hri
  have hry9 : W9.ownsRow 0 41 1 (.slice A8 (X.length + 1) c8) X9.length (X9.map (·.1)) := by
    rw [hX9, hlen2, List.map_append]
    exact hry
  have hsi9 : T9.map (·.2) = X9.map (·.2) := by
    rw [hT9, hX9, List.map_append, List.map_append, hB.st]
    rfl
  have hci9 : ∀ p ∈ T9, ∃ l : List ByteArray, p.2 = strs l ∧ l.length ≤ 1000000 := fun p hp => by
    rw [hT9] at hp
    rcases List.mem_append.1 hp with q | q
    · exact hB.ct p q
    · have : p = (.slice A l.length c, strs l) := by simpa using q
      rw [this]
      exact ⟨l, rfl, hl⟩
  have hfw9 : T9.length ≤ 250 := by rw [hT9, hlen1]; omega
  rw [← hT9, ← hX9] at hki hmem
  have hfin : BkAt W9 bb (.slice A4 (T.length + 1) c4) (.slice A8 (X.length + 1) c8) vi vy T9 X9 I Y := ⟨hblk9, hri9, hry9, hrt9, hrx9, hni9, hB.ni, hki, hkt9, hsi9, hB.si, hci9, hB.ci, ⟨hfw9, hB.few.2⟩⟩
  have ho9 : Only [] a W9 := hoa.step O9 (fun b z => .inr (hab b (hsH b z)))
  have hab9 : ∀ b ∈ hBk bb (.slice A4 (T.length + 1) c4) (.slice A8 (X.length + 1) c8) vi vy T9 X9 I Y, a.heap.size ≤ b := fun b hb => by
    rcases hmem b hb with y | y | y
    · exact hab b y
    · exact (hf b y).2
    · exact Nat.le_trans hoa.size y
  have hty : ∀ b ∈ S9, ∀ cur, ¬ Blk w b 66 cur ∧ ¬ Blk w b 9 cur := fun b z cur => by
    rcases hS9 b z with y | y | y
    · rw [y]
      exact ⟨fun q => q.other hB.blk (by decide) rfl, fun q => q.other hB.blk (by decide) rfl⟩
    · obtain ⟨c1, q1⟩ := own_type hB.rt y
      exact ⟨fun q => q.other q1 (by decide) rfl, fun q => q.other q1 (by decide) rfl⟩
    · obtain ⟨c1, q1⟩ := own_type hB.rx y
      exact ⟨fun q => q.other q1 (by decide) rfl, fun q => q.other q1 (by decide) rfl⟩
  exact ⟨rfl, hBk bb (.slice A4 (T.length + 1) c4) (.slice A8 (X.length + 1) c8) vi vy T9 X9 I Y, ⟨⟨.slice A4 (T.length + 1) c4, .slice A8 (X.length + 1) c8, vi, vy, T9, X9, I, Y, hfin, rfl⟩, ho9, hab9⟩, ⟨S9, O9, hsH, hty⟩, hmem⟩
end Go.Proofs.YtikboecmcbcghaaGreat
/- An append leaves the old slice readable, as it was. -/
set_option linter.unusedVariables false
set_option linter.unusedSimpArgs false
namespace Go.Proofs.YtikboecmcbcghaaGreat
open Go.RowKit Go Go.Sort
theorem run_app_old {P : Program} {w : World} (t ty : TypeId) (base : Nat) (e : TypeId) (z : Value) (size bytes : Nat) (ht : P.underlying t = some (.slice e)) (hi : (P.info? e).map (fun i => (i.zero, i.size, i.bytes)) = some (some z, size, bytes))
    (hzs : z.cells.size = size) (hsz : 0 < size) {v : Value} {n : Nat} {xs : List Value} (hown : w.ownsRow base e size v n xs) {u : Value} {m : Nat} {cells : List Value} (hsl : Slc w size u m cells)
    (h1 : ∀ u ∈ cells, u.oneCell' = true) (hb : (n + m) * bytes ≤ 140737488355328) (hm : n + m ≤ maxLen) (hbase : base ≤ w.heap.size) {v' : Value} {w' : World} (hr : (Builtin.append_ #[t, t] ty #[v, u]).run P w = .ok v' w')
    (hown' : w'.ownsRow base e size v' (n + m) (xs ++ cells)) : Slc w' size v n xs := by
  have hold := (Slc.of_own hown).1
  have hm2 := hm
  unfold maxLen at hm2
  obtain ⟨i, hi1, hi2, hi3, hi4⟩ := info_parts hi
  obtain ⟨B, c, rfl, hl, hc1, hc2, hc⟩ := hsl
  by_cases h0 : m = 0
  · subst h0
    obtain ⟨A, cap, rfl, hnc, _⟩ := own_form hown
    have hs : (Go.sizeOf e).run P w = .ok size w := by simp [Go.sizeOf, typeInfo, hi1, hi3]
    rw [run_append_zero w t e ty A B size n cap c ht hs hnc] at hr
    injection hr with _ e2
    rw [← e2]
    exact hold
  · obtain ⟨b, off, rfl, hb1, hcc⟩ := hc (by omega)
    have hnews : ∀ j x, cells[j]? = some x → w.cell? ((⟨b, off, none⟩ : Addr).add j) = some x := fun j x hx => by
      have hj : j < cells.length := (List.getElem?_eq_some_iff.1 hx).1
      rw [show ((⟨b, off, none⟩ : Addr).add j) = ⟨b, off + j, none⟩ by simp [Addr.add], hcc j hj, hx]
    rcases hown.2 with ⟨rfl, rfl⟩ | ⟨g, cap, cur, rfl, hbg, hg, hnc, hcm, hcs, htake⟩
    · have hx : xs = [] := List.eq_nil_of_length_eq_zero (by simpa using hown.1)
      subst hx
      exact Slc.nil _ _
    · subst hi3 hi4
      by_cases hroom : n + m ≤ cap
      · have hfit : n * i.size + cells.length ≤ cur.size := by rw [hl, hcs, ← Nat.add_mul]; exact Nat.mul_le_mul_right _ hroom
        have hr2 := run_append_room (P := P) w t ty e i ht hi1 g n cap cur hg ⟨b, off, none⟩ m c cells hl hnews h1 hroom hfit
        rw [hr2] at hr
        injection hr with e1 e2
        subst e1
        have hs := slc_take (Slc.of_own hown').1 (Nat.le_add_right n m)
        rwa [← hown.1, List.take_left] at hs
      · have holds : ∀ j u, xs[j]? = some u → w.cell? ((⟨g, 0, none⟩ : Addr).add j) = some u := hown.cells (g := g) rfl
        have hr2 := run_append_grow (P := P) w t ty e i z ht hi1 hi2 ⟨g, 0, none⟩ n cap xs hown.1 holds ⟨b, off, none⟩ m c cells hl hnews (by omega) (by omega) (growslice_fits (by omega) hb)
        rw [hr2] at hr
        injection hr with e1 e2
        rw [← e2]
        exact hold.only ((Only.refl [] w).drew.alloc _) (by simp)
/-- A row of rows: what lies at place j. -/
theorem row_at {w : World} {A : Option Addr} {n c : Nat} {e : TypeId} {xs : List Value} {base : Nat} (h : w.ownsRow base e 1 (.slice A n c) n xs) (j : Nat) (hj : j < n) : ∃ b, A = some ⟨b, 0, none⟩ ∧ b < w.heap.size ∧ w.cell? ⟨b, j, none⟩ = xs[j]? := by
  obtain ⟨g, cap, e1, _, hlt⟩ := h.form (by omega)
  injection e1 with q1 _ _
  refine ⟨g, q1, hlt, ?_⟩
  have h' := h
  rw [q1] at h'
  exact h'.cellAt j (by omega)
theorem Kpt.set {w w' : World} {e : TypeId} {L : List (Value × List Value)} (h : Kpt w e L) {i : Nat} (hi : i < L.length) {cs : List Value} (hl : cs.length = L[i].2.length) (k : Only (L[i].1.ownBlock.toList) w w') (ho : w'.ownsRow 0 e 1 L[i].1 cs.length cs) : Kpt w' e (L.set i (L[i].1, cs)) := by
  have hsp : L = L.take i ++ L[i] :: L.drop (i + 1) := by
    conv => lhs; rw [← List.take_append_drop i L, List.drop_eq_getElem_cons hi]
  obtain ⟨p, hp⟩ : ∃ p, p = L[i] := ⟨_, rfl⟩
  rw [← hp] at hl k ho hsp ⊢
  have h1 := h.perm (M := p :: (L.take i ++ L.drop (i + 1))) (by
    conv => lhs; rw [hsp]
    exact List.perm_middle)
  have hn := h1.nod
  have hrest : Kpt w e (L.take i ++ L.drop (i + 1)) := ⟨fun q hq => h1.own q (List.mem_cons_of_mem _ hq), (List.nodup_append.1 (show (p.1.ownBlock.toList ++ blocksV (L.take i ++ L.drop (i + 1))).Nodup from hn)).2.1, fun q hq => h1.lit q (List.mem_cons_of_mem _ hq)⟩
  have hdis : ∀ b ∈ blocksV (L.take i ++ L.drop (i + 1)), b ∉ p.1.ownBlock.toList := fun b hb q => (List.nodup_append.1 (show (p.1.ownBlock.toList ++ blocksV (L.take i ++ L.drop (i + 1))).Nodup from hn)).2.2 b q b hb rfl
  obtain ⟨A, c, e1⟩ := h1.lit p (by simp)
  rw [← hl] at e1
  have h2 := (hrest.only k hdis).cons (A := A) (c := c) (cs := cs) (by rw [← e1]; exact ho) (fun b q z => hdis b z (by rw [e1]; simpa using q))
  rw [← e1] at h2
  refine h2.perm ?_
  have hst : L.set i (p.1, cs) = L.take i ++ (p.1, cs) :: L.drop (i + 1) := by rw [List.set_eq_take_append_cons_drop, if_pos hi]
  rw [hst]
  exact List.perm_middle.symm
theorem KpS.set {w w' : World} {L : List (Value × List StoredR)} (h : KpS w L) {i : Nat} (hi : i < L.length) {cs : List StoredR} (hl : cs.length = L[i].2.length) (k : Only (L[i].1.ownBlock.toList) w w') (ho : w'.ownsRow 0 66 8 L[i].1 cs.length (scs cs)) : KpS w' (L.set i (L[i].1, cs)) := by
  have hsp : L = L.take i ++ L[i] :: L.drop (i + 1) := by
    conv => lhs; rw [← List.take_append_drop i L, List.drop_eq_getElem_cons hi]
  obtain ⟨p, hp⟩ : ∃ p, p = L[i] := ⟨_, rfl⟩
  rw [← hp] at hl k ho hsp ⊢
  have h1 := h.perm (M := p :: (L.take i ++ L.drop (i + 1))) (by
    conv => lhs; rw [hsp]
    exact List.perm_middle)
  have hn := h1.nod
  have hrest : KpS w (L.take i ++ L.drop (i + 1)) := ⟨fun q hq => h1.own q (List.mem_cons_of_mem _ hq), (List.nodup_append.1 (show (p.1.ownBlock.toList ++ blocksV (L.take i ++ L.drop (i + 1))).Nodup from hn)).2.1, fun q hq => h1.lit q (List.mem_cons_of_mem _ hq)⟩
  have hdis : ∀ b ∈ blocksV (L.take i ++ L.drop (i + 1)), b ∉ p.1.ownBlock.toList := fun b hb q => (List.nodup_append.1 (show (p.1.ownBlock.toList ++ blocksV (L.take i ++ L.drop (i + 1))).Nodup from hn)).2.2 b q b hb rfl
  obtain ⟨A, c, e1⟩ := h1.lit p (by simp)
  rw [← hl] at e1
  have h2 := (hrest.only k hdis).cons (A := A) (c := c) (cs := cs) (by rw [← e1]; exact ho) (fun b q z => hdis b z (by rw [e1]; simpa using q))
  rw [← e1] at h2
  refine h2.perm ?_
  have hst : L.set i (p.1, cs) = L.take i ++ (p.1, cs) :: L.drop (i + 1) := by rw [List.set_eq_take_append_cons_drop, if_pos hi]
  rw [hst]
  exact List.perm_middle.symm
theorem keep_old {w1 w2 : World} {Ap Al : Option Addr} {n m cp cl B : Nat} {e : TypeId} {xs ys : List Value} (hs : Slc w1 1 (.slice Ap n cp) n xs) (hpa : ∀ b off, Ap = some ⟨b, off, none⟩ → off = 0) (ho : w1.ownsRow B e 1 (.slice Al m cl) m ys) (hy : ys.take n = xs) (hnm : n ≤ m)
    (hk : Only (Value.slice Al m cl).ownBlock.toList w1 w2) (hs2 : Slc w2 1 (.slice Al m cl) m ys) : Slc w2 1 (.slice Ap n cp) n xs := by
  obtain ⟨A', c', e1, h1, h2, h3, h4⟩ := hs
  injection e1 with q1 q2 q3
  subst q1 q3
  refine ⟨Ap, cp, rfl, h1, h2, h3, fun hn => ?_⟩
  obtain ⟨b, off, rfl, hb, hc⟩ := h4 hn
  by_cases q : (Value.slice Al m cl).ownBlock = some b
  · obtain ⟨g, cap, ef, _, _⟩ := ho.form (by omega)
    injection ef with f1 f2 f3
    subst f1
    have hgb : g = b := by simpa [Value.ownBlock] using q
    subst hgb
    have ho0 := hpa g off rfl
    subst ho0
    obtain ⟨A2, c2, e2, k1, k2, k3, k4⟩ := hs2
    injection e2 with r1 r2 r3
    subst r1
    obtain ⟨g2, off2, e3, hb2, hc2⟩ := k4 (by omega)
    cases e3
    refine ⟨g, 0, rfl, hb2, fun j hj => ?_⟩
    rw [hc2 j (by omega), ← hy, List.getElem?_take, if_pos (by omega)]
  · refine ⟨b, off, rfl, Nat.lt_of_lt_of_le hb hk.size, fun j hj => ?_⟩
    rw [hk.cell (by exact hb) (by simpa using q), hc j hj]
theorem keep_oldS {w1 w2 : World} {Ap Al : Option Addr} {n m cp cl B : Nat} {e : TypeId} {xs ys : List Value} (hs : Slc w1 8 (.slice Ap n cp) n xs) (hpa : ∀ b off, Ap = some ⟨b, off, none⟩ → off = 0) (ho : w1.ownsRow B e 8 (.slice Al m cl) m ys) (hy : ys.take (n * 8) = xs) (hnm : n ≤ m)
    (hk : Only (Value.slice Al m cl).ownBlock.toList w1 w2) (hs2 : Slc w2 8 (.slice Al m cl) m ys) : Slc w2 8 (.slice Ap n cp) n xs := by
  obtain ⟨A', c', e1, h1, h2, h3, h4⟩ := hs
  injection e1 with q1 q2 q3
  subst q1 q3
  refine ⟨Ap, cp, rfl, h1, h2, h3, fun hn => ?_⟩
  obtain ⟨b, off, rfl, hb, hc⟩ := h4 hn
  by_cases q : (Value.slice Al m cl).ownBlock = some b
  · obtain ⟨g, cap, ef, _, _⟩ := ho.form (by omega)
    injection ef with f1 f2 f3
    subst f1
    have hgb : g = b := by simpa [Value.ownBlock] using q
    subst hgb
    have ho0 := hpa g off rfl
    subst ho0
    obtain ⟨A2, c2, e2, k1, k2, k3, k4⟩ := hs2
    injection e2 with r1 r2 r3
    subst r1
    obtain ⟨g2, off2, e3, hb2, hc2⟩ := k4 (by omega)
    cases e3
    refine ⟨g, 0, rfl, hb2, fun j hj => ?_⟩
    rw [hc2 j (by omega), ← hy, List.getElem?_take, if_pos (by omega)]
  · refine ⟨b, off, rfl, Nat.lt_of_lt_of_le hb hk.size, fun j hj => ?_⟩
    rw [hk.cell (by exact hb) (by simpa using q), hc j hj]
def blocksJ (J : List (Value × Nat)) : List Nat := J.flatMap fun p => p.1.ownBlock.toList
theorem mem_blocksJ {J : List (Value × Nat)} {b : Nat} : b ∈ blocksJ J ↔ ∃ p ∈ J, p.1.ownBlock = some b := by simp [blocksJ]
end Go.Proofs.YtikboecmcbcghaaGreat
/- The book's marks for stored events; what is still as it was. -/
set_option linter.unusedVariables false
set_option linter.unusedSimpArgs false
namespace Go.Proofs.YtikboecmcbcghaaGreat
open Go.RowKit Go Go.Sort
def mkOne (p : Int) : StoredR := ⟨⟨0, ⟨#[]⟩, ⟨#[]⟩, 0⟩, ⟨#[]⟩, 0, p, 0⟩
def mkS (i f n : Nat) : List StoredR := (List.range n).map (fun k : Nat => mkOne (-1000 * (i : Int) - ((f : Int) + (k : Int)) - 1))
theorem mkS_len (i f n : Nat) : (mkS i f n).length = n := by simp [mkS]
theorem mkS_succ (i f n : Nat) : mkS i f (n + 1) = mkS i f n ++ [mkOne (-1000 * (i : Int) - ((f : Int) + (n : Int)) - 1)] := by simp [mkS, List.range_succ]
theorem mkS_app (i f n m : Nat) : mkS i f n ++ mkS i (f + n) m = mkS i f (n + m) := by
  induction m with
  | zero => simp [mkS]
  | succ m ih =>
    rw [mkS_succ, ← List.append_assoc, ih, ← Nat.add_assoc, mkS_succ]
    congr 4
    omega
theorem mkS_get (i f n k : Nat) (h : k < (mkS i f n).length) : (mkS i f n)[k] = mkOne (-1000 * (i : Int) - ((f : Int) + (k : Int)) - 1) := by simp [mkS]
theorem sameSt_refl {w : World} {v1 v2 : Value} {l : List StoredR} (h1 : Slc w 8 v1 l.length (scs l)) (h2 : Slc w 8 v2 l.length (scs l)) (hl : l.length ≤ 2000000 / 2) : Calls Tryz.prog 55 #[v1, v2] w fun e w' => e = .returned (.bool true) ∧ Only [] w w' := by
  have := sameL_any h1 h2 (by omega) (by omega)
  rwa [sameL_refl] at this
theorem scs_snoc (l : List StoredR) (x : StoredR) : scs (l ++ [x]) = scs l ++ x.cells := by simp [scs]
set_option maxRecDepth 100000 in
set_option maxHeartbeats 500000 in
theorem markS_any (w : World) (i f n : Nat) (hi : i ≤ 1000) (hf : f + n ≤ 2000000) :
    Calls Tryz.prog 139 #[.int .i64 i, .int .i64 f, .int .i64 n] w fun e w' => ∃ A c, e = .returned (.slice A n c) ∧ w'.ownsRow w.heap.size 66 8 (.slice A n c) n (scs (mkS i f n)) ∧ Only [] w w' := by
  have hfn := IntWalk.i64_in ((f : Int) + (n : Int)) ⟨by omega, by omega⟩
  have hmul := IntWalk.i64_in (-1000 * (i : Int)) ⟨by omega, by omega⟩
  go_enter Tryz.func139, Tryz.ntmps139
  go_wp2
  go_loopw [7, 8] (fun ov kv wr => ∃ (j : Nat) (A : Option Addr) (c : Nat), j ≤ n ∧ ov = .slice A j c ∧ kv = .int .i64 ((f : Int) + (j : Int)) ∧ wr.ownsRow w.heap.size 66 8 (.slice A j c) j (scs (mkS i f j)) ∧ Only [] w wr) (fun _ kv _ => f + n - (intOf kv).toNat)
  case atStart => exact ⟨0, none, 0, Nat.zero_le _, rfl, by simp, World.ownsRow_nil _ _ _ _, Only.refl _ _⟩
  case round =>
    obtain ⟨j, A, c, hj, rfl, rfl, hown, hO⟩ := hrel
    by_cases hlt : j < n
    · have hlt' : (f : Int) + (j : Int) < (f : Int) + (n : Int) := by omega
      have h1 := IntWalk.i64_in (-1000 * (i : Int) - ((f : Int) + (j : Int))) ⟨by omega, by omega⟩
      have h2 := IntWalk.i64_in (-1000 * (i : Int) - ((f : Int) + (j : Int)) - 1) ⟨by omega, by omega⟩
      have h3 := IntWalk.i64_in ((f : Int) + (j : Int) + 1) ⟨by omega, by omega⟩
      obtain ⟨A4, c4, w4, hr, hown4, hO4, _⟩ := run_app (P := Tryz.prog) (w := wr.alloc (.cells #[.int .i64 0, .string ⟨#[]⟩, .string ⟨#[]⟩, .float .f64 0, .string ⟨#[]⟩, .int .i64 0, .int .i64 (-1000 * (i : Int) - ((f : Int) + (j : Int)) - 1), .int .i64 0] 66)) 28 28 w.heap.size 66 (.agg #[.int .i64 0, .string ⟨#[]⟩, .string ⟨#[]⟩, .float .f64 0, .string ⟨#[]⟩, .int .i64 0, .int .i64 0, .int .i64 0]) 8 88 Tryz.underlying28 infoSt rfl (by decide) (hown.alloc _) (slc_new1 (w := wr) (e := 66) (size := 8) (cs := (mkOne (-1000 * (i : Int) - ((f : Int) + (j : Int)) - 1)).cells) rfl) (by simpa [scs] using scs_one [mkOne (-1000 * (i : Int) - ((f : Int) + (j : Int)) - 1)]) (by omega) (by unfold maxLen; omega) (Nat.le_trans hO.size (by simp))
      have k4 : Only [] w w4 := (hO.alloc (.cells #[.int .i64 0, .string ⟨#[]⟩, .string ⟨#[]⟩, .float .f64 0, .string ⟨#[]⟩, .int .i64 0, .int .i64 (-1000 * (i : Int) - ((f : Int) + (j : Int)) - 1), .int .i64 0] 66)).step hO4 (fun b hb => .inr (World.ownsRow.lt hown b (by simpa using hb)).1)
      have ho4 : w4.ownsRow w.heap.size 66 8 (.slice A4 (j + 1) c4) (j + 1) (scs (mkS i f (j + 1))) := by
        rw [mkS_succ, scs_snoc]
        exact hown4
      have HR := Lib.hid hr
      have HO := Lib.hid ho4
      clear hr hown4 hO4 ho4 hown
      go_wp2_with (at_builtin; refine Lib.wpList_append_run _ rfl (.tmp 17) (.tmp 24) 28 28 rfl _ _ rfl rfl _ _ HR.out ?_)
      exact ⟨⟨j + 1, A4, c4, hlt, rfl, by simp [Int.add_assoc], HO.out, k4⟩, by simp [intOf]; omega⟩
    · have hjn : j = n := by omega
      have hlt' : ¬ (f : Int) + (j : Int) < (f : Int) + (n : Int) := by omega
      subst hjn
      have HO := Lib.hid hown
      clear hown hlt
      go_wp2
      go_ret
      exact ⟨_, _, rfl, HO.out, hO⟩
set_option maxRecDepth 100000 in
set_option maxHeartbeats 500000 in
theorem stillS_any {w : World} {bb : Nat} {vt vx vi vy : Value} {T X : List (Value × List Value)} {I Y : List (Value × List StoredR)} (h : BkAt w bb vt vx vi vy T X I Y) :
    Calls Tryz.prog 76 #[.pointer (some ⟨bb, 0, none⟩)] w fun e w' => e = .returned (.bool true) ∧ Only [] w w' := by
  obtain ⟨Ai, ci, rfl, hni, hmi⟩ := own_form h.ri
  obtain ⟨Ay, cy, rfl, hny, hmy⟩ := own_form h.ry
  unfold maxLen at hmi hmy
  have g2 : w.cell? ⟨bb, 4, none⟩ = some (.slice Ai I.length ci) := h.blk.cell 4
  have g3 : w.cell? ⟨bb, 5, none⟩ = some (.slice Ay Y.length cy) := h.blk.cell 5
  have hbl := h.blk.lt
  have hYl : Y.length = I.length := by
    have := congrArg List.length h.si
    simpa using this.symm
  have HYl := Lib.hid hYl
  have HB := Lib.hid h
  clear hYl h
  go_enter Tryz.func76, Tryz.ntmps76
  go_wp2
  go_loopw [3] (fun iv wr => ∃ j : Nat, j ≤ I.length ∧ iv = .int .i64 j ∧ Only [] w wr) (fun iv _ => I.length - (intOf iv).toNat)
  case atStart => exact ⟨0, Nat.zero_le _, rfl, Only.refl _ _⟩
  case round =>
    obtain ⟨j, hj, rfl, hO⟩ := hrel
    have k2 : wr.cell? ⟨bb, 4, none⟩ = some (.slice Ai I.length ci) := (hO.cell hbl (by simp)).trans g2
    have k3 : wr.cell? ⟨bb, 5, none⟩ = some (.slice Ay Y.length cy) := (hO.cell hbl (by simp)).trans g3
    by_cases hlt : j < I.length
    · have hltY : j < Y.length := by rw [HYl.out]; exact hlt
      obtain ⟨bi, rfl, hbi, hci⟩ := row_at HB.out.ri j hlt
      obtain ⟨by', rfl, hby, hcy⟩ := row_at HB.out.ry j hltY
      rw [List.getElem?_map, List.getElem?_eq_getElem hlt] at hci
      rw [List.getElem?_map, List.getElem?_eq_getElem hltY] at hcy
      obtain ⟨p, hp⟩ : ∃ p, p = I[j] := ⟨_, rfl⟩
      obtain ⟨q, hq⟩ : ∃ q, q = Y[j] := ⟨_, rfl⟩
      have hpm : p ∈ I := by rw [hp]; exact List.getElem_mem hlt
      have hqm : q ∈ Y := by rw [hq]; exact List.getElem_mem hltY
      have hpq : p.2 = q.2 := by
        have := congrArg (fun l => l[j]?) HB.out.si
        simp only [List.getElem?_map, List.getElem?_eq_getElem hlt, List.getElem?_eq_getElem hltY, Option.map_some] at this
        rw [hp, hq]
        injection this
      rw [← hp] at hci
      rw [← hq] at hcy
      have hll := HB.out.ci p hpm
      obtain ⟨l, hl⟩ : ∃ l, p.2 = l := ⟨_, rfl⟩
      obtain ⟨A1, c1, e1⟩ := HB.out.ki.lit p (List.mem_append_right _ hpm)
      obtain ⟨A2, c2, e2⟩ := HB.out.ki.lit q (List.mem_append_left _ hqm)
      have o1 := HB.out.ki.own p (List.mem_append_right _ hpm)
      have o2 := HB.out.ki.own q (List.mem_append_left _ hqm)
      rw [hl] at o1 e1 hll
      rw [← hpq, hl] at o2 e2
      have HSm := Lib.hid (fun (W : World) (hW : Only [] w W) => sameSt_refl (l := l) ((Slc.of_own o1).1.only0 hW) ((Slc.of_own o2).1.only0 hW) (by omega))
      have hci' : w.cell? ⟨bi, j, none⟩ = some (.slice A1 l.length c1) := by rw [hci, ← e1]; rfl
      have hcy' : w.cell? ⟨by', j, none⟩ = some (.slice A2 l.length c2) := by rw [hcy, ← e2]; rfl
      rw [e1] at HSm
      rw [e2] at HSm
      have d2 := Within.cell (S := []) k2 (by simp)
      have d3 := Within.cell (S := []) k3 (by simp)
      have d4 := Within.cell (S := []) ((hO.cell hbi (by simp)).trans hci') (by simp)
      have d5 := Within.cell (S := []) ((hO.cell hby (by simp)).trans hcy') (by simp)
      clear hci hcy hci' hcy' hp hq hpq hl e1 e2 o1 o2 hpm hqm
      go_wp2_with fail
      refine wp_region_in [] [0, 1, 2, 3, 4, 5, 6, 7, 8, 9, 10, 11, 12, 13] [14, 15] [] (by kernel_rfl) (by kernel_rfl) (by intro c d u a w h; cases d <;> exact h) ?_
      show wpQuiet _ _ _ _ [_, _, _, _, _, _, _, _, _, _, _, _, _, _] _
      repeat (go_big_quiet_step (fail))
      refine wpQuiet_nil ?_
      clear d2 d3 d4 d5
      show wpList _ _ _ [_] _ _
      go_wp2_with fail
      refine (HSm.out _ hO.drew).mono ?_
      rintro e w1 ⟨rfl, k1⟩
      have k1' := (Only.refl [] wr).drew.trans k1
      go_wp2_with fail
      refine check_of (S := []) k1' ?_
      show wpList _ _ _ [_] _ _
      go_wp2_with fail
      refine check_last (S := []) k1' (fun _ _ q => q) ?_
      clear HSm k1
      go_wp2
      exact ⟨⟨j + 1, hlt, by simp, hO.trans k1'⟩, by simp [intOf]; omega⟩
    · clear HB HYl k3
      go_wp2
      go_ret
      exact ⟨rfl, hO⟩
end Go.Proofs.YtikboecmcbcghaaGreat
/- The book: all lists of stored events are marked. -/
set_option linter.unusedVariables false
set_option linter.unusedSimpArgs false
namespace Go.Proofs.YtikboecmcbcghaaGreat
open Go.RowKit Go Go.Sort
/-- The lists of numbers of a book, behind what was still. -/
structure PS (w : World) (bb : Nat) (cs : Array Value) (A : Option Addr) (c : Nat) (I : List (Value × List StoredR)) : Prop where
  blk : Blk w bb 40 cs
  at4 : cs[4]? = some (.slice A I.length c)
  cap : I.length ≤ c ∧ c ≤ maxLen
  ri : w.ownsRow 0 28 1 (.slice A I.length c) I.length (I.map (·.1))
  k : KpS w I
  ci : ∀ p ∈ I, p.2.length ≤ 900000
  few : I.length ≤ 250
/-- The first i rows marked. -/
def pmS (i : Nat) (I : List (Value × List StoredR)) : List (Value × List StoredR) := I.mapIdx (fun k p => if k < i then (p.1, (mkS k 0 p.2.length)) else p)
theorem pmS_len (i : Nat) (I : List (Value × List StoredR)) : (pmS i I).length = I.length := by simp [pmS]
theorem pmS_get (i : Nat) (I : List (Value × List StoredR)) (k : Nat) (h : k < I.length) (h' : k < (pmS i I).length) : (pmS i I)[k] = if k < i then (I[k].1, (mkS k 0 I[k].2.length)) else I[k] := by simp [pmS]
theorem pmS_zero (I : List (Value × List StoredR)) : pmS 0 I = I := by
  apply List.ext_getElem
  · simp [pmS]
  · intro k h1 h2
    rw [pmS_get 0 I k h2]
    simp
theorem pmS_fst (i : Nat) (I : List (Value × List StoredR)) : (pmS i I).map (·.1) = I.map (·.1) := by
  apply List.ext_getElem
  · simp [pmS]
  · intro k h1 h2
    have hk : k < I.length := by simpa using h2
    rw [List.getElem_map, List.getElem_map, pmS_get i I k hk]
    split <;> rfl
theorem pmS_set (i : Nat) (I : List (Value × List StoredR)) (h : i < I.length) : (pmS i I).set i (I[i].1, (mkS i 0 I[i].2.length)) = pmS (i + 1) I := by
  apply List.ext_getElem
  · simp [pmS]
  · intro k h1 h2
    have hk : k < I.length := by rw [pmS_len] at h2; exact h2
    rw [List.getElem_set, pmS_get (i + 1) I k hk]
    by_cases e : i = k
    · subst e
      rw [if_pos rfl, if_pos (by omega)]
    · rw [if_neg e, pmS_get i I k hk]
      by_cases q : k < i
      · rw [if_pos q, if_pos (by omega)]
      · rw [if_neg q, if_neg (by omega)]
theorem sflat_set : ∀ (l : List StoredR) (j : Nat) (x : StoredR), j < l.length → ((((((((scs l).set (j * 8) (.int .i64 x.ev.id)).set (j * 8 + 1) (.string x.ev.type)).set (j * 8 + 2) (.string x.ev.data)).set (j * 8 + 3) (.float .f64 x.ev.value)).set (j * 8 + 4) (.string x.stream)).set (j * 8 + 5) (.int .i64 x.version)).set (j * 8 + 6) (.int .i64 x.position)).set (j * 8 + 7) (.int .i64 x.time) = scs (l.set j x)
  | [], j, x, h => by simp at h
  | y :: l, 0, x, h => by simp [scs, StoredR.cells, EventR.cells]
  | y :: l, j + 1, x, h => by
    have ih := sflat_set l j x (by simpa using h)
    have e : scs (y :: l) = StoredR.cells y ++ scs l := by simp [scs]
    have e2 : scs ((y :: l).set (j + 1) x) = StoredR.cells y ++ scs (l.set j x) := by simp [scs]
    rw [e2, ← ih, e]
    have hs : ∀ (k : Nat) (L : List Value) (v : Value), (StoredR.cells y ++ L).set (k + 8) v = StoredR.cells y ++ L.set k v := fun k L v => by
      rw [List.set_append_right _ _ (by simp [StoredR.cells, EventR.cells])]
      simp [StoredR.cells, EventR.cells]
    rw [show (j + 1) * 8 = j * 8 + 8 by omega, show j * 8 + 8 + 1 = j * 8 + 1 + 8 by omega, show j * 8 + 8 + 2 = j * 8 + 2 + 8 by omega, show j * 8 + 8 + 3 = j * 8 + 3 + 8 by omega, show j * 8 + 8 + 4 = j * 8 + 4 + 8 by omega, show j * 8 + 8 + 5 = j * 8 + 5 + 8 by omega, show j * 8 + 8 + 6 = j * 8 + 6 + 8 by omega, show j * 8 + 8 + 7 = j * 8 + 7 + 8 by omega]
    rw [hs, hs, hs, hs, hs, hs, hs, hs]
theorem marksS_set (i k : Nat) (xs : List StoredR) (hk : k < xs.length) : (mkS i 0 k ++ xs.drop k).set k (mkOne (-1000 * (i : Int) - (((0 : Nat) : Int) + (k : Int)) - 1)) = mkS i 0 (k + 1) ++ xs.drop (k + 1) := by
  have hl : (mkS i 0 k).length = k := mkS_len i 0 k
  rw [List.drop_eq_getElem_cons hk, List.set_append_right _ _ (by omega), hl, mkS_succ]
  simp only [Nat.sub_self, List.set_cons_zero]
  simp
end Go.Proofs.YtikboecmcbcghaaGreat
/- The book: putStored. -/
set_option linter.unusedVariables false
set_option linter.unusedSimpArgs false
namespace Go.Proofs.YtikboecmcbcghaaGreat
open Go.RowKit Go Go.Sort
section
variable {w w' : World} {bb : Nat} {cs : Array Value} {A : Option Addr} {c : Nat} {I : List (Value × List StoredR)}
theorem PS.only {S : List Nat} (h : PS w bb cs A c I) (k : Only S w w') (hS : ∀ b ∈ S, (∃ cur, Blk w b 66 cur) ∧ b ∉ blocksV I) : PS w' bb cs A c I := by
  refine ⟨k.blk h.blk (fun q => ?_), h.at4, h.cap, own_only h.ri k (fun b q z => ?_), h.k.only k (fun b q z => (hS b z).2 q), h.ci, h.few⟩
  · obtain ⟨⟨cur, hc⟩, _⟩ := hS bb q
    exact hc.other h.blk (by decide) rfl
  · obtain ⟨⟨cur, hc⟩, _⟩ := hS b z
    obtain ⟨c2, h2⟩ := own_type h.ri q
    exact hc.other h2 (by decide) rfl
theorem PS.cell (h : PS w bb cs A c I) : w.cell? ⟨bb, 4, none⟩ = some (.slice A I.length c) := by
  rw [h.blk.cell 4]
  exact h.at4
theorem PS.row (h : PS w bb cs A c I) (i : Nat) (hi : i < I.length) : ∃ vb, A = some ⟨vb, 0, none⟩ ∧ vb < w.heap.size ∧ (∃ cur, Blk w vb 28 cur) ∧ w.cell? ⟨vb, i, none⟩ = some I[i].1 := by
  obtain ⟨vb, e, hl, hc⟩ := row_at h.ri i hi
  obtain ⟨cur, hcur⟩ := own_type (g := vb) h.ri (by rw [e]; rfl)
  refine ⟨vb, e, hl, ⟨cur, hcur⟩, ?_⟩
  rw [hc, List.getElem?_map, List.getElem?_eq_getElem hi]
  rfl
set_option maxRecDepth 100000 in
set_option maxHeartbeats 1000000 in
theorem putS_all (h : PS w bb cs A c I) :
    Calls Tryz.prog 83 #[.pointer (some ⟨bb, 0, none⟩)] w fun e w' => e = .returned (.tuple #[]) ∧ PS w' bb cs A c (pmS I.length I) ∧ Only (blocksV I) w w' := by
  have hc63 := h.cap.2
  have hcl := h.cap.1
  have hfew := h.few
  unfold maxLen at hc63
  have hci := Lib.hid h.ci
  go_enter Tryz.func83, Tryz.ntmps83
  go_wp2
  go_loopw [2] (fun iv wr => ∃ i : Nat, i ≤ I.length ∧ iv = .int .i64 i ∧ PS wr bb cs A c (pmS i I) ∧ Only (blocksV I) w wr) (fun iv _ => I.length - (intOf iv).toNat)
  case atStart => exact ⟨0, Nat.zero_le _, rfl, by rw [pmS_zero]; exact h, Only.refl _ _⟩
  case round =>
    obtain ⟨i, hi, rfl, hP, hO⟩ := hrel
    have g2 : wr.cell? ⟨bb, 4, none⟩ = some (.slice A I.length c) := by have := hP.cell; rw [pmS_len] at this; exact this
    by_cases hlt : i < I.length
    · have hltJ : i < (pmS i I).length := by rw [pmS_len]; exact hlt
      obtain ⟨vb, rfl, hvb, ⟨vcur, hvcur⟩, hvc⟩ := hP.row i hltJ
      have hJi : (pmS i I)[i] = I[i] := by rw [pmS_get i I i hlt hltJ, if_neg (Nat.lt_irrefl _)]
      obtain ⟨p, hp⟩ : ∃ p, p = I[i] := ⟨_, rfl⟩
      rw [hJi, ← hp] at hvc
      have hpm : p ∈ pmS i I := by rw [hp, ← hJi]; exact List.getElem_mem hltJ
      have hown := hP.k.own p hpm
      obtain ⟨Ap, cp, hp1⟩ := hP.k.lit p hpm
      have hpl : p.2.length ≤ 900000 := hci.out p (by rw [hp]; exact List.getElem_mem hlt)
      obtain ⟨n, hn⟩ : ∃ n, n = p.2.length := ⟨_, rfl⟩
      rw [← hn] at hp1 hpl hown
      have hncp : n ≤ cp ∧ cp ≤ maxLen := by
        obtain ⟨A', c', e, q1, q2⟩ := own_form hown
        rw [hp1] at e
        injection e with _ _ e3
        omega
      have hcpm := hncp.2
      have hncp1 := hncp.1
      unfold maxLen at hcpm
      have hnotb : bb ∉ p.1.ownBlock.toList := fun q => by
        obtain ⟨c2, h2⟩ := own_type hown (g := bb) (by simpa using q)
        exact h2.other hP.blk (by decide) rfl
      have hnotv : vb ∉ p.1.ownBlock.toList := fun q => by
        obtain ⟨c2, h2⟩ := own_type hown (g := vb) (by simpa using q)
        exact h2.other hvcur (by decide) rfl
      have hsubI : ∀ b ∈ p.1.ownBlock.toList, b ∈ blocksV I := fun b q => mem_blocksV.2 ⟨p, by rw [hp]; exact List.getElem_mem hlt, by simpa using q⟩
      have HNext := Lib.hid (fun (W : World) (k : Only p.1.ownBlock.toList wr W) (ho : W.ownsRow 0 66 8 p.1 n (scs (mkS i 0 n))) => (show PS W bb cs (some ⟨vb, 0, none⟩) c (pmS (i + 1) I) ∧ Only (blocksV I) w W from by
        have hk := hP.k.set (i := i) hltJ (cs := mkS i 0 n) (w' := W) (by rw [hJi, ← hp, ← hn]; rw [mkS_len]) (by rw [hJi, ← hp]; exact k) (by rw [hJi, ← hp, mkS_len]; exact ho)
        rw [hJi, hn, hp, pmS_set i I hlt] at hk
        refine ⟨⟨k.blk hP.blk hnotb, by have := hP.at4; rw [pmS_len] at this ⊢; exact this, by have := hP.cap; rw [pmS_len] at this ⊢; exact this, ?_, hk, ?_, by rw [pmS_len]; exact hfew⟩, hO.trans (k.mono hsubI)⟩
        · have := own_only hP.ri k (fun b q z => by
            obtain ⟨c2, h2⟩ := own_type hown (g := b) (by simpa using z)
            obtain ⟨c3, h3⟩ := own_type hP.ri q
            exact h2.other h3 (by decide) rfl)
          rw [pmS_len, pmS_fst] at this ⊢
          exact this
        · intro q hq
          obtain ⟨k', hk', rfl⟩ := List.getElem_of_mem hq
          have hk2 : k' < I.length := by rw [pmS_len] at hk'; exact hk'
          rw [pmS_get (i + 1) I k' hk2]
          have hll2 := hci.out I[k'] (List.getElem_mem hk2)
          split
          · show (mkS k' 0 I[k'].2.length).length ≤ _
            rw [mkS_len]
            exact hll2
          · exact hll2))
      have HM := Lib.hid (show Calls Tryz.prog 139 #[.int .i64 i, .int .i64 0, .int .i64 n] wr fun e w' => ∃ A c, e = .returned (.slice A n c) ∧ w'.ownsRow wr.heap.size 66 8 (.slice A n c) n (scs (mkS i 0 n)) ∧ Only [] wr w' from markS_any wr i 0 n (by omega) (by omega))
      have hrl := World.ownsRow.lt hown
      have hbl := hP.blk.lt
      rw [hp1] at hvc hown HNext hnotb hnotv hrl
      obtain ⟨xs, hxs⟩ : ∃ xs, xs = p.2 := ⟨_, rfl⟩
      rw [← hxs] at hown hn
      clear hP hO hJi hp hpm hp1 hxs hncp hltJ hsubI
      have hnl := Lib.hid hn
      clear hn
      go_wp2_with fail
      refine HM.out.mono ?_
      rintro e w1 ⟨Am, cm, rfl, hom, k1⟩
      have hpd : ∀ b, (Value.slice Am n cm).ownBlock = some b → b ∉ (Value.slice Ap n cp).ownBlock.toList := fun b q z => by
        have h1 := (World.ownsRow.lt hom b q).1
        have h2 := (hrl b (by simpa using z)).2
        omega
      have hmcap : n ≤ cm ∧ cm ≤ 2 ^ 63 - 1 := by
        obtain ⟨A', c', e, q1, q2⟩ := own_form hom
        injection e with _ _ e3
        unfold maxLen at q2
        omega
      obtain ⟨hmc1, hmc2⟩ := hmcap
      have HOm := Lib.hid hom
      have HHvc := Lib.hid hvc
      have HG2 := Lib.hid g2
      have HPd := Lib.hid hpd
      clear hom hpd hvc g2
      go_wp2_with fail
      go_loopw [4] (fun kv wr => ∃ k : Nat, k ≤ n ∧ kv = .int .i64 k ∧ wr.ownsRow 0 66 8 (.slice Ap n cp) n (scs (mkS i 0 k ++ xs.drop k)) ∧ Only (Value.slice Ap n cp).ownBlock.toList w1 wr) (fun kv _ => n - (intOf kv).toNat)
      case atStart => exact ⟨0, Nat.zero_le _, rfl, by simpa [mkS] using own_only hown k1 (by simp), Only.refl _ _⟩
      case round =>
        obtain ⟨k, hk, rfl, hoq, hOq⟩ := hrel
        by_cases hkn : k < n
        · obtain ⟨pb, cpp, cur0, hpb, hpg, hpblk⟩ := own_some hoq (by omega)
          injection hpb with hpb _ hcpp
          subst hcpp
          have hkx : k < xs.length := by rw [← hnl.out]; exact hkn
          have hxl : (mkS i 0 k ++ xs.drop k).length = n := by rw [List.length_append, mkS_len, List.length_drop, ← hnl.out]; omega
          have hkl : k < (mkS i 0 k ++ xs.drop k).length := by rw [hxl]; exact hkn
          obtain ⟨b9, o9, e9, hb9, hcc9⟩ : ∃ b off, Ap = some ⟨b, off, none⟩ ∧ b < wr.heap.size ∧ ∀ t, t < 8 → wr.cell? ⟨b, off + k * 8 + t, none⟩ = (((mkS i 0 k ++ xs.drop k)[k]).cells)[t]? := by
            have hs := (Slc.of_own hoq).1
            have hs2 : Slc wr 8 (.slice Ap n cp) (mkS i 0 k ++ xs.drop k).length ((mkS i 0 k ++ xs.drop k).flatMap StoredR.cells) := by rw [hxl]; exact hs
            obtain ⟨A', c', e, _, _, q⟩ := hs2.openE StoredR.cells (fun _ => rfl)
            injection e with e1 e2 e3
            subst e1
            exact q k hkl
          rw [hpb] at e9
          injection e9 with e9
          injection e9 with e10 e11
          subst e10 e11
          simp only [Nat.zero_add] at hcc9
          obtain ⟨y, hy⟩ : ∃ y, (mkS i 0 k ++ xs.drop k)[k] = y := ⟨_, rfl⟩
          rw [hy] at hcc9
          have y0 : wr.cell? ⟨pb, k * 8, none⟩ = some (.int .i64 y.ev.id) := hcc9 0 (by omega)
          have y1 : wr.cell? ⟨pb, k * 8 + 1, none⟩ = some (.string y.ev.type) := hcc9 1 (by omega)
          have y2 : wr.cell? ⟨pb, k * 8 + 2, none⟩ = some (.string y.ev.data) := hcc9 2 (by omega)
          have y3 : wr.cell? ⟨pb, k * 8 + 3, none⟩ = some (.float .f64 y.ev.value) := hcc9 3 (by omega)
          have y4 : wr.cell? ⟨pb, k * 8 + 4, none⟩ = some (.string y.stream) := hcc9 4 (by omega)
          have y5 : wr.cell? ⟨pb, k * 8 + 5, none⟩ = some (.int .i64 y.version) := hcc9 5 (by omega)
          have y6 : wr.cell? ⟨pb, k * 8 + 6, none⟩ = some (.int .i64 y.position) := hcc9 6 (by omega)
          have y7 : wr.cell? ⟨pb, k * 8 + 7, none⟩ = some (.int .i64 y.time) := hcc9 7 (by omega)
          have fr : ∀ t, wr.frozen? ⟨pb, t, none⟩ = false := fun t => hpblk.free t
          -- the mark
          have hom := Slc.of_own (own_only HOm.out hOq HPd.out)
          obtain ⟨mb, mo, hmb, hml, hmc⟩ : ∃ b off, Am = some ⟨b, off, none⟩ ∧ b < wr.heap.size ∧ ∀ t, t < 8 → wr.cell? ⟨b, off + k * 8 + t, none⟩ = (((mkS i 0 n)[k]'(by rw [mkS_len]; exact hkn)).cells)[t]? := by
            have hs2 : Slc wr 8 (.slice Am n cm) (mkS i 0 n).length ((mkS i 0 n).flatMap StoredR.cells) := by rw [mkS_len]; exact hom.1
            obtain ⟨A', c', e, _, _, q⟩ := hs2.openE StoredR.cells (fun _ => rfl)
            injection e with e1 e2 e3
            subst e1
            exact q k (by rw [mkS_len]; exact hkn)
          rw [mkS_get] at hmc
          obtain ⟨mv, hmv⟩ : ∃ mv : Int, mv = -1000 * (i : Int) - (((0 : Nat) : Int) + (k : Int)) - 1 := ⟨_, rfl⟩
          rw [← hmv] at hmc
          have m0 := Within.cell (S := []) (show wr.cell? ⟨mb, mo + k * 8, none⟩ = some (.int .i64 0) from hmc 0 (by omega)) (by simp)
          have m1 := Within.cell (S := []) (show wr.cell? ⟨mb, mo + k * 8 + 1, none⟩ = some (.string ⟨#[]⟩) from hmc 1 (by omega)) (by simp)
          have m2 := Within.cell (S := []) (show wr.cell? ⟨mb, mo + k * 8 + 2, none⟩ = some (.string ⟨#[]⟩) from hmc 2 (by omega)) (by simp)
          have m3 := Within.cell (S := []) (show wr.cell? ⟨mb, mo + k * 8 + 3, none⟩ = some (.float .f64 0) from hmc 3 (by omega)) (by simp)
          have m4 := Within.cell (S := []) (show wr.cell? ⟨mb, mo + k * 8 + 4, none⟩ = some (.string ⟨#[]⟩) from hmc 4 (by omega)) (by simp)
          have m5 := Within.cell (S := []) (show wr.cell? ⟨mb, mo + k * 8 + 5, none⟩ = some (.int .i64 0) from hmc 5 (by omega)) (by simp)
          have m6 := Within.cell (S := []) (show wr.cell? ⟨mb, mo + k * 8 + 6, none⟩ = some (.int .i64 mv) from hmc 6 (by omega)) (by simp)
          have m7 := Within.cell (S := []) (show wr.cell? ⟨mb, mo + k * 8 + 7, none⟩ = some (.int .i64 0) from hmc 7 (by omega)) (by simp)
          have hnext : scs ((mkS i 0 k ++ xs.drop k).set k (mkOne mv)) = scs (mkS i 0 (k + 1) ++ xs.drop (k + 1)) := by rw [hmv, marksS_set i k xs hkx]
          have hst : wr.ownsRow 0 66 8 (.slice (some ⟨pb, 0, none⟩) n cp) n (scs (mkS i 0 k ++ xs.drop k)) := by rw [← hpb]; exact hoq
          have HSt := Lib.hid (show ∀ wz, Only [] wr wz → ((((((((wz.setCell ⟨pb, k * 8, none⟩ (.int .i64 0)).setCell ⟨pb, k * 8 + 1, none⟩ (.string ⟨#[]⟩)).setCell ⟨pb, k * 8 + 2, none⟩ (.string ⟨#[]⟩)).setCell ⟨pb, k * 8 + 3, none⟩ (.float .f64 0)).setCell ⟨pb, k * 8 + 4, none⟩ (.string ⟨#[]⟩)).setCell ⟨pb, k * 8 + 5, none⟩ (.int .i64 0)).setCell ⟨pb, k * 8 + 6, none⟩ (.int .i64 mv)).setCell ⟨pb, k * 8 + 7, none⟩ (.int .i64 0)).ownsRow 0 66 8 (.slice Ap n cp) n (scs (mkS i 0 (k + 1) ++ xs.drop (k + 1))) from fun wz kz => by
            have h8 := (((((((((own_only hst kz (by simp)).stored (k * 8) (.int .i64 0)).1.stored (k * 8 + 1) (.string ⟨#[]⟩)).1.stored (k * 8 + 2) (.string ⟨#[]⟩)).1.stored (k * 8 + 3) (.float .f64 0)).1.stored (k * 8 + 4) (.string ⟨#[]⟩)).1.stored (k * 8 + 5) (.int .i64 0)).1.stored (k * 8 + 6) (.int .i64 mv)).1.stored (k * 8 + 7) (.int .i64 0)).1
            have h9 := sflat_set (mkS i 0 k ++ xs.drop k) k (mkOne mv) hkl
            unfold mkOne at h9
            dsimp only at h9
            rw [h9] at h8
            rw [hpb, ← hnext]
            exact h8)
          have HKO := Lib.hid (show ∀ wz, Only [] wr wz → Only (Value.slice Ap n cp).ownBlock.toList w1 ((((((((wz.setCell ⟨pb, k * 8, none⟩ (.int .i64 0)).setCell ⟨pb, k * 8 + 1, none⟩ (.string ⟨#[]⟩)).setCell ⟨pb, k * 8 + 2, none⟩ (.string ⟨#[]⟩)).setCell ⟨pb, k * 8 + 3, none⟩ (.float .f64 0)).setCell ⟨pb, k * 8 + 4, none⟩ (.string ⟨#[]⟩)).setCell ⟨pb, k * 8 + 5, none⟩ (.int .i64 0)).setCell ⟨pb, k * 8 + 6, none⟩ (.int .i64 mv)).setCell ⟨pb, k * 8 + 7, none⟩ (.int .i64 0)) from fun wz kz => by
            have hin : pb ∈ (Value.slice Ap n cp).ownBlock.toList := by rw [hpb]; simp [Value.ownBlock]
            iterate 8 (refine Only.setCell ?_ (.inl hin) _)
            exact hOq.trans kz.of_nil)
          have k1q := k1.of_nil.trans hOq
          have d2 := Within.cell (S := []) ((k1q.cell hbl hnotb).trans HG2.out) (by simp)
          have d3 := Within.cell (S := []) ((k1q.cell hvb hnotv).trans HHvc.out) (by simp)
          have hsf := stF
          subst hmb
          subst hpb
          clear hoq hOq hst hcc9 hmc hy hmv hnext k1q HM hom hpblk hkl hxl
          go_wp2_with fail
          refine wp_region_in [] [0, 1, 2, 3, 4, 5, 6, 7, 8, 9, 10, 11, 12] [] [13] (by kernel_rfl) (by kernel_rfl) (by intro c d u a w h; cases d <;> exact h) ?_
          show wpQuiet _ _ _ _ [_, _, _, _, _, _, _, _, _, _, _, _, _] _
          repeat (go_big_quiet_step (fail))
          refine wpQuiet_nil ?_
          clear d2 d3 m0 m1 m2 m3 m4 m5 m6 m7
          show wpList _ _ _ [_] _ _
          go_wp2
          exact ⟨⟨k + 1, hkn, by simp, (HSt.out _ (Only.refl _ _)).drew, (HKO.out _ (Only.refl _ _)).drew⟩, by simp [intOf]; omega⟩
        · have hkn2 : k = n := by omega
          have hdr : mkS i 0 k ++ xs.drop k = mkS i 0 n := by rw [hkn2, List.drop_of_length_le (by rw [← hnl.out]; exact Nat.le_refl _), List.append_nil]
          rw [hdr] at hoq
          have hN := HNext.out _ (k1.of_nil.trans hOq) hoq
          have HN1 := Lib.hid hN.1
          have HN2 := Lib.hid hN.2
          clear hN hoq hOq hdr hkn2 HNext HM HOm HHvc HG2 HPd
          go_wp2
          exact ⟨⟨i + 1, hlt, by simp, HN1.out, HN2.out⟩, by simp [intOf]; omega⟩
    · have hin : i = I.length := by omega
      subst hin
      have HF := Lib.hid (And.intro hP hO)
      clear hP hO hlt
      go_wp2
      go_end0
      exact ⟨rfl, HF.out⟩
end
end Go.Proofs.YtikboecmcbcghaaGreat
/- The book: markedStored. -/
set_option linter.unusedVariables false
set_option linter.unusedSimpArgs false
namespace Go.Proofs.YtikboecmcbcghaaGreat
open Go.RowKit Go Go.Sort
/-- Lists that have their marks. -/
structure MkdS (w : World) (A : Option Addr) (c : Nat) (L : List (Value × Nat)) : Prop where
  cap : L.length ≤ c ∧ c ≤ 2 ^ 63 - 1
  few : L.length ≤ 250
  row : ∀ i (h : i < L.length), ∃ vb, A = some ⟨vb, 0, none⟩ ∧ vb < w.heap.size ∧ w.cell? ⟨vb, i, none⟩ = some L[i].1
  lit : ∀ i (h : i < L.length), ∃ A' c', L[i].1 = .slice A' L[i].2 c'
  slc : ∀ i (h : i < L.length), Slc w 8 L[i].1 L[i].2 (scs (mkS i 0 L[i].2))
  len : ∀ i (h : i < L.length), L[i].2 ≤ 1000000
theorem MkdS.keep0 {w w' : World} {A : Option Addr} {c : Nat} {L : List (Value × Nat)} (h : MkdS w A c L) (k : Only [] w w') : MkdS w' A c L :=
  ⟨h.cap, h.few, fun i hi => by
    obtain ⟨vb, e, hl, hc⟩ := h.row i hi
    exact ⟨vb, e, Nat.lt_of_lt_of_le hl k.size, (k.cell hl (by simp)).trans hc⟩, h.lit, fun i hi => (h.slc i hi).only k (by simp), h.len⟩
set_option maxRecDepth 100000 in
set_option maxHeartbeats 500000 in
theorem markedS_any {w : World} {A : Option Addr} {c : Nat} {L : List (Value × Nat)} (h : MkdS w A c L) :
    Calls Tryz.prog 94 #[.slice A L.length c] w fun e w' => e = .returned (.bool true) ∧ Only [] w w' := by
  obtain ⟨hc1, hc2⟩ := h.cap
  have hfew := h.few
  have HM := Lib.hid h
  clear h
  go_enter Tryz.func94, Tryz.ntmps94
  go_wp2
  go_loopw [3] (fun iv wr => ∃ i : Nat, i ≤ L.length ∧ iv = .int .i64 i ∧ Only [] w wr) (fun iv _ => L.length - (intOf iv).toNat)
  case atStart => exact ⟨0, Nat.zero_le _, rfl, Only.refl _ _⟩
  case round =>
    obtain ⟨i, hi, rfl, hO⟩ := hrel
    by_cases hlt : i < L.length
    · obtain ⟨vb, rfl, hvb, hcell⟩ := (HM.out.keep0 hO).row i hlt
      have hsl := (HM.out.keep0 hO).slc i hlt
      obtain ⟨A', c', hlit⟩ := HM.out.lit i hlt
      have hlen := HM.out.len i hlt
      obtain ⟨n, hn⟩ : ∃ n, n = L[i].2 := ⟨_, rfl⟩
      obtain ⟨v, hv⟩ : ∃ v, v = L[i].1 := ⟨_, rfl⟩
      rw [← hn] at hsl hlit hlen
      rw [← hv] at hsl hlit hcell
      rw [hlit] at hsl hcell
      have hmk : (mkS i 0 n).length = n := mkS_len _ _ _
      have HMk := Lib.hid (fun W => show Calls Tryz.prog 139 #[.int .i64 i, .int .i64 0, .int .i64 n] W fun e w' => ∃ A c, e = .returned (.slice A n c) ∧ w'.ownsRow W.heap.size 66 8 (.slice A n c) n (scs (mkS i 0 n)) ∧ Only [] W w' from markS_any W i 0 n (by omega) (by omega))
      have HSm := Lib.hid (fun (W : World) (hW : Only [] wr W) (v2 : Value) (h2 : Slc W 8 v2 n (scs (mkS i 0 n))) => sameSt_refl (l := mkS i 0 n) (v1 := .slice A' n c') (v2 := v2) (by rw [hmk]; exact hsl.only hW (by simp)) (by rw [hmk]; exact h2) (by rw [hmk]; omega))
      have d1 := Within.cell (S := []) hcell (by simp)
      clear hsl hcell hlit hn hv hmk
      go_wp2_with fail
      refine wp_region_in [] [0, 1, 2, 3, 4, 5, 6, 7, 8, 9] [10, 11, 12] [] (by kernel_rfl) (by kernel_rfl) (by intro c d u a w h; cases d <;> exact h) ?_
      show wpQuiet _ _ _ _ [_, _, _, _, _, _, _, _, _, _] _
      repeat (go_big_quiet_step (fail))
      refine wpQuiet_nil ?_
      clear d1
      show wpList _ _ _ [_] _ _
      go_wp2_with fail
      refine (HMk.out _).mono ?_
      rintro e w1 ⟨Am, cm, rfl, hom, k1⟩
      have k1' := (Only.refl [] wr).drew.trans k1
      go_wp2_with fail
      refine check_of (S := []) k1' ?_
      show wpList _ _ _ [_] _ _
      go_wp2_with fail
      refine (HSm.out _ k1' _ (Slc.of_own hom).1).mono ?_
      rintro e w2 ⟨rfl, k2⟩
      have k2' := k1'.trans k2
      go_wp2_with fail
      refine check_of (S := []) k2' ?_
      show wpList _ _ _ [_] _ _
      go_wp2_with fail
      refine check_last (S := []) k2' (fun _ _ q => q) ?_
      clear HSm HMk k1 k2 k1' hom
      go_wp2
      exact ⟨⟨i + 1, hlt, by simp, hO.trans k2'⟩, by simp [intOf]; omega⟩
    · clear HM
      go_wp2
      go_ret
      exact ⟨rfl, hO⟩
/-- The marked lists behind putStored are marked. -/
theorem PS.mkd {w : World} {bb : Nat} {cs : Array Value} {A : Option Addr} {c : Nat} {I : List (Value × List StoredR)} (h : PS w bb cs A c (pmS I.length I)) : MkdS w A c (I.map (fun p => (p.1, p.2.length))) := by
  have hcap := h.cap
  unfold maxLen at hcap
  rw [pmS_len] at hcap
  refine ⟨by rw [List.length_map]; exact hcap, by rw [List.length_map]; have := h.few; rwa [pmS_len] at this, fun i hi => ?_, fun i hi => ?_, fun i hi => ?_, fun i hi => ?_⟩
  all_goals
    have hi2 : i < I.length := by simpa using hi
    have hi3 : i < (pmS I.length I).length := by rw [pmS_len]; exact hi2
    have hg : (pmS I.length I)[i] = (I[i].1, mkS i 0 I[i].2.length) := by rw [pmS_get _ _ _ hi2 hi3, if_pos hi2]
    have hm : (I[i].1, mkS i 0 I[i].2.length) ∈ pmS I.length I := by rw [← hg]; exact List.getElem_mem hi3
    rw [List.getElem_map]
  · obtain ⟨vb, e, hl, _, hc⟩ := h.row i hi3
    rw [hg] at hc
    exact ⟨vb, e, hl, hc⟩
  · obtain ⟨A', c', e⟩ := h.k.lit _ hm
    simp only [mkS_len] at e
    exact ⟨A', c', e⟩
  · have := (Slc.of_own (h.k.own _ hm)).1
    simp only [mkS_len] at this
    exact this
  · have hll := h.ci _ hm
    simp only [mkS_len] at hll
    simp only
    omega
end Go.Proofs.YtikboecmcbcghaaGreat
/- The book: growing a list of stored events, plain part. -/
set_option linter.unusedVariables false
set_option linter.unusedSimpArgs false
namespace Go.Proofs.YtikboecmcbcghaaGreat
open Go.RowKit Go Go.Sort
/-- A list on its way to be grown. -/
structure GrInS (w0 W : World) (i n : Nat) (Ap : Option Addr) (cp : Nat) (nt : Nat) (Al : Option Addr) (cl : Nat) : Prop where
  own : W.ownsRow 0 66 8 (.slice Al nt cl) nt (scs (mkS i 0 nt))
  le : n ≤ nt
  blk : ∀ b, (Value.slice Al nt cl).ownBlock = some b → (Value.slice Ap n cp).ownBlock = some b ∨ w0.heap.size ≤ b
  only : Only (Value.slice Ap n cp).ownBlock.toList w0 W
  old : Slc W 8 (.slice Ap n cp) n (scs (mkS i 0 n))
  zero : ∀ b off, Ap = some ⟨b, off, none⟩ → off = 0
theorem scs_app (l m : List StoredR) : scs (l ++ m) = scs l ++ scs m := by simp [scs]
theorem scs_take (i n m : Nat) (h : n ≤ m) : (scs (mkS i 0 m)).take (n * 8) = scs (mkS i 0 n) := by
  obtain ⟨k, rfl⟩ : ∃ k, m = n + k := ⟨m - n, by omega⟩
  rw [← mkS_app, scs_app, List.take_append_of_le_length (by rw [scs_len, mkS_len]; exact Nat.le_refl _), List.take_of_length_le (by rw [scs_len, mkS_len]; exact Nat.le_refl _)]
theorem GrInS.step {w0 W w1 : World} {i n cp nt cl q cm : Nat} {Ap Al Am : Option Addr} (h : GrInS w0 W i n Ap cp nt Al cl) (k1 : Only [] W w1) (hm : w1.ownsRow W.heap.size 66 8 (.slice Am q cm) q (scs (mkS i nt q))) (hb : nt + q ≤ 2000000) :
    ∃ A' c' w2, (Builtin.append_ #[28, 28] 28 #[.slice Al nt cl, .slice Am q cm]).run Tryz.prog w1 = .ok (.slice A' (nt + q) c') w2 ∧ GrInS w0 w2 i n Ap cp (nt + q) A' c' := by
  have hl1 := own_only h.own k1 (by simp)
  have hms := (Slc.of_own hm).1
  obtain ⟨A', c', w2, hr, ho2, hO, hf⟩ := run_app (P := Tryz.prog) 28 28 0 66 (.agg #[.int .i64 0, .string ⟨#[]⟩, .string ⟨#[]⟩, .float .f64 0, .string ⟨#[]⟩, .int .i64 0, .int .i64 0, .int .i64 0]) 8 88 Tryz.underlying28 infoSt rfl (by decide) hl1 hms (scs_one _) (by omega) (by unfold maxLen; omega) (Nat.zero_le _)
  have hold := run_app_old (P := Tryz.prog) 28 28 0 66 (.agg #[.int .i64 0, .string ⟨#[]⟩, .string ⟨#[]⟩, .float .f64 0, .string ⟨#[]⟩, .int .i64 0, .int .i64 0, .int .i64 0]) 8 88 Tryz.underlying28 infoSt rfl (by decide) hl1 hms (scs_one _) (by omega) (by unfold maxLen; omega) (Nat.zero_le _) hr ho2
  have hcs : scs (mkS i 0 nt) ++ scs (mkS i nt q) = scs (mkS i 0 (nt + q)) := by
    rw [← mkS_app i 0 nt q, Nat.zero_add, scs_app]
  rw [hcs] at ho2
  have hsz := h.only.size
  have hsz1 := k1.size
  refine ⟨A', c', w2, hr, ho2, by have := h.le; omega, fun b z => ?_, ?_, keep_oldS (h.old.only k1 (by simp)) h.zero hl1 (scs_take i n nt h.le) h.le hO hold, h.zero⟩
  · rcases hf b z with y | y
    · exact h.blk b y
    · exact .inr (by omega)
  · refine (h.only.trans k1.of_nil).step hO (fun b z => ?_)
    rcases h.blk b (by simpa using z) with y | y
    · exact .inl (by simp [y])
    · exact .inr y
end Go.Proofs.YtikboecmcbcghaaGreat
/- The book: growStored, plain part. -/
set_option linter.unusedVariables false
set_option linter.unusedSimpArgs false
namespace Go.Proofs.YtikboecmcbcghaaGreat
open Go.RowKit Go Go.Sort
/-- The lists that are grown so far. -/
structure GrOS (w W : World) (J : List (Value × Nat)) (i : Nat) (O : List (Value × Nat)) (Ao : Option Addr) (co : Nat) : Prop where
  olen : O.length = i
  out : W.ownsRow w.heap.size 28 1 (.slice Ao i co) i (O.map (·.1))
  two : ∀ k (h : k < O.length) (hk : k < J.length), O[k].2 = J[k].2 + 72
  lit : ∀ k (h : k < O.length), ∃ A' c', O[k].1 = .slice A' O[k].2 c'
  slc : ∀ k (h : k < O.length), Slc W 8 O[k].1 O[k].2 (scs (mkS k 0 O[k].2))
  typ : ∀ k (h : k < O.length) b, O[k].1.ownBlock = some b → ∃ cur, Blk W b 66 cur
  blk : ∀ k (h : k < O.length) (hk : k < J.length) b, O[k].1.ownBlock = some b → J[k].1.ownBlock = some b ∨ w.heap.size ≤ b
  old : ∀ k (hk : k < J.length), k < i → Slc W 8 J[k].1 J[k].2 (scs (mkS k 0 J[k].2))
  rest : ∀ k (hk : k < J.length), i ≤ k → W.ownsRow 0 66 8 J[k].1 J[k].2 (scs (mkS k 0 J[k].2))
/-- The lists, as they were when growing began. -/
structure GrJS (w : World) (J : List (Value × Nat)) : Prop where
  own : ∀ k (hk : k < J.length), w.ownsRow 0 66 8 J[k].1 J[k].2 (scs (mkS k 0 J[k].2))
  lit : ∀ k (hk : k < J.length), ∃ A' c', J[k].1 = .slice A' J[k].2 c'
  dis : ∀ k l (hk : k < J.length) (hl : l < J.length), k ≠ l → ∀ b, J[k].1.ownBlock = some b → J[l].1.ownBlock ≠ some b
  len : ∀ k (hk : k < J.length), J[k].2 ≤ 900000
  few : J.length ≤ 250
theorem GrJS.start {w : World} {J : List (Value × Nat)} (h : GrJS w J) : GrOS w w J 0 [] none 0 :=
  ⟨rfl, World.ownsRow_nil _ _ _ _, fun k q => absurd q (Nat.not_lt_zero _), fun k q => absurd q (Nat.not_lt_zero _), fun k q => absurd q (Nat.not_lt_zero _), fun k q => absurd q (Nat.not_lt_zero _), fun k q => absurd q (Nat.not_lt_zero _), fun k hk q => absurd q (Nat.not_lt_zero _), fun k hk _ => h.own k hk⟩
/-- One more list is grown, and put behind the others. -/
theorem GrOS.next {w W W3 w5 : World} {J O : List (Value × Nat)} {i co cp cl c5 : Nat} {Ao Ap Al A5 : Option Addr} (hJ : GrJS w J) (h : GrOS w W J i O Ao co) (hi : i < J.length) (hp : J[i].1 = .slice Ap J[i].2 cp) (hW : w.heap.size ≤ W.heap.size) (hg : GrInS W W3 i J[i].2 Ap cp (J[i].2 + 72) Al cl)
    (hO5 : Only (Value.slice Ao i co).ownBlock.toList (W3.alloc (.cells #[.slice Al (J[i].2 + 72) cl] 28)) w5) (ho5 : w5.ownsRow w.heap.size 28 1 (.slice A5 (i + 1) c5) (i + 1) (O.map (·.1) ++ [.slice Al (J[i].2 + 72) cl])) :
    GrOS w w5 J (i + 1) (O ++ [(.slice Al (J[i].2 + 72) cl, J[i].2 + 72)]) A5 c5 := by
  have hout := World.ownsRow.lt h.out
  have hpl := World.ownsRow.lt (hJ.own i hi)
  have ko : Only (Value.slice Ao i co).ownBlock.toList W3 w5 := (((Only.refl [] W3).alloc _).of_nil).trans hO5
  have hpW : ∀ b, J[i].1.ownBlock = some b → b < w.heap.size := fun b q => (hpl b q).2
  -- what lies in numbers is not turned by the list of lists
  have hnt : ∀ b cur, Blk W3 b 66 cur → b ∉ (Value.slice Ao i co).ownBlock.toList := fun b cur hb q => by
    have q' : (Value.slice Ao i co).ownBlock = some b := by simpa using q
    obtain ⟨c1, h1⟩ := own_type h.out q'
    have hbp : b ∉ (Value.slice Ap J[i].2 cp).ownBlock.toList := fun z => by
      have h2 := (hout b q').1
      have h3 := hpW b (by rw [hp]; simpa using z)
      omega
    exact (hg.only.blk h1 hbp).other hb (by decide) rfl
  have hOl : (O ++ [(Value.slice Al (J[i].2 + 72) cl, J[i].2 + 72)]).length = i + 1 := by rw [List.length_append, h.olen]; rfl
  have hget : ∀ k (hk : k < (O ++ [(Value.slice Al (J[i].2 + 72) cl, J[i].2 + 72)]).length), (∃ hk2 : k < O.length, (O ++ [(Value.slice Al (J[i].2 + 72) cl, J[i].2 + 72)])[k] = O[k]) ∨ (k = i ∧ (O ++ [(Value.slice Al (J[i].2 + 72) cl, J[i].2 + 72)])[k] = (.slice Al (J[i].2 + 72) cl, J[i].2 + 72)) := fun k hk => by
    by_cases q : k < O.length
    · exact .inl ⟨q, List.getElem_append_left q⟩
    · right
      have hki : k = i := by
        have := h.olen
        rw [hOl] at hk
        omega
      refine ⟨hki, ?_⟩
      rw [List.getElem_append_right (by omega)]
      simp
  have hOp : ∀ k (hk : k < O.length) b, O[k].1.ownBlock = some b → b ∉ (Value.slice Ap J[i].2 cp).ownBlock.toList := fun k hk b q z => by
    have z' : J[i].1.ownBlock = some b := by rw [hp]; simpa using z
    have hki : k < i := by rw [h.olen] at hk; exact hk
    rcases h.blk k hk (by omega) b q with y | y
    · exact hJ.dis k i (by omega) hi (by omega) b y z'
    · have := hpW b z'
      omega
  have hJp : ∀ k (hk : k < J.length), k ≠ i → ∀ b, J[k].1.ownBlock = some b → b ∉ (Value.slice Ap J[i].2 cp).ownBlock.toList := fun k hk hki b q z => hJ.dis k i hk hi hki b q (by rw [hp]; simpa using z)
  have hJo : ∀ k (hk : k < J.length) b, J[k].1.ownBlock = some b → b ∉ (Value.slice Ao i co).ownBlock.toList := fun k hk b q z => by
    have h1 := (hout b (by simpa using z)).1
    have h2 := (World.ownsRow.lt (hJ.own k hk) b q).2
    omega
  have hlt3 := World.ownsRow.lt hg.own
  refine ⟨hOl, by rw [List.map_append]; exact ho5, fun k hk hkJ => ?_, fun k hk => ?_, fun k hk => ?_, fun k hk b q => ?_, fun k hk hkJ b q => ?_, fun k hk hki => ?_, fun k hk hki => ?_⟩
  · rcases hget k hk with ⟨hk2, e⟩ | ⟨e1, e⟩
    · rw [e]; exact h.two k hk2 hkJ
    · subst e1; rw [e]
  · rcases hget k hk with ⟨hk2, e⟩ | ⟨e1, e⟩
    · rw [e]; exact h.lit k hk2
    · rw [e]; exact ⟨Al, cl, rfl⟩
  · rcases hget k hk with ⟨hk2, e⟩ | ⟨e1, e⟩
    · rw [e]
      refine ((h.slc k hk2).only hg.only (fun b q => hOp k hk2 b q)).only ko (fun b q => ?_)
      obtain ⟨cur, hb⟩ := h.typ k hk2 b q
      exact hnt b cur (hg.only.blk hb (hOp k hk2 b q))
    · rw [e]
      subst e1
      refine (Slc.of_own hg.own).1.only ko (fun b q => ?_)
      obtain ⟨cur, hb⟩ := own_type hg.own q
      exact hnt b cur hb
  · rcases hget k hk with ⟨hk2, e⟩ | ⟨e1, e⟩
    · rw [e] at q
      obtain ⟨cur, hb⟩ := h.typ k hk2 b q
      have hb3 := hg.only.blk hb (hOp k hk2 b q)
      exact ⟨cur, ko.blk hb3 (hnt b cur hb3)⟩
    · rw [e] at q
      obtain ⟨cur, hb⟩ := own_type hg.own q
      exact ⟨cur, ko.blk hb (hnt b cur hb)⟩
  · rcases hget k hk with ⟨hk2, e⟩ | ⟨e1, e⟩
    · rw [e] at q; exact h.blk k hk2 hkJ b q
    · rw [e] at q
      subst e1
      rcases hg.blk b q with y | y
      · exact .inl (by rw [hp]; exact y)
      · exact .inr (by omega)
  · by_cases e : k = i
    · subst e
      have ho := hg.old
      rw [← hp] at ho
      exact ho.only ko (fun b q => hJo k hk b q)
    · exact ((h.old k hk (by omega)).only hg.only (fun b q => hJp k hk e b q)).only ko (fun b q => hJo k hk b q)
  · have hne : k ≠ i := by omega
    exact own_only (own_only (h.rest k hk (by omega)) hg.only (fun b q => hJp k hk hne b q)) ko (fun b q => hJo k hk b q)
end Go.Proofs.YtikboecmcbcghaaGreat
/- The book: growStored, the walk. -/
set_option linter.unusedVariables false
set_option linter.unusedSimpArgs false
namespace Go.Proofs.YtikboecmcbcghaaGreat
open Go.RowKit Go Go.Sort
set_option maxRecDepth 100000 in
set_option maxHeartbeats 400000 in
theorem growSt_any {w : World} {bb : Nat} {cs : Array Value} {A : Option Addr} {c : Nat} {J : List (Value × Nat)} (hblk : Blk w bb 40 cs) (hat : cs[4]? = some (.slice A J.length c)) (hcap : J.length ≤ c ∧ c ≤ 2 ^ 63 - 1)
    (hri : w.ownsRow 0 28 1 (.slice A J.length c) J.length (J.map (·.1))) (hJ : GrJS w J) :
    Calls Tryz.prog 88 #[.pointer (some ⟨bb, 0, none⟩)] w fun e w' => ∃ Ao co, e = .returned (.slice Ao J.length co) ∧ (∃ O, GrOS w w' J J.length O Ao co) ∧ Only (blocksJ J) w w' := by
  have hfew := hJ.few
  obtain ⟨hc1, hc2⟩ := hcap
  have g2 : w.cell? ⟨bb, 4, none⟩ = some (.slice A J.length c) := by rw [hblk.cell 4]; exact hat
  have hSJ : ∀ b ∈ blocksJ J, (∃ cur, Blk w b 66 cur) ∧ b < w.heap.size := fun b q => by
    obtain ⟨p, hp, e⟩ := mem_blocksJ.1 q
    obtain ⟨k, hk, rfl⟩ := List.getElem_of_mem hp
    exact ⟨own_type (hJ.own k hk) e, (World.ownsRow.lt (hJ.own k hk) b e).2⟩
  have hbn : bb ∉ blocksJ J := fun q => by
    obtain ⟨cur, hc⟩ := (hSJ bb q).1
    exact hc.other hblk (by decide) rfl
  have hbl := hblk.lt
  have HJ := Lib.hid hJ
  have HRi := Lib.hid hri
  clear hat hJ hri
  go_enter Tryz.func88, Tryz.ntmps88
  go_wp2
  go_loopw [3, 4] (fun ov iv wr => ∃ (i : Nat) (Ao : Option Addr) (co : Nat), i ≤ J.length ∧ ov = .slice Ao i co ∧ iv = .int .i64 i ∧ Hid (∃ O, GrOS w wr J i O Ao co) ∧ Only (blocksJ J) w wr) (fun _ iv _ => J.length - (intOf iv).toNat)
  case atStart => exact ⟨0, none, 0, Nat.zero_le _, rfl, rfl, ⟨[], HJ.out.start⟩, Only.refl _ _⟩
  case round =>
    obtain ⟨i, Ao, co, hi, rfl, rfl, hG, hO⟩ := hrel
    have k2 : wr.cell? ⟨bb, 4, none⟩ = some (.slice A J.length c) := (hO.cell hbl hbn).trans g2
    have hsz := hO.size
    by_cases hlt : i < J.length
    · obtain ⟨vb, rfl, hvb, hvc⟩ := row_at HRi.out i hlt
      have hvn : vb ∉ blocksJ J := fun q => by
        obtain ⟨cur, hc⟩ := (hSJ vb q).1
        obtain ⟨c2, h2⟩ := own_type (g := vb) HRi.out rfl
        exact hc.other h2 (by decide) rfl
      rw [List.getElem?_map, List.getElem?_eq_getElem hlt] at hvc
      obtain ⟨Ap, cp, hp⟩ := HJ.out.lit i hlt
      have hpl := HJ.out.len i hlt
      have hown := HJ.out.own i hlt
      have hrest : ∃ O, GrOS w wr J i O Ao co := hG.out
      have hro : wr.ownsRow 0 66 8 J[i].1 J[i].2 (scs (mkS i 0 J[i].2)) := by
        obtain ⟨O, hOx⟩ := hrest
        exact hOx.rest i hlt (Nat.le_refl _)
      have hvc' : wr.cell? ⟨vb, i, none⟩ = some (.slice Ap J[i].2 cp) := by
        rw [hO.cell (by exact hvb) hvn, hvc, ← hp]
        rfl
      obtain ⟨n, hn⟩ : ∃ n, n = J[i].2 := ⟨_, rfl⟩
      rw [← hn] at hpl hvc'
      rw [hp, ← hn] at hro
      have hzero : ∀ b off, Ap = some ⟨b, off, none⟩ → off = 0 := fun b off e => by
        rcases hro.2 with ⟨e2, _⟩ | ⟨g, cap, cur, e2, _⟩
        · injection e2 with q1 _ _
          rw [e] at q1
          cases q1
        · injection e2 with q1 _ _
          rw [e] at q1
          injection q1 with q1
          injection q1 with _ q2
      have hst : GrInS wr wr i n Ap cp n Ap cp := ⟨hro, Nat.le_refl _, fun b q => .inl q, Only.refl _ _, (Slc.of_own hro).1, hzero⟩
      have hpS : ∀ b, (Value.slice Ap n cp).ownBlock = some b → b ∈ blocksJ J := fun b q => mem_blocksJ.2 ⟨J[i], List.getElem_mem hlt, by rw [hp, ← hn]; exact q⟩
      have HNx := Lib.hid (fun (W3 w5 : World) (Al A5 : Option Addr) (cl c5 : Nat) (O : List (Value × Nat)) (hOx : GrOS w wr J i O Ao co) (hg : GrInS wr W3 i n Ap cp (n + 72) Al cl)
        (hO5 : Only (Value.slice Ao i co).ownBlock.toList (W3.alloc (.cells #[.slice Al (n + 72) cl] 28)) w5) (ho5 : w5.ownsRow w.heap.size 28 1 (.slice A5 (i + 1) c5) (i + 1) (O.map (·.1) ++ [.slice Al (n + 72) cl])) =>
        (show GrOS w w5 J (i + 1) (O ++ [(.slice Al (n + 72) cl, n + 72)]) A5 c5 from by
          subst hn
          exact GrOS.next HJ.out hOx hlt hp hsz hg hO5 ho5))
      have HG := Lib.hid hG
      have HVc := Lib.hid hvc
      have HSt := Lib.hid hst
      clear hvc hp hown hrest hro hn hst hG HVc hzero
      go_wp2_with fail
      go_loopw [5, 6] (fun lv tv W => ∃ (t nt : Nat) (Al : Option Addr) (cl : Nat), t ≤ 12 ∧ Hid (nt = n + t) ∧ lv = .slice Al nt cl ∧ tv = .int .i64 t ∧ GrInS wr W i n Ap cp nt Al cl) (fun _ tv _ => 12 - (intOf tv).toNat)
      case atStart => exact ⟨0, n, Ap, cp, by omega, rfl, rfl, rfl, HSt.out⟩
      case round =>
        obtain ⟨t, nt, Al, cl, ht, hnt, rfl, rfl, hg⟩ := hrel
        by_cases h12 : t < 12
        · have hb : nt ≤ 1100000 := by have := hnt.out; omega
          have h12' : (t : Int) < 12 := by omega
          have HM := Lib.hid (show Calls Tryz.prog 139 #[.int .i64 i, .int .i64 nt, .int .i64 1] wr fun e w' => ∃ A c, e = .returned (.slice A 1 c) ∧ w'.ownsRow wr.heap.size 66 8 (.slice A 1 c) 1 (scs (mkS i nt 1)) ∧ Only [] wr w' from markS_any wr i nt 1 (by omega) (by omega))
          have HGi := Lib.hid hg
          clear hg HNx HG HSt HRi HJ
          go_wp2_with fail
          refine HM.out.mono ?_
          rintro e w1 ⟨Am, cm, rfl, hom, k1⟩
          obtain ⟨A', c', w2, hr, hg2⟩ := HGi.out.step k1 hom (by omega)
          have HR := Lib.hid hr
          clear hr hom k1 HM
          go_wp2_with (at_builtin; refine Lib.wpList_append_run _ rfl (.tmp 27) (.tmp 31) 28 28 rfl _ _ rfl rfl _ _ HR.out ?_)
          exact ⟨⟨t + 1, nt + 1, A', c', by omega, (by have := hnt.out; show nt + 1 = n + (t + 1); omega), rfl, by simp, hg2⟩, by simp [intOf]; omega⟩
        · have ht12 : t = 12 := by omega
          have hne : nt = n + 12 := by have := hnt.out; omega
          subst hne
          subst ht12
          have HM := Lib.hid (show Calls Tryz.prog 139 #[.int .i64 i, .int .i64 ((n + 12 : Nat) : Int), .int .i64 60] wr fun e w' => ∃ A c, e = .returned (.slice A 60 c) ∧ w'.ownsRow wr.heap.size 66 8 (.slice A 60 c) 60 (scs (mkS i (n + 12) 60)) ∧ Only [] wr w' from markS_any wr i (n + 12) 60 (by omega) (by omega))
          have HGi := Lib.hid hg
          clear hg h12 hnt HSt
          go_wp2_with fail
          refine HM.out.mono ?_
          rintro e w1 ⟨Am, cm, rfl, hom, k1⟩
          obtain ⟨A', c', w2, hr, hg2⟩ := HGi.out.step k1 hom (by omega)
          rw [show n + 12 + 60 = n + 72 by omega] at hr hg2
          obtain ⟨O, hOx⟩ := HG.out.out
          have hout2 : w2.ownsRow w.heap.size 28 1 (.slice Ao i co) i (O.map (·.1)) := own_only hOx.out hg2.only (fun b q z => by
            have h1 := (World.ownsRow.lt hOx.out b q).1
            have h2 := (hSJ b (hpS b (by simpa using z))).2
            omega)
          have hz2 : w.heap.size ≤ w2.heap.size := Nat.le_trans hsz hg2.only.size
          obtain ⟨A5, c5, w5, hr5, ho5, hO5, _⟩ := run_app (P := Tryz.prog) (w := w2.alloc (.cells #[.slice A' (n + 72) c'] 28)) 35 35 w.heap.size 28 (.slice none 0 0) 1 24 Tryz.underlying35 infoZs rfl (by decide) (hout2.alloc _) (slc_new1 (w := w2) (e := 28) (cs := [.slice A' (n + 72) c']) rfl) (by simp [Value.oneCell']) (by omega) (by unfold maxLen; omega) (Nat.le_trans hz2 (by simp))
          have hN := HNx.out w2 w5 A' A5 c' c5 O hOx hg2 hO5 ho5
          have hOnly : Only (blocksJ J) w w5 := by
            refine ((hO.trans (hg2.only.mono (fun b q => hpS b (by simpa using q)))).alloc (.cells #[.slice A' (n + 72) c'] 28)).step hO5 (fun b q => .inr ?_)
            exact (World.ownsRow.lt hOx.out b (by simpa using q)).1
          have HR := Lib.hid hr
          have HR5 := Lib.hid hr5
          have HN := Lib.hid hN
          have HO := Lib.hid hOnly
          clear hr hr5 hN hOnly hom k1 HM hg2 hOx hout2 hO5 ho5 HNx HG HGi
          go_wp2_with (at_builtin; first
            | refine Lib.wpList_append_run _ rfl (.tmp 34) (.tmp 38) 28 28 rfl _ _ rfl rfl _ _ HR.out ?_
            | refine Lib.wpList_append_run _ rfl (.tmp 33) (.tmp 40) 35 35 rfl _ _ rfl rfl _ _ HR5.out ?_)
          exact ⟨⟨i + 1, A5, c5, hlt, rfl, by simp, ⟨_, HN.out⟩, HO.out⟩, by simp [intOf]; omega⟩
    · have hin : i = J.length := by omega
      subst hin
      have HF := Lib.hid (And.intro hG hO)
      clear hG hO hlt hi HRi HJ
      go_wp2
      go_ret
      exact ⟨_, _, rfl, HF.out.1.out, HF.out.2⟩
end Go.Proofs.YtikboecmcbcghaaGreat
/- The document's Do: what is refused, what is only marked, a stream that is deleted. -/
set_option linter.unusedVariables false
set_option linter.unusedSimpArgs false
namespace Go.Proofs.YtikboecmcbcghaaGreat
open Go Go.RowKit Go.Sort
theorem HasD.rbH {a w : World} {H : List Nat} {rb : Nat} {r : RS} (h : HasD a w H rb r) : rb ∈ H := by
  obtain ⟨⟨vl, vs, hA, rfl⟩, -, -⟩ := h
  simp [hD]
theorem HasD.nums {a w : World} {H : List Nat} {rb : Nat} {r : RS} (h : HasD a w H rb r) : w.cell? ⟨rb, 2, none⟩ = some (.int .i64 r.now) ∧ w.cell? ⟨rb, 3, none⟩ = some (.int .i64 r.done) ∧ w.frozen? ⟨rb, 2, none⟩ = false ∧ w.frozen? ⟨rb, 3, none⟩ = false := by
  obtain ⟨⟨vl, vs, hA, rfl⟩, -, -⟩ := h
  exact ⟨hA.blk.cell 2, hA.blk.cell 3, hA.blk.free 2, hA.blk.free 3⟩
theorem HasD.ls {a w : World} {H : List Nat} {rb : Nat} {r : RS} (h : HasD a w H rb r) : ∃ A c, w.cell? ⟨rb, 0, none⟩ = some (.slice A r.l.length c) ∧ r.l.length ≤ c ∧ c ≤ 2 ^ 63 - 1 := by
  obtain ⟨⟨vl, vs, hA, rfl⟩, -, -⟩ := h
  obtain ⟨A, c, e, h1, h2⟩ := own_form hA.l
  subst e
  exact ⟨A, c, hA.blk.cell 0, h1, by unfold maxLen at h2; exact h2⟩
section
variable {a w : World} {H : List Nat} {rb : Nat} {r : RS}
set_option maxRecDepth 100000 in
set_option maxHeartbeats 4000000 in
theorem ddo_bad (h : HasD a w H rb r) (c : Cmd) (v : Value) (he : Slc w 4 v c.events.length (c.events.flatMap EventR.cells)) (ho : CmdOk c) (hk : c.check ≠ 0) :
    Calls Tryz.prog 12 #[.pointer (some ⟨rb, 0, none⟩), c.val v] w fun e w' => e = .returned (Ans.val ⟨c.check, 0, 0, false⟩) ∧ DTo a w H rb r w' := by
  obtain ⟨A1, cap1, hev, hn3, hn4, hes⟩ := he.openE EventR.cells (fun _ => rfl)
  unfold maxLen at hn4
  subst hev
  have HCk := Lib.hid (fun (W : World) (hw : Only [] w W) => show Calls Tryz.prog 43 #[.agg #[.int .i64 c.kind, .int .i64 c.time, .string c.stream, .int .i64 c.expected, .slice A1 c.events.length cap1, .int .i64 c.mt.maxCount, .int .i64 c.mt.maxAge, .int .i64 c.mt.before]] W fun e w' => e = .returned (.int .i64 c.check) ∧ Only [] W w' from r7check_any c _ W (he.only0 hw) ho)
  have h2 : ∀ o1 o2, Only [] w ((w.alloc o1).alloc o2) := fun o1 o2 => ((Only.refl [] w).alloc o1).alloc o2
  have kC : ∀ cs t o2, Blk ((w.alloc (.cells cs t)).alloc o2) w.heap.size t cs := fun cs t o2 => ((Only.refl [] _).alloc o2).blk (Blk.new w t cs) (by simp)
  have kA : ∀ cs t o1, Blk ((w.alloc o1).alloc (.cells cs t)) (w.heap.size + 1) t cs := fun cs t o1 => by
    have := Blk.new (w.alloc o1) t cs
    simpa using this
  rw [show c.val (.slice A1 c.events.length cap1) = .agg #[.int .i64 c.kind, .int .i64 c.time, .string c.stream, .int .i64 c.expected, .slice A1 c.events.length cap1, .int .i64 c.mt.maxCount, .int .i64 c.mt.maxAge, .int .i64 c.mt.before] from rfl]
  have HT := Lib.hid (fun (W : World) (k : Only [] w W) => (show DTo a w H rb r W from ⟨H, h.keep0 k, Stepped.first0 k (Stepped.refl _ _)⟩))
  have hkb : ((c.check : Int) != 0) = true := by simpa using hk
  clear hk
  go_enter Tryz.func12, Tryz.ntmps12
  go_wp2_with fail
  refine (HCk.out _ (h2 _ _)).mono ?_
  rintro e1 w1 ⟨rfl, k1⟩
  have bA1 := k1.blk (kA _ _ _) (by simp)
  have hA1f := fun i => bA1.free i
  have hA1c := fun i => bA1.cell i
  go_wp2
  have hO1 : Only [] w w1 := (h2 _ _).trans k1
  have hD1 := h.keep0 hO1
  have hSt : Stepped w w1 H H := Stepped.first0 hO1 (Stepped.refl _ _)
  have hgH : w.heap.size + 1 ∉ H := fun q => by have := h.lt _ q; omega
  have haz : a.heap.size ≤ w.heap.size + 1 := by have := h.only.size; omega
  have hS4 := (((bA1.set 0 (.int .i64 c.check)).set 1 (.int .i64 0)).set 2 (.int .i64 0)).set 3 (.bool false)
  have hge : w.heap.size ≤ w.heap.size + 1 := by omega
  have hD4 := (((hD1.setB (k := 0) (u := .int .i64 c.check) hgH haz).setB (k := 1) (u := .int .i64 0) hgH haz).setB (k := 2) (u := .int .i64 0) hgH haz).setB (k := 3) (u := .bool false) hgH haz
  have hSt4 := (((hSt.setB (k := 0) (u := .int .i64 c.check) hge).setB (k := 1) (u := .int .i64 0) hge).setB (k := 2) (u := .int .i64 0) hge).setB (k := 3) (u := .bool false) hge
  have hc4 := hS4.cell
  refine bodyPost_ret (v := .agg #[.int .i64 c.check, .int .i64 0, .int .i64 0, .bool false]) (by simp [results, Tryz.results12, go_sem, hc4]) rfl ⟨?ans, _, hD4, hSt4⟩
  case ans => rfl
set_option maxRecDepth 100000 in
set_option maxHeartbeats 4000000 in
theorem ddo_mark (h : HasD a w H rb r) (hf : r.Fine) (hdb : 0 ≤ r.done ∧ r.done ≤ 1000000000) (c : Cmd) (v : Value) (he : Slc w 4 v c.events.length (c.events.flatMap EventR.cells)) (ho : CmdOk c) (hk : c.check = 0) (h4 : 4 ≤ c.kind) :
    Calls Tryz.prog 12 #[.pointer (some ⟨rb, 0, none⟩), c.val v] w fun e w' => e = .returned (Ans.val ⟨0, 0, r.l.length, false⟩) ∧ DTo a w H rb (r.tick c.time) w' := by
  obtain ⟨A1, cap1, hev, hn3, hn4, hes⟩ := he.openE EventR.cells (fun _ => rfl)
  unfold maxLen at hn4
  subst hev
  have HCk := Lib.hid (fun (W : World) (hw : Only [] w W) => show Calls Tryz.prog 43 #[.agg #[.int .i64 c.kind, .int .i64 c.time, .string c.stream, .int .i64 c.expected, .slice A1 c.events.length cap1, .int .i64 c.mt.maxCount, .int .i64 c.mt.maxAge, .int .i64 c.mt.before]] W fun e w' => e = .returned (.int .i64 c.check) ∧ Only [] W w' from r7check_any c _ W (he.only0 hw) ho)
  have h2 : ∀ o1 o2, Only [] w ((w.alloc o1).alloc o2) := fun o1 o2 => ((Only.refl [] w).alloc o1).alloc o2
  have kC : ∀ cs t o2, Blk ((w.alloc (.cells cs t)).alloc o2) w.heap.size t cs := fun cs t o2 => ((Only.refl [] _).alloc o2).blk (Blk.new w t cs) (by simp)
  have kA : ∀ cs t o1, Blk ((w.alloc o1).alloc (.cells cs t)) (w.heap.size + 1) t cs := fun cs t o1 => by
    have := Blk.new (w.alloc o1) t cs
    simpa using this
  rw [show c.val (.slice A1 c.events.length cap1) = .agg #[.int .i64 c.kind, .int .i64 c.time, .string c.stream, .int .i64 c.expected, .slice A1 c.events.length cap1, .int .i64 c.mt.maxCount, .int .i64 c.mt.maxAge, .int .i64 c.mt.before] from rfl]
  rw [hk] at HCk
  have hHl := h.lt
  go_enter Tryz.func12, Tryz.ntmps12
  go_wp2_with fail
  refine (HCk.out _ (h2 _ _)).mono ?_
  rintro e1 w1 ⟨rfl, k1⟩
  go_wp2_with fail
  have hO1 : Only [] w w1 := (h2 _ _).trans k1
  have bC1 := k1.blk (kC _ _ _) (by simp)
  have bA1 := k1.blk (kA _ _ _) (by simp)
  have hD1 := h.keep0 hO1
  obtain ⟨M2, M3, X2, X3⟩ := hD1.nums
  have hrbH := h.rbH
  have hrbl := h.lt rb hrbH
  obtain ⟨t, ht⟩ : ∃ t, t = max r.now c.time := ⟨_, rfl⟩
  have hmx : (if r.now < c.time then c.time else r.now) = t := by rw [ht]; split <;> omega
  have hmy : (if c.time > r.now then c.time else r.now) = t := hmx
  have HTt := Lib.hid ht
  clear ht
  have C1 := Within.cell (S := []) (bC1.cell 1) (by simp)
  have D2 := Within.cell (S := []) M2 (by simp)
  have D3 := Within.cell (S := []) M3 (by simp)
  refine wp_region_in [] [0, 1, 2, 3, 4, 5, 6, 7, 8, 9] [] [10] (by kernel_rfl) (by kernel_rfl) (by intro c d u a w h; cases d <;> exact h) ?_
  show wpQuiet _ _ _ _ [_, _, _, _, _, _, _, _, _, _] _
  repeat (go_big_quiet_step (fail))
  refine wpQuiet_nil ?_
  have N2 := M2
  have N3 := M3
  have Y2 := X2
  have Y3 := X3
  clear C1 D2 D3
  show wpList _ _ _ [_] _ _
  have hne1 : w.heap.size ≠ rb := by omega
  have hne2 : w.heap.size + 1 ≠ rb := by omega
  have hdn := IntWalk.i64_in (r.done + 1) ⟨by omega, by omega⟩
  go_upto_region 6 with (fail)
  have hSt1 : Stepped w w1 H H := Stepped.first0 hO1 (Stepped.refl _ _)
  have q2 := hD1.setNow (max r.now c.time)
  have q3 := q2.1.setDone (r.done + 1)
  have hD5 := q3.1.keep0 (Only.refl [] _).drew
  have hS5 := (q2.2.trans q3.2).then0 (Only.refl [] _).drew
  have hgC : w.heap.size ∉ H := fun q => by have := hHl _ q; omega
  have hgA : w.heap.size + 1 ∉ H := fun q => by have := hHl _ q; omega
  have haz : a.heap.size ≤ w.heap.size + 1 := by have := h.only.size; omega
  have bC5 := (hS5.keepB bC1 hgC).1
  have bA5 := (hS5.keepB bA1 hgA).1
  have hSt5 := hSt1.trans hS5
  obtain ⟨W5, hW5⟩ : ∃ W, W = ((w1.setCell ⟨rb, 2, none⟩ (.int .i64 (max r.now c.time))).setCell ⟨rb, 3, none⟩ (.int .i64 (r.done + 1))).drew := ⟨_, rfl⟩
  rw [← hW5] at hD5 hS5 bC5 bA5 hSt5 ⊢
  rw [show ({ ({ r with now := max r.now c.time } : RS) with done := r.done + 1 } : RS) = r.tick c.time from rfl] at hD5
  clear hW5 q2 q3 hS5 hSt1 M2 M3 X2 X3 N2 N3 Y2 Y3 bC1 bA1 hmx hmy HTt hD1 k1
  obtain ⟨Al, cl, hls, hl1, hl2⟩ := hD5.ls
  have hl1' : r.l.length ≤ cl := hl1
  have hls' : W5.cell? ⟨rb, 0, none⟩ = some (.slice Al r.l.length cl) := hls
  have hC5 := fun i => bC5.cell i
  have hA5c := fun i => bA5.cell i
  have hA5f := fun i => bA5.free i
  clear hls hl1
  go_wp2
  have hS4 := (((bA5.set 0 (.int .i64 0)).set 1 (.int .i64 0)).set 2 (.int .i64 r.l.length)).set 3 (.bool false)
  have hge : w.heap.size ≤ w.heap.size + 1 := by omega
  have hD4 := (((hD5.setB (k := 0) (u := .int .i64 0) hgA haz).setB (k := 1) (u := .int .i64 0) hgA haz).setB (k := 2) (u := .int .i64 r.l.length) hgA haz).setB (k := 3) (u := .bool false) hgA haz
  have hSt4 := (((hSt5.setB (k := 0) (u := .int .i64 0) hge).setB (k := 1) (u := .int .i64 0) hge).setB (k := 2) (u := .int .i64 r.l.length) hge).setB (k := 3) (u := .bool false) hge
  have hc4 := hS4.cell
  refine bodyPost_ret (v := .agg #[.int .i64 0, .int .i64 0, .int .i64 r.l.length, .bool false]) (by simp [results, Tryz.results12, go_sem, hc4]) rfl ⟨?ans, _, hD4, hSt4⟩
  case ans => rfl
set_option maxRecDepth 100000 in
set_option maxHeartbeats 4000000 in
theorem ddo_gone (h : HasD a w H rb r) (hf : r.Fine) (hs : r.s.length + 1 ≤ 1000000) (hdb : 0 ≤ r.done ∧ r.done ≤ 1000000000) (c : Cmd) (v : Value) (he : Slc w 4 v c.events.length (c.events.flatMap EventR.cells)) (ho : CmdOk c) (hk : c.check = 0) (h4 : c.kind < 4) (hd : (r.get c.stream).deleted = true) :
    Calls Tryz.prog 12 #[.pointer (some ⟨rb, 0, none⟩), c.val v] w fun e w' => e = .returned (Ans.val ⟨23, 0, 0, false⟩) ∧ DTo a w H rb ((r.tick c.time).keep c.stream) w' := by
  have hft := hf.tick (check_kind hk).2.2
  obtain ⟨A1, cap1, hev, hn3, hn4, hes⟩ := he.openE EventR.cells (fun _ => rfl)
  unfold maxLen at hn4
  subst hev
  have HCk := Lib.hid (fun (W : World) (hw : Only [] w W) => show Calls Tryz.prog 43 #[.agg #[.int .i64 c.kind, .int .i64 c.time, .string c.stream, .int .i64 c.expected, .slice A1 c.events.length cap1, .int .i64 c.mt.maxCount, .int .i64 c.mt.maxAge, .int .i64 c.mt.before]] W fun e w' => e = .returned (.int .i64 c.check) ∧ Only [] W w' from r7check_any c _ W (he.only0 hw) ho)
  have h2 : ∀ o1 o2, Only [] w ((w.alloc o1).alloc o2) := fun o1 o2 => ((Only.refl [] w).alloc o1).alloc o2
  have kC : ∀ cs t o2, Blk ((w.alloc (.cells cs t)).alloc o2) w.heap.size t cs := fun cs t o2 => ((Only.refl [] _).alloc o2).blk (Blk.new w t cs) (by simp)
  have kA : ∀ cs t o1, Blk ((w.alloc o1).alloc (.cells cs t)) (w.heap.size + 1) t cs := fun cs t o1 => by
    have := Blk.new (w.alloc o1) t cs
    simpa using this
  rw [show c.val (.slice A1 c.events.length cap1) = .agg #[.int .i64 c.kind, .int .i64 c.time, .string c.stream, .int .i64 c.expected, .slice A1 c.events.length cap1, .int .i64 c.mt.maxCount, .int .i64 c.mt.maxAge, .int .i64 c.mt.before] from rfl]
  rw [hk] at HCk
  have hHl := h.lt
  have hfd3 := fldD3
  go_enter Tryz.func12, Tryz.ntmps12
  go_wp2_with fail
  refine (HCk.out _ (h2 _ _)).mono ?_
  rintro e1 w1 ⟨rfl, k1⟩
  go_wp2_with fail
  have hO1 : Only [] w w1 := (h2 _ _).trans k1
  have bC1 := k1.blk (kC _ _ _) (by simp)
  have bA1 := k1.blk (kA _ _ _) (by simp)
  have hD1 := h.keep0 hO1
  obtain ⟨M2, M3, X2, X3⟩ := hD1.nums
  have hrbH := h.rbH
  have hrbl := h.lt rb hrbH
  obtain ⟨t, ht⟩ : ∃ t, t = max r.now c.time := ⟨_, rfl⟩
  have hmx : (if r.now < c.time then c.time else r.now) = t := by rw [ht]; split <;> omega
  have hmy : (if c.time > r.now then c.time else r.now) = t := hmx
  have HTt := Lib.hid ht
  clear ht
  have C1 := Within.cell (S := []) (bC1.cell 1) (by simp)
  have D2 := Within.cell (S := []) M2 (by simp)
  have D3 := Within.cell (S := []) M3 (by simp)
  refine wp_region_in [] [0, 1, 2, 3, 4, 5, 6, 7, 8, 9] [] [10] (by kernel_rfl) (by kernel_rfl) (by intro c d u a w h; cases d <;> exact h) ?_
  show wpQuiet _ _ _ _ [_, _, _, _, _, _, _, _, _, _] _
  repeat (go_big_quiet_step (fail))
  refine wpQuiet_nil ?_
  have N2 := M2
  have N3 := M3
  have Y2 := X2
  have Y3 := X3
  clear C1 D2 D3
  show wpList _ _ _ [_] _ _
  have hne1 : w.heap.size ≠ rb := by omega
  have hne2 : w.heap.size + 1 ≠ rb := by omega
  have hdn := IntWalk.i64_in (r.done + 1) ⟨by omega, by omega⟩
  go_upto_region 6 with (fail)
  have hSt1 : Stepped w w1 H H := Stepped.first0 hO1 (Stepped.refl _ _)
  have q2 := hD1.setNow (max r.now c.time)
  have q3 := q2.1.setDone (r.done + 1)
  have hD5 := q3.1.keep0 (Only.refl [] _).drew
  have hS5 := (q2.2.trans q3.2).then0 (Only.refl [] _).drew
  have hgC : w.heap.size ∉ H := fun q => by have := hHl _ q; omega
  have hgA : w.heap.size + 1 ∉ H := fun q => by have := hHl _ q; omega
  have haz : a.heap.size ≤ w.heap.size + 1 := by have := h.only.size; omega
  have bC5 := (hS5.keepB bC1 hgC).1
  have bA5 := (hS5.keepB bA1 hgA).1
  have hSt5 := hSt1.trans hS5
  obtain ⟨W5, hW5⟩ : ∃ W, W = ((w1.setCell ⟨rb, 2, none⟩ (.int .i64 (max r.now c.time))).setCell ⟨rb, 3, none⟩ (.int .i64 (r.done + 1))).drew := ⟨_, rfl⟩
  rw [← hW5] at hD5 hS5 bC5 bA5 hSt5 ⊢
  rw [show ({ ({ r with now := max r.now c.time } : RS) with done := r.done + 1 } : RS) = r.tick c.time from rfl] at hD5
  clear hW5 q2 q3 hS5 hSt1 M2 M3 X2 X3 N2 N3 Y2 Y3 bC1 bA1 hmx hmy HTt hD1 k1
  have HGt := dget_any hD5 c.stream
  unfold DStr.val at HGt
  rw [show ((r.tick c.time).get c.stream).deleted = true from hd] at HGt
  have HG := Lib.hid HGt
  have hC5 := fun i => bC5.cell i
  clear HGt
  go_wp2_with fail
  refine HG.out.mono ?_
  rintro e2 w8 ⟨rfl, k8⟩
  have hD8 := hD5.keep0 k8
  have bC8 := k8.blk bC5 (by simp)
  have bA8 := k8.blk bA5 (by simp)
  have hC8 := fun i => bC8.cell i
  have HKp := Lib.hid (dkeep_any hD8 c.stream hft.few hs (hft.mt _) (hft.kept _) hft.now)
  clear HG hC5
  go_wp2_with fail
  refine HKp.out.mono ?_
  rintro e3 w9 ⟨rfl, H9, hD9, hSt9⟩
  obtain ⟨bA9, hg9⟩ := hSt9.keepB bA8 hgA
  have hSt := (hSt5.then0 k8).trans hSt9
  have hA9f := fun i => bA9.free i
  have hA9c := fun i => bA9.cell i
  clear HKp hC8
  go_wp2
  have hS4 := (((bA9.set 0 (.int .i64 23)).set 1 (.int .i64 0)).set 2 (.int .i64 0)).set 3 (.bool false)
  have hge : w.heap.size ≤ w.heap.size + 1 := by omega
  have hD4 := (((hD9.setB (k := 0) (u := .int .i64 23) hg9 haz).setB (k := 1) (u := .int .i64 0) hg9 haz).setB (k := 2) (u := .int .i64 0) hg9 haz).setB (k := 3) (u := .bool false) hg9 haz
  have hSt4 := (((hSt.setB (k := 0) (u := .int .i64 23) hge).setB (k := 1) (u := .int .i64 0) hge).setB (k := 2) (u := .int .i64 0) hge).setB (k := 3) (u := .bool false) hge
  have hc4 := hS4.cell
  refine bodyPost_ret (v := .agg #[.int .i64 23, .int .i64 0, .int .i64 0, .bool false]) (by simp [results, Tryz.results12, go_sem, hc4]) rfl ⟨?ans, _, hD4, hSt4⟩
  case ans => rfl
end
end Go.Proofs.YtikboecmcbcghaaGreat
/- The document's Do: metadata, deletion. -/
set_option linter.unusedVariables false
set_option linter.unusedSimpArgs false
namespace Go.Proofs.YtikboecmcbcghaaGreat
open Go Go.RowKit Go.Sort
section
variable {a w : World} {H : List Nat} {rb : Nat} {r : RS}
set_option maxRecDepth 100000 in
set_option maxHeartbeats 4000000 in
theorem ddo_meta (h : HasD a w H rb r) (hf : r.Fine) (hs : r.s.length + 3 ≤ 1000000) (hdb : 0 ≤ r.done ∧ r.done ≤ 1000000000) (c : Cmd) (v : Value) (he : Slc w 4 v c.events.length (c.events.flatMap EventR.cells)) (ho : CmdOk c) (hk : c.check = 0) (h4 : c.kind = 2) (hd : (r.get c.stream).deleted = false) :
    Calls Tryz.prog 12 #[.pointer (some ⟨rb, 0, none⟩), c.val v] w fun e w' => e = .returned ((r.tick c.time).act c).1.val ∧ DTo a w H rb ((r.tick c.time).act c).2 w' := by
  have hb2 : (c.kind == 2) = true := by simpa using h4
  have hlt4 : c.kind < 4 := by omega
  have H4 := Lib.hid h4
  clear h4
  have hft := hf.tick (check_kind hk).2.2
  obtain ⟨A1, cap1, hev, hn3, hn4, hes⟩ := he.openE EventR.cells (fun _ => rfl)
  unfold maxLen at hn4
  subst hev
  have HCk := Lib.hid (fun (W : World) (hw : Only [] w W) => show Calls Tryz.prog 43 #[.agg #[.int .i64 c.kind, .int .i64 c.time, .string c.stream, .int .i64 c.expected, .slice A1 c.events.length cap1, .int .i64 c.mt.maxCount, .int .i64 c.mt.maxAge, .int .i64 c.mt.before]] W fun e w' => e = .returned (.int .i64 c.check) ∧ Only [] W w' from r7check_any c _ W (he.only0 hw) ho)
  have h2 : ∀ o1 o2, Only [] w ((w.alloc o1).alloc o2) := fun o1 o2 => ((Only.refl [] w).alloc o1).alloc o2
  have kC : ∀ cs t o2, Blk ((w.alloc (.cells cs t)).alloc o2) w.heap.size t cs := fun cs t o2 => ((Only.refl [] _).alloc o2).blk (Blk.new w t cs) (by simp)
  have kA : ∀ cs t o1, Blk ((w.alloc o1).alloc (.cells cs t)) (w.heap.size + 1) t cs := fun cs t o1 => by
    have := Blk.new (w.alloc o1) t cs
    simpa using this
  rw [show c.val (.slice A1 c.events.length cap1) = .agg #[.int .i64 c.kind, .int .i64 c.time, .string c.stream, .int .i64 c.expected, .slice A1 c.events.length cap1, .int .i64 c.mt.maxCount, .int .i64 c.mt.maxAge, .int .i64 c.mt.before] from rfl]
  rw [hk] at HCk
  have hHl := h.lt
  have hfd3 := fldD3
  go_enter Tryz.func12, Tryz.ntmps12
  go_wp2_with fail
  refine (HCk.out _ (h2 _ _)).mono ?_
  rintro e1 w1 ⟨rfl, k1⟩
  go_wp2_with fail
  have hO1 : Only [] w w1 := (h2 _ _).trans k1
  have bC1 := k1.blk (kC _ _ _) (by simp)
  have bA1 := k1.blk (kA _ _ _) (by simp)
  have hD1 := h.keep0 hO1
  obtain ⟨M2, M3, X2, X3⟩ := hD1.nums
  have hrbH := h.rbH
  have hrbl := h.lt rb hrbH
  obtain ⟨t, ht⟩ : ∃ t, t = max r.now c.time := ⟨_, rfl⟩
  have hmx : (if r.now < c.time then c.time else r.now) = t := by rw [ht]; split <;> omega
  have hmy : (if c.time > r.now then c.time else r.now) = t := hmx
  have HTt := Lib.hid ht
  clear ht
  have C1 := Within.cell (S := []) (bC1.cell 1) (by simp)
  have D2 := Within.cell (S := []) M2 (by simp)
  have D3 := Within.cell (S := []) M3 (by simp)
  refine wp_region_in [] [0, 1, 2, 3, 4, 5, 6, 7, 8, 9] [] [10] (by kernel_rfl) (by kernel_rfl) (by intro c d u a w h; cases d <;> exact h) ?_
  show wpQuiet _ _ _ _ [_, _, _, _, _, _, _, _, _, _] _
  repeat (go_big_quiet_step (fail))
  refine wpQuiet_nil ?_
  have N2 := M2
  have N3 := M3
  have Y2 := X2
  have Y3 := X3
  clear C1 D2 D3
  show wpList _ _ _ [_] _ _
  have hne1 : w.heap.size ≠ rb := by omega
  have hne2 : w.heap.size + 1 ≠ rb := by omega
  have hdn := IntWalk.i64_in (r.done + 1) ⟨by omega, by omega⟩
  go_upto_region 6 with (fail)
  have hSt1 : Stepped w w1 H H := Stepped.first0 hO1 (Stepped.refl _ _)
  have q2 := hD1.setNow (max r.now c.time)
  have q3 := q2.1.setDone (r.done + 1)
  have hD5 := q3.1.keep0 (Only.refl [] _).drew
  have hS5 := (q2.2.trans q3.2).then0 (Only.refl [] _).drew
  have hgC : w.heap.size ∉ H := fun q => by have := hHl _ q; omega
  have hgA : w.heap.size + 1 ∉ H := fun q => by have := hHl _ q; omega
  have haz : a.heap.size ≤ w.heap.size + 1 := by have := h.only.size; omega
  have bC5 := (hS5.keepB bC1 hgC).1
  have bA5 := (hS5.keepB bA1 hgA).1
  have hSt5 := hSt1.trans hS5
  obtain ⟨W5, hW5⟩ : ∃ W, W = ((w1.setCell ⟨rb, 2, none⟩ (.int .i64 (max r.now c.time))).setCell ⟨rb, 3, none⟩ (.int .i64 (r.done + 1))).drew := ⟨_, rfl⟩
  rw [← hW5] at hD5 hS5 bC5 bA5 hSt5 ⊢
  rw [show ({ ({ r with now := max r.now c.time } : RS) with done := r.done + 1 } : RS) = r.tick c.time from rfl] at hD5
  clear hW5 q2 q3 hS5 hSt1 M2 M3 X2 X3 N2 N3 Y2 Y3 bC1 bA1 hmx hmy HTt hD1 k1
  have HGt := dget_any hD5 c.stream
  unfold DStr.val at HGt
  rw [show ((r.tick c.time).get c.stream).deleted = false from hd] at HGt
  have HG := Lib.hid HGt
  have HOf := Lib.hid (fun (W : World) (k : Only [] W5 W) => dof_any (hD5.keep0 k) hft.few c.stream)
  have hC5 := fun i => bC5.cell i
  clear HGt
  go_wp2_with fail
  refine HG.out.mono ?_
  rintro e2 w8 ⟨rfl, k8⟩
  have bC8 := k8.blk bC5 (by simp)
  have hC8 := fun i => bC8.cell i
  clear HG hC5
  go_wp2_with fail
  refine (HOf.out _ k8).mono ?_
  rintro e3 w9 ⟨v6, rfl, hown6, k9⟩
  obtain ⟨A6, c6, rfl, hn6, hm6⟩ := own_form hown6
  unfold maxLen at hm6
  have hk9 := k8.trans k9
  have hD9 := hD5.keep0 hk9
  have hSt9 := hSt5.then0 hk9
  have bC9 := hk9.blk bC5 (by simp)
  have bA9 := hk9.blk bA5 (by simp)
  obtain ⟨Al, cl, hls, hl1, hl2⟩ := hD9.ls
  have hlf := hft.few
  have hofl : ((r.tick c.time).of c.stream).length ≤ 1000000 := Nat.le_trans (List.length_filter_le _ _) hft.few
  obtain ⟨R, hR⟩ : ∃ R, R = r.tick c.time := ⟨_, rfl⟩
  rw [← hR] at hown6 hn6 hofl hD9 hls hl1 hlf hft ⊢
  have HR := Lib.hid hR
  clear HOf hC8 bC5 bA5 bC8 hD5 hSt5 hk9 k8 k9 hR hf hd HCk
  have hC9 := fun i => bC9.cell i
  have hwm := IntWalk.i64_in (((R.of c.stream).length : Int) - 1) ⟨by omega, by omega⟩
  obtain ⟨nL, hnL⟩ : ∃ n, n = (R.of c.stream).length := ⟨_, rfl⟩
  obtain ⟨nA, hnA⟩ : ∃ n, n = R.l.length := ⟨_, rfl⟩
  rw [← hnL] at hn6 hofl hwm ⊢
  rw [← hnA] at hls hl1 hlf
  have HnL := Lib.hid hnL
  have HnA := Lib.hid hnA
  have HOwn6 := Lib.hid hown6
  clear hnL hnA hown6
  go_upto_region 14 with (fail)
  obtain ⟨W14, hW14⟩ : ∃ W, W = (w9.alloc (.cells #[.int .i64 0, .int .i64 nL, .int .i64 nA, .bool false] 54)).alloc (.cells #[.int .i64 22, .int .i64 ((nL : Int) - 1), .int .i64 0, .bool false] 54) := ⟨_, rfl⟩
  rw [← hW14]
  have k14 : Only [] w9 W14 := by rw [hW14]; exact ((Only.refl [] w9).alloc _).alloc _
  have bh : Blk W14 w9.heap.size 54 #[.int .i64 0, .int .i64 nL, .int .i64 nA, .bool false] := by rw [hW14]; exact ((Only.refl [] _).alloc _).blk (Blk.new _ _ _) (by simp)
  have bx : Blk W14 (w9.heap.size + 1) 54 #[.int .i64 22, .int .i64 ((nL : Int) - 1), .int .i64 0, .bool false] := by
    rw [hW14]
    have := Blk.new (w9.alloc (.cells #[.int .i64 0, .int .i64 nL, .int .i64 nA, .bool false] 54)) 54 #[.int .i64 22, .int .i64 ((nL : Int) - 1), .int .i64 0, .bool false]
    simpa using this
  have hgh : w9.heap.size ∉ H := fun q => absurd (hD9.lt _ q) (by omega)
  have hgx : w9.heap.size + 1 ∉ H := fun q => absurd (hD9.lt _ q) (by omega)
  have hD14 := hD9.keep0 k14
  have hSt14 := hSt9.then0 k14
  have bC14 := k14.blk bC9 (by simp)
  have bA14 := k14.blk bA9 (by simp)
  have hOwn14 := Lib.hid (own_only HOwn6.out k14 (by simp))
  have hlt6 := Lib.hid (World.ownsRow.lt HOwn6.out)
  have hz9 : w.heap.size ≤ w9.heap.size := hSt9.size
  have hlt9 := bA9.lt
  have hz14 := k14.size
  have hls14 := (k14.cell (p := ⟨rb, 0, none⟩) (hD9.lt rb hrbH) (by simp)).trans hls
  have hC14 := fun i => bC14.cell i
  clear hC9 hls hW14 bC9 bA9 HOwn6 hSt9 w1 hO1
  have hmt := check_mt hk H4.out
  have HK1 := Lib.hid (dkeep_any hD14 c.stream hft.few (by have := HR.out; rw [this]; show r.s.length + 1 ≤ _; omega) (hft.mt _) (hft.kept _) hft.now)
  go_wp2_with fail
  refine HK1.out.mono ?_
  rintro e15 w15 ⟨rfl, H15, hD15, hSt15⟩
  obtain ⟨bC15, gC15⟩ := hSt15.keepB bC14 hgC
  obtain ⟨bA15, gA15⟩ := hSt15.keepB bA14 hgA
  obtain ⟨bh15, gh15⟩ := hSt15.keepB bh hgh
  have hC15 := fun i => bC15.cell i
  have HG15 := dget_any hD15 c.stream
  unfold DStr.val at HG15
  obtain ⟨x, hx⟩ : ∃ x, x = (R.keep c.stream).get c.stream := ⟨_, rfl⟩
  rw [← hx] at HG15
  have HX := Lib.hid hx
  have HG := Lib.hid HG15
  clear hx HG15 HK1 hC14
  go_wp2_with fail
  refine HG.out.mono ?_
  rintro e16 w16 ⟨rfl, k16⟩
  have hz16 := k16.size
  clear hC15 HG
  have bC16 := k16.blk bC15 (by simp)
  have bA16 := k16.blk bA15 (by simp)
  have bh16 := k16.blk bh15 (by simp)
  have hD16 := hD15.keep0 k16
  have hC17 := fun (o : Obj) i => (((Only.refl [] w16).alloc o).blk bC16 (by simp)).cell i
  go_upto_region 43 with (fail)
  obtain ⟨W17, hW17⟩ : ∃ W, W = w16.alloc (.cells #[.string x.name, .int .i64 c.mt.maxCount, .int .i64 c.mt.maxAge, .int .i64 c.mt.before, .int .i64 x.kept, .bool x.deleted] 99) := ⟨_, rfl⟩
  rw [← hW17]
  have k17 : Only [] w16 W17 := by rw [hW17]; exact (Only.refl [] w16).alloc _
  have b17 : Blk W17 w16.heap.size 99 #[.string x.name, .int .i64 c.mt.maxCount, .int .i64 c.mt.maxAge, .int .i64 c.mt.before, .int .i64 x.kept, .bool x.deleted] := by rw [hW17]; exact Blk.new _ _ _
  have hD17 := hD16.keep0 k17
  have bC17 := k17.blk bC16 (by simp)
  have bA17 := k17.blk bA16 (by simp)
  have bh17 := k17.blk bh16 (by simp)
  have hSt17 := ((hSt14.trans hSt15).then0 k16).then0 k17
  have hb17 := fun i => b17.cell i
  have hs15 : (R.keep c.stream).s.length ≤ r.s.length + 1 := by rw [HR.out]; exact keep_len _ _
  have HP := Lib.hid (dput_any hD17 { x with mt := c.mt } (by omega))
  have hf15 := hft.keep c.stream
  have hft18 : ((R.keep c.stream).put { x with mt := c.mt }).Fine := hf15.put (x := { x with mt := c.mt }) hmt (by rw [HX.out]; exact hf15.kept _)
  have hs18 : ((R.keep c.stream).put { x with mt := c.mt }).s.length + 1 ≤ 1000000 := by
    have := put_len (R.keep c.stream) { x with mt := c.mt }
    omega
  clear hC17 hW17
  go_wp2_with fail
  refine HP.out.mono ?_
  rintro e18 w18 ⟨rfl, H18, hD18, hSt18⟩
  obtain ⟨bC18, gC18⟩ := hSt18.keepB bC17 gC15
  obtain ⟨bA18, gA18⟩ := hSt18.keepB bA17 gA15
  obtain ⟨bh18, gh18⟩ := hSt18.keepB bh17 gh15
  have hSt0 := hSt17.trans hSt18
  have HFin := Lib.hid (show (((r.tick c.time).act c).1.val = .agg #[.int .i64 0, .int .i64 nL, .int .i64 nA, .bool false]) ∧ ((r.tick c.time).act c).2 = ((R.keep c.stream).put { x with mt := c.mt }).keep c.stream from by
    rw [← HR.out]
    unfold RS.act
    dsimp only
    rw [if_pos H4.out, HX.out, HnL.out, HnA.out]
    exact ⟨rfl, rfl⟩)
  clear HP hb17 hs15
  have HKp := Lib.hid (dkeep_any hD18 c.stream (hft18).few hs18 ((hft18).mt _) ((hft18).kept _) (hft18).now)
  have hCz := fun i => (bC18).cell i
  go_wp2_with fail
  refine HKp.out.mono ?_
  rintro eK wK ⟨rfl, HK, hDK, hStK⟩
  obtain ⟨bAK, gAK⟩ := hStK.keepB bA18 gA18
  obtain ⟨bhK, ghK⟩ := hStK.keepB bh18 gh18
  have hAKc := fun i => bAK.cell i
  have hAKf := fun i => bAK.free i
  have hhKc := fun i => bhK.cell i
  have hStT := (hSt0).trans hStK
  clear HKp hCz
  rw [← HFin.out.2] at hDK
  go_wp2
  have hS4 := (((bAK.set 0 (.int .i64 0)).set 1 (.int .i64 nL)).set 2 (.int .i64 nA)).set 3 (.bool false)
  have hge : w.heap.size ≤ w.heap.size + 1 := by omega
  have hD4 := (((hDK.setB (k := 0) (u := .int .i64 0) gAK haz).setB (k := 1) (u := .int .i64 nL) gAK haz).setB (k := 2) (u := .int .i64 nA) gAK haz).setB (k := 3) (u := .bool false) gAK haz
  have hSt4 := (((hStT.setB (k := 0) (u := .int .i64 0) hge).setB (k := 1) (u := .int .i64 nL) hge).setB (k := 2) (u := .int .i64 nA) hge).setB (k := 3) (u := .bool false) hge
  have hc4 := hS4.cell
  refine bodyPost_ret (v := .agg #[.int .i64 0, .int .i64 nL, .int .i64 nA, .bool false]) (by simp [results, Tryz.results12, go_sem, hc4]) rfl ⟨?ans, _, hD4, hSt4⟩
  case ans => rw [HFin.out.1]
end
end Go.Proofs.YtikboecmcbcghaaGreat
/- The document's Do: deletion. -/
set_option linter.unusedVariables false
set_option linter.unusedSimpArgs false
namespace Go.Proofs.YtikboecmcbcghaaGreat
open Go Go.RowKit Go.Sort
section
variable {a w : World} {H : List Nat} {rb : Nat} {r : RS}
set_option maxRecDepth 100000 in
set_option maxHeartbeats 4000000 in
theorem ddo_del (h : HasD a w H rb r) (hf : r.Fine) (hs : r.s.length + 3 ≤ 1000000) (hdb : 0 ≤ r.done ∧ r.done ≤ 1000000000) (c : Cmd) (v : Value) (he : Slc w 4 v c.events.length (c.events.flatMap EventR.cells)) (ho : CmdOk c) (hk : c.check = 0) (h4 : c.kind = 3) (hd : (r.get c.stream).deleted = false) :
    Calls Tryz.prog 12 #[.pointer (some ⟨rb, 0, none⟩), c.val v] w fun e w' => e = .returned ((r.tick c.time).act c).1.val ∧ DTo a w H rb ((r.tick c.time).act c).2 w' := by
  have hb2 : (c.kind == 2) = false := by rw [beq_eq_false_iff_ne]; omega
  have hb3 : (c.kind == 3) = true := by simpa using h4
  have hlt4 : c.kind < 4 := by omega
  have H4 := Lib.hid h4
  clear h4
  have hft := hf.tick (check_kind hk).2.2
  obtain ⟨A1, cap1, hev, hn3, hn4, hes⟩ := he.openE EventR.cells (fun _ => rfl)
  unfold maxLen at hn4
  subst hev
  have HCk := Lib.hid (fun (W : World) (hw : Only [] w W) => show Calls Tryz.prog 43 #[.agg #[.int .i64 c.kind, .int .i64 c.time, .string c.stream, .int .i64 c.expected, .slice A1 c.events.length cap1, .int .i64 c.mt.maxCount, .int .i64 c.mt.maxAge, .int .i64 c.mt.before]] W fun e w' => e = .returned (.int .i64 c.check) ∧ Only [] W w' from r7check_any c _ W (he.only0 hw) ho)
  have h2 : ∀ o1 o2, Only [] w ((w.alloc o1).alloc o2) := fun o1 o2 => ((Only.refl [] w).alloc o1).alloc o2
  have kC : ∀ cs t o2, Blk ((w.alloc (.cells cs t)).alloc o2) w.heap.size t cs := fun cs t o2 => ((Only.refl [] _).alloc o2).blk (Blk.new w t cs) (by simp)
  have kA : ∀ cs t o1, Blk ((w.alloc o1).alloc (.cells cs t)) (w.heap.size + 1) t cs := fun cs t o1 => by
    have := Blk.new (w.alloc o1) t cs
    simpa using this
  rw [show c.val (.slice A1 c.events.length cap1) = .agg #[.int .i64 c.kind, .int .i64 c.time, .string c.stream, .int .i64 c.expected, .slice A1 c.events.length cap1, .int .i64 c.mt.maxCount, .int .i64 c.mt.maxAge, .int .i64 c.mt.before] from rfl]
  rw [hk] at HCk
  have hHl := h.lt
  have hfd3 := fldD3
  go_enter Tryz.func12, Tryz.ntmps12
  go_wp2_with fail
  refine (HCk.out _ (h2 _ _)).mono ?_
  rintro e1 w1 ⟨rfl, k1⟩
  go_wp2_with fail
  have hO1 : Only [] w w1 := (h2 _ _).trans k1
  have bC1 := k1.blk (kC _ _ _) (by simp)
  have bA1 := k1.blk (kA _ _ _) (by simp)
  have hD1 := h.keep0 hO1
  obtain ⟨M2, M3, X2, X3⟩ := hD1.nums
  have hrbH := h.rbH
  have hrbl := h.lt rb hrbH
  obtain ⟨t, ht⟩ : ∃ t, t = max r.now c.time := ⟨_, rfl⟩
  have hmx : (if r.now < c.time then c.time else r.now) = t := by rw [ht]; split <;> omega
  have hmy : (if c.time > r.now then c.time else r.now) = t := hmx
  have HTt := Lib.hid ht
  clear ht
  have C1 := Within.cell (S := []) (bC1.cell 1) (by simp)
  have D2 := Within.cell (S := []) M2 (by simp)
  have D3 := Within.cell (S := []) M3 (by simp)
  refine wp_region_in [] [0, 1, 2, 3, 4, 5, 6, 7, 8, 9] [] [10] (by kernel_rfl) (by kernel_rfl) (by intro c d u a w h; cases d <;> exact h) ?_
  show wpQuiet _ _ _ _ [_, _, _, _, _, _, _, _, _, _] _
  repeat (go_big_quiet_step (fail))
  refine wpQuiet_nil ?_
  have N2 := M2
  have N3 := M3
  have Y2 := X2
  have Y3 := X3
  clear C1 D2 D3
  show wpList _ _ _ [_] _ _
  have hne1 : w.heap.size ≠ rb := by omega
  have hne2 : w.heap.size + 1 ≠ rb := by omega
  have hdn := IntWalk.i64_in (r.done + 1) ⟨by omega, by omega⟩
  go_upto_region 6 with (fail)
  have hSt1 : Stepped w w1 H H := Stepped.first0 hO1 (Stepped.refl _ _)
  have q2 := hD1.setNow (max r.now c.time)
  have q3 := q2.1.setDone (r.done + 1)
  have hD5 := q3.1.keep0 (Only.refl [] _).drew
  have hS5 := (q2.2.trans q3.2).then0 (Only.refl [] _).drew
  have hgC : w.heap.size ∉ H := fun q => by have := hHl _ q; omega
  have hgA : w.heap.size + 1 ∉ H := fun q => by have := hHl _ q; omega
  have haz : a.heap.size ≤ w.heap.size + 1 := by have := h.only.size; omega
  have bC5 := (hS5.keepB bC1 hgC).1
  have bA5 := (hS5.keepB bA1 hgA).1
  have hSt5 := hSt1.trans hS5
  obtain ⟨W5, hW5⟩ : ∃ W, W = ((w1.setCell ⟨rb, 2, none⟩ (.int .i64 (max r.now c.time))).setCell ⟨rb, 3, none⟩ (.int .i64 (r.done + 1))).drew := ⟨_, rfl⟩
  rw [← hW5] at hD5 hS5 bC5 bA5 hSt5 ⊢
  rw [show ({ ({ r with now := max r.now c.time } : RS) with done := r.done + 1 } : RS) = r.tick c.time from rfl] at hD5
  clear hW5 q2 q3 hS5 hSt1 M2 M3 X2 X3 N2 N3 Y2 Y3 bC1 bA1 hmx hmy HTt hD1 k1
  have HGt := dget_any hD5 c.stream
  unfold DStr.val at HGt
  rw [show ((r.tick c.time).get c.stream).deleted = false from hd] at HGt
  have HG := Lib.hid HGt
  have HOf := Lib.hid (fun (W : World) (k : Only [] W5 W) => dof_any (hD5.keep0 k) hft.few c.stream)
  have hC5 := fun i => bC5.cell i
  clear HGt
  go_wp2_with fail
  refine HG.out.mono ?_
  rintro e2 w8 ⟨rfl, k8⟩
  have bC8 := k8.blk bC5 (by simp)
  have hC8 := fun i => bC8.cell i
  clear HG hC5
  go_wp2_with fail
  refine (HOf.out _ k8).mono ?_
  rintro e3 w9 ⟨v6, rfl, hown6, k9⟩
  obtain ⟨A6, c6, rfl, hn6, hm6⟩ := own_form hown6
  unfold maxLen at hm6
  have hk9 := k8.trans k9
  have hD9 := hD5.keep0 hk9
  have hSt9 := hSt5.then0 hk9
  have bC9 := hk9.blk bC5 (by simp)
  have bA9 := hk9.blk bA5 (by simp)
  obtain ⟨Al, cl, hls, hl1, hl2⟩ := hD9.ls
  have hlf := hft.few
  have hofl : ((r.tick c.time).of c.stream).length ≤ 1000000 := Nat.le_trans (List.length_filter_le _ _) hft.few
  obtain ⟨R, hR⟩ : ∃ R, R = r.tick c.time := ⟨_, rfl⟩
  rw [← hR] at hown6 hn6 hofl hD9 hls hl1 hlf hft ⊢
  have HR := Lib.hid hR
  clear HOf hC8 bC5 bA5 bC8 hD5 hSt5 hk9 k8 k9 hR hf hd HCk
  have hC9 := fun i => bC9.cell i
  have hwm := IntWalk.i64_in (((R.of c.stream).length : Int) - 1) ⟨by omega, by omega⟩
  obtain ⟨nL, hnL⟩ : ∃ n, n = (R.of c.stream).length := ⟨_, rfl⟩
  obtain ⟨nA, hnA⟩ : ∃ n, n = R.l.length := ⟨_, rfl⟩
  rw [← hnL] at hn6 hofl hwm ⊢
  rw [← hnA] at hls hl1 hlf
  have HnL := Lib.hid hnL
  have HnA := Lib.hid hnA
  have HOwn6 := Lib.hid hown6
  clear hnL hnA hown6
  go_upto_region 14 with (fail)
  obtain ⟨W14, hW14⟩ : ∃ W, W = (w9.alloc (.cells #[.int .i64 0, .int .i64 nL, .int .i64 nA, .bool false] 54)).alloc (.cells #[.int .i64 22, .int .i64 ((nL : Int) - 1), .int .i64 0, .bool false] 54) := ⟨_, rfl⟩
  rw [← hW14]
  have k14 : Only [] w9 W14 := by rw [hW14]; exact ((Only.refl [] w9).alloc _).alloc _
  have bh : Blk W14 w9.heap.size 54 #[.int .i64 0, .int .i64 nL, .int .i64 nA, .bool false] := by rw [hW14]; exact ((Only.refl [] _).alloc _).blk (Blk.new _ _ _) (by simp)
  have bx : Blk W14 (w9.heap.size + 1) 54 #[.int .i64 22, .int .i64 ((nL : Int) - 1), .int .i64 0, .bool false] := by
    rw [hW14]
    have := Blk.new (w9.alloc (.cells #[.int .i64 0, .int .i64 nL, .int .i64 nA, .bool false] 54)) 54 #[.int .i64 22, .int .i64 ((nL : Int) - 1), .int .i64 0, .bool false]
    simpa using this
  have hgh : w9.heap.size ∉ H := fun q => absurd (hD9.lt _ q) (by omega)
  have hgx : w9.heap.size + 1 ∉ H := fun q => absurd (hD9.lt _ q) (by omega)
  have hD14 := hD9.keep0 k14
  have hSt14 := hSt9.then0 k14
  have bC14 := k14.blk bC9 (by simp)
  have bA14 := k14.blk bA9 (by simp)
  have hOwn14 := Lib.hid (own_only HOwn6.out k14 (by simp))
  have hlt6 := Lib.hid (World.ownsRow.lt HOwn6.out)
  have hz9 : w.heap.size ≤ w9.heap.size := hSt9.size
  have hlt9 := bA9.lt
  have hz14 := k14.size
  have hls14 := (k14.cell (p := ⟨rb, 0, none⟩) (hD9.lt rb hrbH) (by simp)).trans hls
  have hC14 := fun i => bC14.cell i
  clear hC9 hls hW14 bC9 bA9 HOwn6 hSt9 w1 hO1
  have HFt := Lib.hid (fun (W : World) => dfits_any c.expected nL W (by omega))
  have hsR : R.s.length + 3 ≤ 1000000 := by rw [HR.out]; exact hs
  cases hq : fitsD c.expected nL with
  | false =>
    rw [hq] at HFt
    have HFin := Lib.hid (show (((r.tick c.time).act c).1.val = .agg #[.int .i64 22, .int .i64 ((nL : Int) - 1), .int .i64 0, .bool false]) ∧ ((r.tick c.time).act c).2 = R.keep c.stream from by
      rw [← HR.out]
      unfold RS.act
      dsimp only
      rw [if_neg (by rw [H4.out]; decide), if_pos H4.out, ← HnL.out, if_pos hq]
      unfold RS.wrongD
      rw [← HnL.out]
      exact ⟨rfl, rfl⟩)
    have hXc := fun i => bx.cell i
    have hHc := fun i => bh.cell i
    have hHf := fun i => bh.free i
    go_upto_region 50 with (go_at_call 48; refine (HFt.out _).mono ?_; rintro e15 w15 ⟨rfl, rfl⟩)
    have bhW := (((bh.set 0 (.int .i64 22)).set 1 (.int .i64 ((nL : Int) - 1))).set 2 (.int .i64 0)).set 3 (.bool false)
    have koW : Only [w9.heap.size] W14 ((((W14.setCell ⟨w9.heap.size, 0, none⟩ (.int .i64 22)).setCell ⟨w9.heap.size, 1, none⟩ (.int .i64 ((nL : Int) - 1))).setCell ⟨w9.heap.size, 2, none⟩ (.int .i64 0)).setCell ⟨w9.heap.size, 3, none⟩ (.bool false)) := by
      iterate 4 (refine Only.setCell ?_ (.inl (by simp)) _)
      exact Only.refl _ _
    have bCW := koW.blk bC14 (by simp; omega)
    have bAW := koW.blk bA14 (by simp; omega)
    have hDW := hD14.keep koW (by have := h.only.size; simp; omega) (fun b hb => by simp; exact fun e => hgh (e ▸ hb))
    have hStW := (((hSt14.setB (g := w9.heap.size) (k := 0) (u := .int .i64 22) hz9).setB (g := w9.heap.size) (k := 1) (u := .int .i64 ((nL : Int) - 1)) hz9).setB (g := w9.heap.size) (k := 2) (u := .int .i64 0) hz9).setB (g := w9.heap.size) (k := 3) (u := .bool false) hz9
    obtain ⟨WW, hWW⟩ : ∃ W, W = (((W14.setCell ⟨w9.heap.size, 0, none⟩ (.int .i64 22)).setCell ⟨w9.heap.size, 1, none⟩ (.int .i64 ((nL : Int) - 1))).setCell ⟨w9.heap.size, 2, none⟩ (.int .i64 0)).setCell ⟨w9.heap.size, 3, none⟩ (.bool false) := ⟨_, rfl⟩
    rw [← hWW] at bhW koW bCW bAW hDW hStW ⊢
    clear hWW
    have hs18 : R.s.length + 1 ≤ 1000000 := by omega
    clear hXc hHc hHf hC14 HFt
    have HKp := Lib.hid (dkeep_any hDW c.stream (hft).few hs18 ((hft).mt _) ((hft).kept _) (hft).now)
    have hCz := fun i => (bCW).cell i
    go_wp2_with fail
    refine HKp.out.mono ?_
    rintro eK wK ⟨rfl, HK, hDK, hStK⟩
    obtain ⟨bAK, gAK⟩ := hStK.keepB bAW hgA
    obtain ⟨bhK, ghK⟩ := hStK.keepB bhW hgh
    have hAKc := fun i => bAK.cell i
    have hAKf := fun i => bAK.free i
    have hhKc := fun i => bhK.cell i
    have hStT := (hStW).trans hStK
    clear HKp hCz
    rw [← HFin.out.2] at hDK
    go_wp2
    have hS4 := (((bAK.set 0 (.int .i64 22)).set 1 (.int .i64 ((nL : Int) - 1))).set 2 (.int .i64 0)).set 3 (.bool false)
    have hge : w.heap.size ≤ w.heap.size + 1 := by omega
    have hD4 := (((hDK.setB (k := 0) (u := .int .i64 22) gAK haz).setB (k := 1) (u := .int .i64 ((nL : Int) - 1)) gAK haz).setB (k := 2) (u := .int .i64 0) gAK haz).setB (k := 3) (u := .bool false) gAK haz
    have hSt4 := (((hStT.setB (k := 0) (u := .int .i64 22) hge).setB (k := 1) (u := .int .i64 ((nL : Int) - 1)) hge).setB (k := 2) (u := .int .i64 0) hge).setB (k := 3) (u := .bool false) hge
    have hc4 := hS4.cell
    refine bodyPost_ret (v := .agg #[.int .i64 22, .int .i64 ((nL : Int) - 1), .int .i64 0, .bool false]) (by simp [results, Tryz.results12, go_sem, hc4]) rfl ⟨?ans, _, hD4, hSt4⟩
    case ans => rw [HFin.out.1]
  | true =>
    rw [hq] at HFt
    obtain ⟨x, hx⟩ : ∃ x, x = R.get c.stream := ⟨_, rfl⟩
    have HFin := Lib.hid (show (((r.tick c.time).act c).1.val = .agg #[.int .i64 0, .int .i64 nL, .int .i64 nA, .bool false]) ∧ ((r.tick c.time).act c).2 = (R.put { x with deleted := true }).keep c.stream from by
      rw [← HR.out]
      unfold RS.act
      dsimp only
      rw [if_neg (by rw [H4.out]; decide), if_pos H4.out, ← HnL.out, if_neg (by rw [hq]; simp), hx, HnA.out]
      exact ⟨rfl, rfl⟩)
    have HG15 := dget_any hD14 c.stream
    unfold DStr.val at HG15
    rw [← hx] at HG15
    have HX := Lib.hid hx
    have HG := Lib.hid HG15
    clear hx HG15
    go_wp2_with (go_at_call 48; refine (HFt.out _).mono ?_; rintro e15 w15 ⟨rfl, rfl⟩)
    refine HG.out.mono ?_
    rintro e16 w16 ⟨rfl, k16⟩
    have bC16 := k16.blk bC14 (by simp)
    have bA16 := k16.blk bA14 (by simp)
    have bh16 := k16.blk bh (by simp)
    have hD16 := hD14.keep0 k16
    go_upto_region 49 with (fail)
    obtain ⟨W17, hW17⟩ : ∃ W, W = w16.alloc (.cells #[.string x.name, .int .i64 x.mt.maxCount, .int .i64 x.mt.maxAge, .int .i64 x.mt.before, .int .i64 x.kept, .bool true] 99) := ⟨_, rfl⟩
    rw [← hW17]
    have k17 : Only [] w16 W17 := by rw [hW17]; exact (Only.refl [] w16).alloc _
    have b17 : Blk W17 w16.heap.size 99 #[.string x.name, .int .i64 x.mt.maxCount, .int .i64 x.mt.maxAge, .int .i64 x.mt.before, .int .i64 x.kept, .bool true] := by rw [hW17]; exact Blk.new _ _ _
    have hD17 := hD16.keep0 k17
    have bC17 := k17.blk bC16 (by simp)
    have bA17 := k17.blk bA16 (by simp)
    have bh17 := k17.blk bh16 (by simp)
    have hSt17 := (hSt14.then0 k16).then0 k17
    have hb17 := fun i => b17.cell i
    have HP := Lib.hid (dput_any hD17 { x with deleted := true } (by omega))
    have hft18 : (R.put { x with deleted := true }).Fine := hft.put (x := { x with deleted := true }) (by rw [HX.out]; exact hft.mt _) (by rw [HX.out]; exact hft.kept _)
    have hs18 : (R.put { x with deleted := true }).s.length + 1 ≤ 1000000 := by
      have := put_len R { x with deleted := true }
      omega
    clear hW17 hC14
    go_wp2_with fail
    refine HP.out.mono ?_
    rintro e18 w18 ⟨rfl, H18, hD18, hSt18⟩
    obtain ⟨bC18, gC18⟩ := hSt18.keepB bC17 hgC
    obtain ⟨bA18, gA18⟩ := hSt18.keepB bA17 hgA
    obtain ⟨bh18, gh18⟩ := hSt18.keepB bh17 hgh
    have hSt0 := hSt17.trans hSt18
    clear HP hb17
    have HKp := Lib.hid (dkeep_any hD18 c.stream (hft18).few hs18 ((hft18).mt _) ((hft18).kept _) (hft18).now)
    have hCz := fun i => (bC18).cell i
    go_wp2_with fail
    refine HKp.out.mono ?_
    rintro eK wK ⟨rfl, HK, hDK, hStK⟩
    obtain ⟨bAK, gAK⟩ := hStK.keepB bA18 gA18
    obtain ⟨bhK, ghK⟩ := hStK.keepB bh18 gh18
    have hAKc := fun i => bAK.cell i
    have hAKf := fun i => bAK.free i
    have hhKc := fun i => bhK.cell i
    have hStT := (hSt0).trans hStK
    clear HKp hCz
    rw [← HFin.out.2] at hDK
    go_wp2
    have hS4 := (((bAK.set 0 (.int .i64 0)).set 1 (.int .i64 nL)).set 2 (.int .i64 nA)).set 3 (.bool false)
    have hge : w.heap.size ≤ w.heap.size + 1 := by omega
    have hD4 := (((hDK.setB (k := 0) (u := .int .i64 0) gAK haz).setB (k := 1) (u := .int .i64 nL) gAK haz).setB (k := 2) (u := .int .i64 nA) gAK haz).setB (k := 3) (u := .bool false) gAK haz
    have hSt4 := (((hStT.setB (k := 0) (u := .int .i64 0) hge).setB (k := 1) (u := .int .i64 nL) hge).setB (k := 2) (u := .int .i64 nA) hge).setB (k := 3) (u := .bool false) hge
    have hc4 := hS4.cell
    refine bodyPost_ret (v := .agg #[.int .i64 0, .int .i64 nL, .int .i64 nA, .bool false]) (by simp [results, Tryz.results12, go_sem, hc4]) rfl ⟨?ans, _, hD4, hSt4⟩
    case ans => rw [HFin.out.1]
end
end Go.Proofs.YtikboecmcbcghaaGreat
/- The document's Do: an append. -/
set_option linter.unusedVariables false
set_option linter.unusedSimpArgs false
namespace Go.Proofs.YtikboecmcbcghaaGreat
open Go Go.RowKit Go.Sort
theorem evs_one {l : List EventR} (h : eventsE l = 0) : 0 < l.length := by
  cases l with
  | nil => exact absurd h (by decide)
  | cons x l => simp
theorem head_id (l : List EventR) (h : 0 < l.length) : l[0].id = ((l.head?).map (·.id)).getD 0 := by
  cases l with
  | nil => cases h
  | cons x l => rfl
theorem idsAt_take {x : EventR} : ∀ (es : List EventR) (L : List StoredR) (k : Nat) (hk : k < es.length) (hl : k < L.length), idsAt (es.take (k + 1)) L = (idsAt (es.take k) L && decide (L[k].ev.id = es[k].id))
  | [], _, k, hk, _ => by simp at hk
  | e :: es, [], k, _, hl => by simp at hl
  | e :: es, y :: L, 0, _, _ => by simp [idsAt]
  | e :: es, y :: L, k + 1, hk, hl => by
    simp only [List.take_succ_cons, idsAt, List.getElem_cons_succ]
    rw [idsAt_take (x := x) es L k (by simpa using hk) (by simpa using hl), Bool.and_assoc]
theorem idsAt_pre : ∀ (es : List EventR) (L : List StoredR) (k : Nat), idsAt (es.take k) L = false → idsAt es L = false
  | [], L, k, h => by simpa using h
  | e :: es, L, 0, h => by simp [idsAt] at h
  | e :: es, [], k + 1, h => rfl
  | e :: es, y :: L, k + 1, h => by
    simp only [List.take_succ_cons, idsAt, Bool.and_eq_false_iff] at h ⊢
    exact h.imp id (idsAt_pre es L k)
theorem firstAt_nil (id : Int) (k : Int) : firstAt id [] k = -1 := rfl
theorem firstAt_yes {id : Int} {y : StoredR} {l : List StoredR} {k : Int} (h : y.ev.id = id) : firstAt id (y :: l) k = k := by unfold firstAt; rw [if_pos h]
theorem firstAt_no {id : Int} {y : StoredR} {l : List StoredR} {k : Int} (h : ¬ y.ev.id = id) : firstAt id (y :: l) k = firstAt id l (k + 1) := by
  show (if y.ev.id = id then k else firstAt id l (k + 1)) = _
  rw [if_neg h]
theorem firstAt_bd (id : Int) : ∀ (l : List StoredR) (k : Int), 0 ≤ k → firstAt id l k = -1 ∨ (k ≤ firstAt id l k ∧ firstAt id l k < k + l.length)
  | [], k, _ => .inl rfl
  | y :: l, k, hk => by
    by_cases h : y.ev.id = id
    · rw [firstAt_yes h, List.length_cons]; right; omega
    · rw [firstAt_no h, List.length_cons]
      rcases firstAt_bd id l (k + 1) (by omega) with q | q
      · exact .inl q
      · right; omega
theorem firstAt_old (id : Int) (x : StoredR) : ∀ (l : List StoredR) (k : Int), 0 ≤ k → 0 ≤ firstAt id l k → firstAt id (l ++ [x]) k = firstAt id l k
  | [], k, _, h => by rw [firstAt_nil] at h; omega
  | y :: l, k, hk, h => by
    by_cases q : y.ev.id = id
    · rw [List.cons_append, firstAt_yes q, firstAt_yes q]
    · rw [firstAt_no q] at h
      rw [List.cons_append, firstAt_no q, firstAt_no q, firstAt_old id x l (k + 1) (by omega) h]
theorem firstAt_new (id : Int) (x : StoredR) : ∀ (l : List StoredR) (k : Int), 0 ≤ k → firstAt id l k < 0 → firstAt id (l ++ [x]) k = if x.ev.id = id then k + l.length else -1
  | [], k, hk, h => by
    rw [List.nil_append]
    by_cases q : x.ev.id = id
    · rw [firstAt_yes q, if_pos q]; simp
    · rw [firstAt_no q, if_neg q]; rfl
  | y :: l, k, hk, h => by
    by_cases q : y.ev.id = id
    · rw [firstAt_yes q] at h; omega
    · rw [firstAt_no q] at h
      rw [List.cons_append, firstAt_no q, firstAt_new id x l (k + 1) (by omega) h, List.length_cons]
      by_cases z : x.ev.id = id
      · rw [if_pos z, if_pos z]; omega
      · rw [if_neg z, if_neg z]
section
variable {a w : World} {H : List Nat} {rb : Nat} {r : RS}
set_option maxRecDepth 100000 in
set_option maxHeartbeats 4000000 in
theorem ddo_app1 (h : HasD a w H rb r) (hf : r.Fine) (hs : r.s.length + 3 ≤ 1000000) (hdb : 0 ≤ r.done ∧ r.done ≤ 1000000000) (c : Cmd) (v : Value) (he : Slc w 4 v c.events.length (c.events.flatMap EventR.cells)) (hn : ∀ g, v.ownBlock = some g → g ∉ H) (ho : CmdOk c) (hk : c.check = 0) (h4 : c.kind = 1) (hd : (r.get c.stream).deleted = false)
    (hv : 0 ≤ firstAt (((c.events.head?).map (·.id)).getD 0) (r.of c.stream) 0) :
    Calls Tryz.prog 12 #[.pointer (some ⟨rb, 0, none⟩), c.val v] w fun e w' => e = .returned ((r.tick c.time).act c).1.val ∧ DTo a w H rb ((r.tick c.time).act c).2 w' := by
  have hb2 : (c.kind == 2) = false := by rw [beq_eq_false_iff_ne]; omega
  have hb3 : (c.kind == 3) = false := by rw [beq_eq_false_iff_ne]; omega
  have hlt4 : c.kind < 4 := by omega
  have H4 := Lib.hid h4
  clear h4
  have hft := hf.tick (check_kind hk).2.2
  obtain ⟨A1, cap1, hev, hn3, hn4, hes⟩ := he.openE EventR.cells (fun _ => rfl)
  unfold maxLen at hn4
  subst hev
  have HCk := Lib.hid (fun (W : World) (hw : Only [] w W) => show Calls Tryz.prog 43 #[.agg #[.int .i64 c.kind, .int .i64 c.time, .string c.stream, .int .i64 c.expected, .slice A1 c.events.length cap1, .int .i64 c.mt.maxCount, .int .i64 c.mt.maxAge, .int .i64 c.mt.before]] W fun e w' => e = .returned (.int .i64 c.check) ∧ Only [] W w' from r7check_any c _ W (he.only0 hw) ho)
  have h2 : ∀ o1 o2, Only [] w ((w.alloc o1).alloc o2) := fun o1 o2 => ((Only.refl [] w).alloc o1).alloc o2
  have kC : ∀ cs t o2, Blk ((w.alloc (.cells cs t)).alloc o2) w.heap.size t cs := fun cs t o2 => ((Only.refl [] _).alloc o2).blk (Blk.new w t cs) (by simp)
  have kA : ∀ cs t o1, Blk ((w.alloc o1).alloc (.cells cs t)) (w.heap.size + 1) t cs := fun cs t o1 => by
    have := Blk.new (w.alloc o1) t cs
    simpa using this
  rw [show c.val (.slice A1 c.events.length cap1) = .agg #[.int .i64 c.kind, .int .i64 c.time, .string c.stream, .int .i64 c.expected, .slice A1 c.events.length cap1, .int .i64 c.mt.maxCount, .int .i64 c.mt.maxAge, .int .i64 c.mt.before] from rfl]
  rw [hk] at HCk
  have hHl := h.lt
  have hfd3 := fldD3
  go_enter Tryz.func12, Tryz.ntmps12
  go_wp2_with fail
  refine (HCk.out _ (h2 _ _)).mono ?_
  rintro e1 w1 ⟨rfl, k1⟩
  go_wp2_with fail
  have hO1 : Only [] w w1 := (h2 _ _).trans k1
  have bC1 := k1.blk (kC _ _ _) (by simp)
  have bA1 := k1.blk (kA _ _ _) (by simp)
  have hD1 := h.keep0 hO1
  obtain ⟨M2, M3, X2, X3⟩ := hD1.nums
  have hrbH := h.rbH
  have hrbl := h.lt rb hrbH
  obtain ⟨t, ht⟩ : ∃ t, t = max r.now c.time := ⟨_, rfl⟩
  have hmx : (if r.now < c.time then c.time else r.now) = t := by rw [ht]; split <;> omega
  have hmy : (if c.time > r.now then c.time else r.now) = t := hmx
  have HTt := Lib.hid ht
  clear ht
  have C1 := Within.cell (S := []) (bC1.cell 1) (by simp)
  have D2 := Within.cell (S := []) M2 (by simp)
  have D3 := Within.cell (S := []) M3 (by simp)
  refine wp_region_in [] [0, 1, 2, 3, 4, 5, 6, 7, 8, 9] [] [10] (by kernel_rfl) (by kernel_rfl) (by intro c d u a w h; cases d <;> exact h) ?_
  show wpQuiet _ _ _ _ [_, _, _, _, _, _, _, _, _, _] _
  repeat (go_big_quiet_step (fail))
  refine wpQuiet_nil ?_
  have N2 := M2
  have N3 := M3
  have Y2 := X2
  have Y3 := X3
  clear C1 D2 D3
  show wpList _ _ _ [_] _ _
  have hne1 : w.heap.size ≠ rb := by omega
  have hne2 : w.heap.size + 1 ≠ rb := by omega
  have hdn := IntWalk.i64_in (r.done + 1) ⟨by omega, by omega⟩
  go_upto_region 6 with (fail)
  have hSt1 : Stepped w w1 H H := Stepped.first0 hO1 (Stepped.refl _ _)
  have q2 := hD1.setNow (max r.now c.time)
  have q3 := q2.1.setDone (r.done + 1)
  have hD5 := q3.1.keep0 (Only.refl [] _).drew
  have hS5 := (q2.2.trans q3.2).then0 (Only.refl [] _).drew
  have hgC : w.heap.size ∉ H := fun q => by have := hHl _ q; omega
  have hgA : w.heap.size + 1 ∉ H := fun q => by have := hHl _ q; omega
  have haz : a.heap.size ≤ w.heap.size + 1 := by have := h.only.size; omega
  have bC5 := (hS5.keepB bC1 hgC).1
  have bA5 := (hS5.keepB bA1 hgA).1
  have hSt5 := hSt1.trans hS5
  obtain ⟨W5, hW5⟩ : ∃ W, W = ((w1.setCell ⟨rb, 2, none⟩ (.int .i64 (max r.now c.time))).setCell ⟨rb, 3, none⟩ (.int .i64 (r.done + 1))).drew := ⟨_, rfl⟩
  rw [← hW5] at hD5 hS5 bC5 bA5 hSt5 ⊢
  rw [show ({ ({ r with now := max r.now c.time } : RS) with done := r.done + 1 } : RS) = r.tick c.time from rfl] at hD5
  clear hW5 q2 q3 hS5 hSt1 M2 M3 X2 X3 N2 N3 Y2 Y3 bC1 bA1 hmx hmy HTt hD1 k1
  have HGt := dget_any hD5 c.stream
  unfold DStr.val at HGt
  rw [show ((r.tick c.time).get c.stream).deleted = false from hd] at HGt
  have HG := Lib.hid HGt
  have HOf := Lib.hid (fun (W : World) (k : Only [] W5 W) => dof_any (hD5.keep0 k) hft.few c.stream)
  have hC5 := fun i => bC5.cell i
  clear HGt
  go_wp2_with fail
  refine HG.out.mono ?_
  rintro e2 w8 ⟨rfl, k8⟩
  have bC8 := k8.blk bC5 (by simp)
  have hC8 := fun i => bC8.cell i
  clear HG hC5
  go_wp2_with fail
  refine (HOf.out _ k8).mono ?_
  rintro e3 w9 ⟨v6, rfl, hown6, k9⟩
  obtain ⟨A6, c6, rfl, hn6, hm6⟩ := own_form hown6
  unfold maxLen at hm6
  have hk9 := k8.trans k9
  have hD9 := hD5.keep0 hk9
  have hSt9 := hSt5.then0 hk9
  have bC9 := hk9.blk bC5 (by simp)
  have bA9 := hk9.blk bA5 (by simp)
  obtain ⟨Al, cl, hls, hl1, hl2⟩ := hD9.ls
  have hlf := hft.few
  have hofl : ((r.tick c.time).of c.stream).length ≤ 1000000 := Nat.le_trans (List.length_filter_le _ _) hft.few
  obtain ⟨R, hR⟩ : ∃ R, R = r.tick c.time := ⟨_, rfl⟩
  rw [← hR] at hown6 hn6 hofl hD9 hls hl1 hlf hft ⊢
  have HR := Lib.hid hR
  clear HOf hC8 bC5 bA5 bC8 hD5 hSt5 hk9 k8 k9 hR hf hd HCk
  have hC9 := fun i => bC9.cell i
  have hwm := IntWalk.i64_in (((R.of c.stream).length : Int) - 1) ⟨by omega, by omega⟩
  obtain ⟨nL, hnL⟩ : ∃ n, n = (R.of c.stream).length := ⟨_, rfl⟩
  obtain ⟨nA, hnA⟩ : ∃ n, n = R.l.length := ⟨_, rfl⟩
  rw [← hnL] at hn6 hofl hwm ⊢
  rw [← hnA] at hls hl1 hlf
  have HnL := Lib.hid hnL
  have HnA := Lib.hid hnA
  have HOwn6 := Lib.hid hown6
  clear hnL hnA hown6
  go_upto_region 14 with (fail)
  obtain ⟨W14, hW14⟩ : ∃ W, W = (w9.alloc (.cells #[.int .i64 0, .int .i64 nL, .int .i64 nA, .bool false] 54)).alloc (.cells #[.int .i64 22, .int .i64 ((nL : Int) - 1), .int .i64 0, .bool false] 54) := ⟨_, rfl⟩
  rw [← hW14]
  have k14 : Only [] w9 W14 := by rw [hW14]; exact ((Only.refl [] w9).alloc _).alloc _
  have bh : Blk W14 w9.heap.size 54 #[.int .i64 0, .int .i64 nL, .int .i64 nA, .bool false] := by rw [hW14]; exact ((Only.refl [] _).alloc _).blk (Blk.new _ _ _) (by simp)
  have bx : Blk W14 (w9.heap.size + 1) 54 #[.int .i64 22, .int .i64 ((nL : Int) - 1), .int .i64 0, .bool false] := by
    rw [hW14]
    have := Blk.new (w9.alloc (.cells #[.int .i64 0, .int .i64 nL, .int .i64 nA, .bool false] 54)) 54 #[.int .i64 22, .int .i64 ((nL : Int) - 1), .int .i64 0, .bool false]
    simpa using this
  have hgh : w9.heap.size ∉ H := fun q => absurd (hD9.lt _ q) (by omega)
  have hgx : w9.heap.size + 1 ∉ H := fun q => absurd (hD9.lt _ q) (by omega)
  have hD14 := hD9.keep0 k14
  have hSt14 := hSt9.then0 k14
  have bC14 := k14.blk bC9 (by simp)
  have bA14 := k14.blk bA9 (by simp)
  have hOwn14 := Lib.hid (own_only HOwn6.out k14 (by simp))
  have hlt6 := Lib.hid (World.ownsRow.lt HOwn6.out)
  have hz9 : w.heap.size ≤ w9.heap.size := hSt9.size
  have hlt9 := bA9.lt
  have hz14 := k14.size
  have hls14 := (k14.cell (p := ⟨rb, 0, none⟩) (hD9.lt rb hrbH) (by simp)).trans hls
  have hC14 := fun i => bC14.cell i
  clear hC9 hls hW14 bC9 bA9 HOwn6 hSt9 w1 hO1
  have hne1 := evs_one (check_evs hk H4.out)
  obtain ⟨L, hL⟩ : ∃ L, L = R.of c.stream := ⟨_, rfl⟩
  rw [← hL] at hOwn14 HnL
  have HL := Lib.hid hL
  clear hL
  have hev : ∀ j (hj : j < c.events.length), ∃ b off, A1 = some ⟨b, off, none⟩ ∧ b < W14.heap.size ∧ ∀ t, t < 4 → W14.cell? ⟨b, off + j * 4 + t, none⟩ = (c.events[j].cells)[t]? := by
    obtain ⟨A', c', e, _, _, q⟩ := (hSt14.keepS he hn).openE EventR.cells (fun _ => rfl)
    injection e with e1 e2 e3
    subst e1
    exact q
  have hel : ∀ j (hj : j < L.length), ∃ b off, A6 = some ⟨b, off, none⟩ ∧ b < W14.heap.size ∧ ∀ t, t < 8 → W14.cell? ⟨b, off + j * 8 + t, none⟩ = (L[j].cells)[t]? := by
    obtain ⟨A', c', e, _, _, q⟩ := (Slc.of_own hOwn14.out).1.openE StoredR.cells (fun _ => rfl)
    injection e with e1 e2 e3
    subst e1
    exact q
  have HEv := Lib.hid hev
  have HEl := Lib.hid hel
  clear hev hel hes hOwn14
  obtain ⟨id0, hid0⟩ : ∃ i, i = ((c.events.head?).map (·.id)).getD 0 := ⟨_, rfl⟩
  have hid1 : c.events[0].id = id0 := by
    rw [hid0]
    exact head_id c.events hne1
  have HI0 := Lib.hid hid0
  have HI1 := Lib.hid hid1
  clear hid0 hid1
  go_wp2_with fail
  go_loopw [11, 12] (fun av iv wr => ∃ (i : Nat) (f : Int), i ≤ nL ∧ iv = .int .i64 i ∧ av = .int .i64 f ∧ Hid (f = firstAt id0 (L.take i) 0) ∧ Only [] W14 wr) (fun _ iv _ => nL - (intOf iv).toNat)
  case atStart => exact ⟨0, -1, Nat.zero_le _, rfl, rfl, rfl, Only.refl _ _⟩
  case round =>
    obtain ⟨i, f, hi, rfl, rfl, hf, hO⟩ := hrel
    by_cases hlt : i < nL
    · obtain ⟨b6, o6, hA6, hb6, hc6⟩ := HEl.out i (by have := HnL.out; omega)
      obtain ⟨b1, o1, hA1, hb1, hc1⟩ := HEv.out 0 hne1
      subst hA6 hA1
      have htk : L.take (i + 1) = L.take i ++ [L[i]] := List.take_succ_eq_append_getElem (by have := HnL.out; omega)
      have hmn : (L.take i).length = i := by rw [List.length_take]; have := HnL.out; omega
      have hold : Hid (0 ≤ f → firstAt id0 (L.take (i + 1)) 0 = f) := fun q => by rw [htk, firstAt_old _ _ _ _ (by decide) (by rw [← hf.out]; exact q), ← hf.out]
      have hnew : Hid (f < 0 → firstAt id0 (L.take (i + 1)) 0 = if L[i].ev.id = id0 then (i : Int) else -1) := fun q => by rw [htk, firstAt_new _ _ _ _ (by decide) (by rw [← hf.out]; exact q), hmn, Int.zero_add]
      obtain ⟨x, hx⟩ : ∃ x, x = L[i] := ⟨_, rfl⟩
      rw [← hx] at hc6 hnew
      have hc60 : W14.cell? ⟨b6, o6 + i * 8, none⟩ = some (.int .i64 x.ev.id) := hc6 0 (by omega)
      have hc10 : W14.cell? ⟨b1, o1, none⟩ = some (.int .i64 id0) := by
        have := hc1 0 (by omega)
        rw [show o1 + 0 * 4 + 0 = o1 by omega] at this
        rw [this, ← HI1.out]
        rfl
      have C6 : ∀ (e : Nat) (os : Array Obj), World.cell? (grow (redrawn wr e) os) _ = some _ := fun e os => cell_regrown ((hO.cell (p := ⟨b6, o6 + i * 8, none⟩) hb6 (by simp)).trans hc60) e os
      have C1 : ∀ (e : Nat) (os : Array Obj), World.cell? (grow (redrawn wr e) os) _ = some _ := fun e os => cell_regrown ((hO.cell (p := ⟨b1, o1, none⟩) hb1 (by simp)).trans hc10) e os
      have CB : ∀ (e : Nat) (os : Array Obj), World.cell? (grow (redrawn wr e) os) ⟨w.heap.size, 4, none⟩ = some (.slice (some ⟨b1, o1, none⟩) c.events.length cap1) := fun e os => cell_regrown ((hO.blk bC14 (by simp)).cell 4) e os
      clear hc6 hc1 hc60 hc10 hx htk hmn
      by_cases hf0 : f < 0
      · have hfm : f = -1 := by
          rcases firstAt_bd id0 (L.take i) 0 (by decide) with q | q
          · rw [hf.out]; exact q
          · have := hf.out; omega
        have hnw := Lib.hid (hnew.out hf0)
        subst hfm
        by_cases hxi : x.ev.id = id0
        · have hnx : Hid ((i : Int) = firstAt id0 (L.take (i + 1)) 0) := by have := hnw.out; rw [if_pos hxi] at this; exact this.symm
          have hxb : (x.ev.id == id0) = true := by simpa using hxi
          clear hxi
          go_wp2_with fail
          refine wp_region_quiet_below (by kernel_rfl) (by kernel_rfl) ?_
          repeat (go_big_quiet_step (fail))
          refine wpQuiet_nil ?_
          rintro _ ⟨p, rfl⟩
          go_wp2
          go_round
          case rel => exact ⟨i + 1, i, hlt, by simp, rfl, hnx, hO.trans (Only.regrown [] _ p.d p.os)⟩
          case measure => simp [intOf]; omega
        · have hnx : Hid ((-1 : Int) = firstAt id0 (L.take (i + 1)) 0) := by have := hnw.out; rw [if_neg hxi] at this; exact this.symm
          have hxb : (x.ev.id == id0) = false := by simpa using hxi
          clear hxi
          go_wp2_with fail
          refine wp_region_quiet_below (by kernel_rfl) (by kernel_rfl) ?_
          repeat (go_big_quiet_step (fail))
          refine wpQuiet_nil ?_
          rintro _ ⟨p, rfl⟩
          go_wp2
          go_round
          case rel => exact ⟨i + 1, -1, hlt, by simp, rfl, hnx, hO.trans (Only.regrown [] _ p.d p.os)⟩
          case measure => simp [intOf]; omega
      · have hnx : Hid (f = firstAt id0 (L.take (i + 1)) 0) := (hold.out (by omega)).symm
        have hfb : decide (f < 0) = false := by simpa using hf0
        go_wp2_with fail
        refine wp_region_quiet_below (by kernel_rfl) (by kernel_rfl) ?_
        repeat (go_big_quiet_step (fail))
        refine wpQuiet_nil ?_
        rintro _ ⟨p, rfl⟩
        go_wp2
        go_round
        case rel => exact ⟨i + 1, f, hlt, by simp, rfl, hnx, hO.trans (Only.regrown [] _ p.d p.os)⟩
        case measure => simp [intOf]; omega
    · have hin : nL = i := by omega
      subst hin
      have hfL : f = firstAt id0 L 0 := by have := hf.out; rwa [List.take_of_length_le (by have := HnL.out; omega)] at this
      have hf0 : 0 ≤ f := by rw [hfL, HI0.out, HL.out, HR.out]; exact hv
      have hfl : f < nL := by
        rcases firstAt_bd id0 L 0 (by decide) with q | q
        · rw [hfL] at hf0; omega
        · have := HnL.out; rw [hfL]; omega
      obtain ⟨fn, rfl⟩ : ∃ fn : Nat, f = fn := ⟨f.toNat, by omega⟩
      have HFL := Lib.hid hfL
      have bC17 := hO.blk bC14 (by simp)
      have hC17 := fun t => bC17.cell t
      have hfn : fn < nL := by omega
      have hev8 : c.events.length ≤ 8 := by have := check_evs hk H4.out; unfold eventsE at this; (repeat (split at this; first | omega | skip)); all_goals omega
      have hw1 := IntWalk.i64_in ((fn : Int) + (c.events.length : Int)) ⟨by omega, by omega⟩
      have hw2 := IntWalk.i64_in ((fn : Int) - 1) ⟨by omega, by omega⟩
      obtain ⟨g0, hg0⟩ : ∃ g : Bool, g = (decide ((fn : Int) + (c.events.length : Int) ≤ (nL : Int)) && (decide (c.expected = -2) || decide (c.expected = -4) || decide (c.expected = (fn : Int) - 1))) := ⟨_, rfl⟩
      have HG0 := Lib.hid hg0
      clear hfL hf hfl hg0
      go_upto_region 22 with (fail)
      go_cut [13] (fun s13 wx => s13 = .bool g0 ∧ wx = wr)
      case first =>
        by_cases q1 : (fn : Int) + (c.events.length : Int) ≤ (nL : Int)
        · cases q2 : (c.expected == -2) with
          | true =>
            have hg : g0 = true := by rw [HG0.out, decide_eq_true q1, show c.expected = -2 by simpa using q2]; rfl
            have HG := Lib.hid hg
            clear hg HG0
            go_wp2_with fail
            go_meet
            exact ⟨by rw [HG.out], rfl⟩
          | false =>
            cases q3 : (c.expected == -4) with
            | true =>
              have hg : g0 = true := by rw [HG0.out, decide_eq_true q1, show c.expected = -4 by simpa using q3]; rfl
              have HG := Lib.hid hg
              clear hg HG0
              go_wp2_with fail
              go_meet
              exact ⟨by rw [HG.out], rfl⟩
            | false =>
              cases q4 : (c.expected == (fn : Int) - 1) with
              | true =>
                have hg : g0 = true := by rw [HG0.out, decide_eq_true q1, decide_eq_true (show c.expected = (fn : Int) - 1 by simpa using q4)]; simp
                have HG := Lib.hid hg
                clear hg HG0
                go_wp2_with fail
                go_meet
                exact ⟨by rw [HG.out], rfl⟩
              | false =>
                have hg : g0 = false := by
                  rw [HG0.out, decide_eq_false (show ¬ c.expected = (fn : Int) - 1 by simpa using q4), decide_eq_false (show ¬ c.expected = -2 by simpa using q2), decide_eq_false (show ¬ c.expected = -4 by simpa using q3)]
                  simp
                have HG := Lib.hid hg
                clear hg HG0
                go_wp2_with fail
                go_meet
                exact ⟨by rw [HG.out], rfl⟩
        · have hg : g0 = false := by rw [HG0.out, decide_eq_false q1]; rfl
          have HG := Lib.hid hg
          clear hg HG0
          go_wp2_with fail
          go_meet
          exact ⟨by rw [HG.out], rfl⟩
      case rest =>
        obtain ⟨rfl, rfl⟩ := hcut
        have hlen := HnL.out
        have HAct := Lib.hid (show ((g0 && idsAt c.events (L.drop fn)) = true → (r.tick c.time).act c = (⟨0, fn, ((L[((fn : Int) + (c.events.length : Int) - 1).toNat]?).map (·.position)).getD 0, true⟩, R.keep c.stream)) ∧ ((g0 && idsAt c.events (L.drop fn)) = false → (r.tick c.time).act c = (⟨22, (nL : Int) - 1, 0, false⟩, R.keep c.stream)) from by
          have hgd : RS.goodAt c L fn = (g0 && idsAt c.events (L.drop fn)) := by
            unfold RS.goodAt
            rw [HG0.out, HnL.out]
            rfl
          rw [← HR.out]
          unfold RS.act
          dsimp only
          rw [if_neg (by rw [H4.out]; decide), if_neg (by rw [H4.out]; decide), ← HL.out, ← HI0.out, ← HFL.out, if_pos (by omega), hgd]
          refine ⟨fun q => by rw [q]; rfl, fun q => by rw [q, HnL.out]; rfl⟩)
        have hwk := fun k : Nat => fun hkk : k ≤ c.events.length => IntWalk.i64_in ((fn : Int) + (k : Int)) ⟨by omega, by omega⟩
        have HWk := Lib.hid hwk
        have hw3 := IntWalk.i64_in ((fn : Int) + (c.events.length : Int) - 1) ⟨by omega, by omega⟩
        have HLen := Lib.hid hlen
        have HO := Lib.hid hO
        clear hwk hlen hC17 bC17
        go_wp2_with fail
        go_loopw [13, 14] (fun gv kv w2 => ∃ (k : Nat) (g : Bool), k ≤ c.events.length ∧ kv = .int .i64 k ∧ gv = .bool g ∧ Hid (g = (g0 && idsAt (c.events.take k) (L.drop fn))) ∧ Only [] W14 w2) (fun _ kv _ => c.events.length - (intOf kv).toNat)
        case atStart => exact ⟨0, g0, Nat.zero_le _, rfl, rfl, by unfold Hid; simp [idsAt], hO⟩
        case round =>
          obtain ⟨k, g, hkn, rfl, rfl, hg, hO2⟩ := hrel
          have bC2 := hO2.blk bC14 (by simp)
          have hC2 := fun t => bC2.cell t
          by_cases hlt2 : k < c.events.length
          · cases g with
            | true =>
              obtain ⟨hgt, hids⟩ : g0 = true ∧ idsAt (c.events.take k) (L.drop fn) = true := by
                have := hg.out
                simpa using this.symm
              have hroom : fn + c.events.length ≤ nL := by
                have := HG0.out
                rw [hgt] at this
                simp at this
                omega
              obtain ⟨b6, o6, hA6, hb6, hc6⟩ := HEl.out (fn + k) (by have := HLen.out; omega)
              obtain ⟨b1, o1, hA1, hb1, hc1⟩ := HEv.out k hlt2
              subst hA6 hA1
              have hin6 : fn + k < L.length := by have := HLen.out; omega
              have hst : Hid (idsAt (c.events.take (k + 1)) (L.drop fn) = decide (L[fn + k].ev.id = c.events[k].id)) := by
                unfold Hid
                rw [idsAt_take (x := c.events[k]) c.events (L.drop fn) k hlt2 (by rw [List.length_drop]; have := HLen.out; omega), hids, Bool.true_and, List.getElem_drop]
              obtain ⟨x, hx⟩ : ∃ x, x = L[fn + k] := ⟨_, rfl⟩
              obtain ⟨y, hy⟩ : ∃ y, y = c.events[k] := ⟨_, rfl⟩
              rw [← hx] at hc6 hst
              rw [← hy] at hc1 hst
              have hc60 : W14.cell? ⟨b6, o6 + (fn + k) * 8, none⟩ = some (.int .i64 x.ev.id) := hc6 0 (by omega)
              have hc10 : W14.cell? ⟨b1, o1 + k * 4, none⟩ = some (.int .i64 y.id) := hc1 0 (by omega)
              have C6 : ∀ (e : Nat) (os : Array Obj), World.cell? (grow (redrawn wr e) os) _ = some _ := fun e os => cell_regrown ((hO2.cell (p := ⟨b6, o6 + (fn + k) * 8, none⟩) hb6 (by simp)).trans hc60) e os
              have C1 : ∀ (e : Nat) (os : Array Obj), World.cell? (grow (redrawn wr e) os) _ = some _ := fun e os => cell_regrown ((hO2.cell (p := ⟨b1, o1 + k * 4, none⟩) hb1 (by simp)).trans hc10) e os
              have CB : ∀ (e : Nat) (os : Array Obj), World.cell? (grow (redrawn wr e) os) ⟨w.heap.size, 4, none⟩ = some (.slice (some ⟨b1, o1, none⟩) c.events.length cap1) := fun e os => cell_regrown (bC2.cell 4) e os
              have hwk := HWk.out k hkn
              have hidx : fn + k < nL := by omega
              have hidx1 : (fn : Int) + (k : Int) < (nL : Int) := by omega
              have hidx0 : ¬ (fn : Int) + (k : Int) < 0 := by omega
              have hidx2 : ((fn : Int) + (k : Int)).toNat = fn + k := by omega
              obtain ⟨g2, hg2⟩ : ∃ g2, (x.ev.id == y.id) = g2 := ⟨_, rfl⟩
              have hnx : Hid (g2 = (g0 && idsAt (c.events.take (k + 1)) (L.drop fn))) := by
                unfold Hid
                rw [hst.out, hgt, Bool.true_and, ← hg2, Bool.beq_eq_decide_eq]
              clear hc6 hc1 hc60 hc10 hx hy hids hgt hg hst bC2
              go_wp2_with fail
              refine wp_region_quiet_below (by kernel_rfl) (by kernel_rfl) ?_
              repeat (go_big_quiet_step (fail))
              refine wpQuiet_nil ?_
              rintro _ ⟨p, rfl⟩
              go_wp2
              go_round
              case rel => exact ⟨k + 1, g2, hlt2, by simp, rfl, hnx, hO2.trans (Only.regrown [] _ p.d p.os)⟩
              case measure => simp [intOf]; omega
            | false =>
              have hG : idsAt c.events (L.drop fn) = false ∨ g0 = false := by
                have := hg.out
                cases hgg : g0 with
                | false => exact .inr rfl
                | true =>
                  rw [hgg, Bool.true_and] at this
                  exact .inl (idsAt_pre _ _ k this.symm)
              have hgf : (g0 && idsAt c.events (L.drop fn)) = false := by
                rcases hG with q | q
                · rw [q]; simp
                · rw [q]; rfl
              have hFa := Lib.hid (HAct.out.2 hgf)
              have HFin : Hid ((((r.tick c.time).act c).1.val = .agg #[.int .i64 22, .int .i64 ((nL : Int) - 1), .int .i64 0, .bool false]) ∧ ((r.tick c.time).act c).2 = R.keep c.stream) := by
                unfold Hid
                rw [hFa.out]
                exact ⟨rfl, rfl⟩
              have hXc := fun t => (hO2.blk bx (by simp)).cell t
              have hHc := fun t => (hO2.blk bh (by simp)).cell t
              have hHf := fun t => (hO2.blk bh (by simp)).free t
              have hD2 := hD14.keep0 hO2
              have hSt2 := hSt14.then0 hO2
              have bh2 := hO2.blk bh (by simp)
              have bA2 := hO2.blk bA14 (by simp)
              have hsR : R.s.length + 1 ≤ 1000000 := by rw [HR.out]; show r.s.length + 1 ≤ _; omega
              clear hgf hg
              go_upto_region 50 with (fail)
              have bhW := (((bh2.set 0 (.int .i64 22)).set 1 (.int .i64 ((nL : Int) - 1))).set 2 (.int .i64 0)).set 3 (.bool false)
              have koW : Only [w9.heap.size] wr ((((wr.setCell ⟨w9.heap.size, 0, none⟩ (.int .i64 22)).setCell ⟨w9.heap.size, 1, none⟩ (.int .i64 ((nL : Int) - 1))).setCell ⟨w9.heap.size, 2, none⟩ (.int .i64 0)).setCell ⟨w9.heap.size, 3, none⟩ (.bool false)) := by
                iterate 4 (refine Only.setCell ?_ (.inl (by simp)) _)
                exact Only.refl _ _
              have bCW := koW.blk bC2 (by simp; omega)
              have bAW := koW.blk bA2 (by simp; omega)
              have hDW := hD2.keep koW (by have := h.only.size; simp; omega) (fun b hb => by simp; exact fun e => hgh (e ▸ hb))
              have hStW := (((hSt2.setB (g := w9.heap.size) (k := 0) (u := .int .i64 22) hz9).setB (g := w9.heap.size) (k := 1) (u := .int .i64 ((nL : Int) - 1)) hz9).setB (g := w9.heap.size) (k := 2) (u := .int .i64 0) hz9).setB (g := w9.heap.size) (k := 3) (u := .bool false) hz9
              obtain ⟨WW, hWW⟩ : ∃ W, W = (((wr.setCell ⟨w9.heap.size, 0, none⟩ (.int .i64 22)).setCell ⟨w9.heap.size, 1, none⟩ (.int .i64 ((nL : Int) - 1))).setCell ⟨w9.heap.size, 2, none⟩ (.int .i64 0)).setCell ⟨w9.heap.size, 3, none⟩ (.bool false) := ⟨_, rfl⟩
              rw [← hWW] at bhW koW bCW bAW hDW hStW ⊢
              clear hWW
              clear hXc hHc hHf hC2
              have HKp := Lib.hid (dkeep_any hDW c.stream (hft).few hsR ((hft).mt _) ((hft).kept _) (hft).now)
              have hCz := fun i => (bCW).cell i
              go_wp2_with fail
              refine HKp.out.mono ?_
              rintro eK wK ⟨rfl, HK, hDK, hStK⟩
              obtain ⟨bAK, gAK⟩ := hStK.keepB bAW hgA
              obtain ⟨bhK, ghK⟩ := hStK.keepB bhW hgh
              have hAKc := fun i => bAK.cell i
              have hAKf := fun i => bAK.free i
              have hhKc := fun i => bhK.cell i
              have hStT := (hStW).trans hStK
              clear HKp hCz
              rw [← HFin.out.2] at hDK
              go_wp2
              have hS4 := (((bAK.set 0 (.int .i64 22)).set 1 (.int .i64 ((nL : Int) - 1))).set 2 (.int .i64 0)).set 3 (.bool false)
              have hge : w.heap.size ≤ w.heap.size + 1 := by omega
              have hD4 := (((hDK.setB (k := 0) (u := .int .i64 22) gAK haz).setB (k := 1) (u := .int .i64 ((nL : Int) - 1)) gAK haz).setB (k := 2) (u := .int .i64 0) gAK haz).setB (k := 3) (u := .bool false) gAK haz
              have hSt4 := (((hStT.setB (k := 0) (u := .int .i64 22) hge).setB (k := 1) (u := .int .i64 ((nL : Int) - 1)) hge).setB (k := 2) (u := .int .i64 0) hge).setB (k := 3) (u := .bool false) hge
              have hc4 := hS4.cell
              refine bodyPost_ret (v := .agg #[.int .i64 22, .int .i64 ((nL : Int) - 1), .int .i64 0, .bool false]) (by simp [results, Tryz.results12, go_sem, hc4]) rfl ⟨?ans, _, hD4, hSt4⟩
              case ans => rw [HFin.out.1]
          · have hkn2 : k = c.events.length := by omega
            have hgk : g = (g0 && idsAt c.events (L.drop fn)) := by have := hg.out; rwa [List.take_of_length_le (by omega)] at this
            cases g with
            | false =>
              have hgf : (g0 && idsAt c.events (L.drop fn)) = false := hgk.symm
              have hkge : ¬ (k : Int) < (c.events.length : Int) := by omega
              clear hgk hkn2
              have hFa := Lib.hid (HAct.out.2 hgf)
              have HFin : Hid ((((r.tick c.time).act c).1.val = .agg #[.int .i64 22, .int .i64 ((nL : Int) - 1), .int .i64 0, .bool false]) ∧ ((r.tick c.time).act c).2 = R.keep c.stream) := by
                unfold Hid
                rw [hFa.out]
                exact ⟨rfl, rfl⟩
              have hXc := fun t => (hO2.blk bx (by simp)).cell t
              have hHc := fun t => (hO2.blk bh (by simp)).cell t
              have hHf := fun t => (hO2.blk bh (by simp)).free t
              have hD2 := hD14.keep0 hO2
              have hSt2 := hSt14.then0 hO2
              have bh2 := hO2.blk bh (by simp)
              have bA2 := hO2.blk bA14 (by simp)
              have hsR : R.s.length + 1 ≤ 1000000 := by rw [HR.out]; show r.s.length + 1 ≤ _; omega
              clear hgf hg
              go_upto_region 50 with (fail)
              have bhW := (((bh2.set 0 (.int .i64 22)).set 1 (.int .i64 ((nL : Int) - 1))).set 2 (.int .i64 0)).set 3 (.bool false)
              have koW : Only [w9.heap.size] wr ((((wr.setCell ⟨w9.heap.size, 0, none⟩ (.int .i64 22)).setCell ⟨w9.heap.size, 1, none⟩ (.int .i64 ((nL : Int) - 1))).setCell ⟨w9.heap.size, 2, none⟩ (.int .i64 0)).setCell ⟨w9.heap.size, 3, none⟩ (.bool false)) := by
                iterate 4 (refine Only.setCell ?_ (.inl (by simp)) _)
                exact Only.refl _ _
              have bCW := koW.blk bC2 (by simp; omega)
              have bAW := koW.blk bA2 (by simp; omega)
              have hDW := hD2.keep koW (by have := h.only.size; simp; omega) (fun b hb => by simp; exact fun e => hgh (e ▸ hb))
              have hStW := (((hSt2.setB (g := w9.heap.size) (k := 0) (u := .int .i64 22) hz9).setB (g := w9.heap.size) (k := 1) (u := .int .i64 ((nL : Int) - 1)) hz9).setB (g := w9.heap.size) (k := 2) (u := .int .i64 0) hz9).setB (g := w9.heap.size) (k := 3) (u := .bool false) hz9
              obtain ⟨WW, hWW⟩ : ∃ W, W = (((wr.setCell ⟨w9.heap.size, 0, none⟩ (.int .i64 22)).setCell ⟨w9.heap.size, 1, none⟩ (.int .i64 ((nL : Int) - 1))).setCell ⟨w9.heap.size, 2, none⟩ (.int .i64 0)).setCell ⟨w9.heap.size, 3, none⟩ (.bool false) := ⟨_, rfl⟩
              rw [← hWW] at bhW koW bCW bAW hDW hStW ⊢
              clear hWW
              clear hXc hHc hHf hC2
              have HKp := Lib.hid (dkeep_any hDW c.stream (hft).few hsR ((hft).mt _) ((hft).kept _) (hft).now)
              have hCz := fun i => (bCW).cell i
              go_wp2_with fail
              refine HKp.out.mono ?_
              rintro eK wK ⟨rfl, HK, hDK, hStK⟩
              obtain ⟨bAK, gAK⟩ := hStK.keepB bAW hgA
              obtain ⟨bhK, ghK⟩ := hStK.keepB bhW hgh
              have hAKc := fun i => bAK.cell i
              have hAKf := fun i => bAK.free i
              have hhKc := fun i => bhK.cell i
              have hStT := (hStW).trans hStK
              clear HKp hCz
              rw [← HFin.out.2] at hDK
              go_wp2
              have hS4 := (((bAK.set 0 (.int .i64 22)).set 1 (.int .i64 ((nL : Int) - 1))).set 2 (.int .i64 0)).set 3 (.bool false)
              have hge : w.heap.size ≤ w.heap.size + 1 := by omega
              have hD4 := (((hDK.setB (k := 0) (u := .int .i64 22) gAK haz).setB (k := 1) (u := .int .i64 ((nL : Int) - 1)) gAK haz).setB (k := 2) (u := .int .i64 0) gAK haz).setB (k := 3) (u := .bool false) gAK haz
              have hSt4 := (((hStT.setB (k := 0) (u := .int .i64 22) hge).setB (k := 1) (u := .int .i64 ((nL : Int) - 1)) hge).setB (k := 2) (u := .int .i64 0) hge).setB (k := 3) (u := .bool false) hge
              have hc4 := hS4.cell
              refine bodyPost_ret (v := .agg #[.int .i64 22, .int .i64 ((nL : Int) - 1), .int .i64 0, .bool false]) (by simp [results, Tryz.results12, go_sem, hc4]) rfl ⟨?ans, _, hD4, hSt4⟩
              case ans => rw [HFin.out.1]
            | true =>
              have hgf : (g0 && idsAt c.events (L.drop fn)) = true := hgk.symm
              obtain ⟨hgt, -⟩ : g0 = true ∧ idsAt c.events (L.drop fn) = true := by simpa using hgf
              have hroom : fn + c.events.length ≤ nL := by
                have := HG0.out
                rw [hgt] at this
                simp at this
                omega
              have hin6 : fn + c.events.length - 1 < L.length := by have := HLen.out; omega
              obtain ⟨b6, o6, hA6, hb6, hc6⟩ := HEl.out (fn + c.events.length - 1) hin6
              subst hA6
              have hb69 := (hlt6.out b6 rfl).2
              obtain ⟨x, hx⟩ : ∃ x, x = L[fn + c.events.length - 1] := ⟨_, rfl⟩
              rw [← hx] at hc6
              have hFa := Lib.hid (HAct.out.1 hgf)
              have HFin : Hid ((((r.tick c.time).act c).1.val = .agg #[.int .i64 0, .int .i64 fn, .int .i64 x.position, .bool true]) ∧ ((r.tick c.time).act c).2 = R.keep c.stream) := by
                unfold Hid
                rw [hFa.out]
                refine ⟨?_, rfl⟩
                rw [show ((fn : Int) + (c.events.length : Int) - 1).toNat = fn + c.events.length - 1 by omega, List.getElem?_eq_getElem hin6, ← hx]
                rfl
              have hXc := fun t => (hO2.blk bx (by simp)).cell t
              have hHc := fun t => (hO2.blk bh (by simp)).cell t
              have hHf := fun t => (hO2.blk bh (by simp)).free t
              have hD2 := hD14.keep0 hO2
              have hSt2 := hSt14.then0 hO2
              have bh2 := hO2.blk bh (by simp)
              have bA2 := hO2.blk bA14 (by simp)
              have hc66 : W14.cell? ⟨b6, o6 + (fn + c.events.length - 1) * 8 + 6, none⟩ = some (.int .i64 x.position) := hc6 6 (by omega)
              have hd6 := (hO2.cell (p := ⟨b6, o6 + (fn + c.events.length - 1) * 8 + 6, none⟩) hb6 (by simp)).trans hc66
              have hsR : R.s.length + 1 ≤ 1000000 := by rw [HR.out]; show r.s.length + 1 ≤ _; omega
              have hkge : ¬ (k : Int) < (c.events.length : Int) := by omega
              clear hc6 hc66 hx hgk hgf hgt hg hkn2
              go_upto_region 28 with (fail)
              have bhW := (((bh2.set 0 (.int .i64 22)).set 1 (.int .i64 ((nL : Int) - 1))).set 2 (.int .i64 0)).set 3 (.bool false)
              have koW : Only [w9.heap.size] wr ((((wr.setCell ⟨w9.heap.size, 0, none⟩ (.int .i64 22)).setCell ⟨w9.heap.size, 1, none⟩ (.int .i64 ((nL : Int) - 1))).setCell ⟨w9.heap.size, 2, none⟩ (.int .i64 0)).setCell ⟨w9.heap.size, 3, none⟩ (.bool false)) := by
                iterate 4 (refine Only.setCell ?_ (.inl (by simp)) _)
                exact Only.refl _ _
              have bCW := koW.blk bC2 (by simp; omega)
              have bAW := koW.blk bA2 (by simp; omega)
              have hDW := hD2.keep koW (by have := h.only.size; simp; omega) (fun b hb => by simp; exact fun e => hgh (e ▸ hb))
              have hStW := (((hSt2.setB (g := w9.heap.size) (k := 0) (u := .int .i64 22) hz9).setB (g := w9.heap.size) (k := 1) (u := .int .i64 ((nL : Int) - 1)) hz9).setB (g := w9.heap.size) (k := 2) (u := .int .i64 0) hz9).setB (g := w9.heap.size) (k := 3) (u := .bool false) hz9
              obtain ⟨WW, hWW⟩ : ∃ W, W = (((wr.setCell ⟨w9.heap.size, 0, none⟩ (.int .i64 22)).setCell ⟨w9.heap.size, 1, none⟩ (.int .i64 ((nL : Int) - 1))).setCell ⟨w9.heap.size, 2, none⟩ (.int .i64 0)).setCell ⟨w9.heap.size, 3, none⟩ (.bool false) := ⟨_, rfl⟩
              rw [← hWW] at bhW koW bCW bAW hDW hStW ⊢
              clear hWW
              have hd7 := (koW.cell (p := ⟨b6, o6 + (fn + c.events.length - 1) * 8 + 6, none⟩) (by have := hO2.size; show b6 < _; omega) (by simp; omega)).trans hd6
              have hCW := fun t => bCW.cell t
              have hHW := fun t => bhW.cell t
              have hHWf := fun t => bhW.free t
              have hidx1 : (fn : Int) + (c.events.length : Int) - 1 < (nL : Int) := by omega
              have hidx0 : ¬ (fn : Int) + (c.events.length : Int) - 1 < 0 := by omega
              have hidx2 : ((fn : Int) + (c.events.length : Int) - 1).toNat = fn + c.events.length - 1 := by omega
              clear hXc hHc hHf hd6 hC2
              go_upto_region 50 with (fail)
              have bhW := (((bhW.set 0 (.int .i64 0)).set 1 (.int .i64 fn)).set 2 (.int .i64 x.position)).set 3 (.bool true)
              have koW : Only [w9.heap.size] WW ((((WW.setCell ⟨w9.heap.size, 0, none⟩ (.int .i64 0)).setCell ⟨w9.heap.size, 1, none⟩ (.int .i64 fn)).setCell ⟨w9.heap.size, 2, none⟩ (.int .i64 x.position)).setCell ⟨w9.heap.size, 3, none⟩ (.bool true)) := by
                iterate 4 (refine Only.setCell ?_ (.inl (by simp)) _)
                exact Only.refl _ _
              have bCW := koW.blk bCW (by simp; omega)
              have bAW := koW.blk bAW (by simp; omega)
              have hDW := hDW.keep koW (by have := h.only.size; simp; omega) (fun b hb => by simp; exact fun e => hgh (e ▸ hb))
              have hStW := (((hStW.setB (g := w9.heap.size) (k := 0) (u := .int .i64 0) hz9).setB (g := w9.heap.size) (k := 1) (u := .int .i64 fn) hz9).setB (g := w9.heap.size) (k := 2) (u := .int .i64 x.position) hz9).setB (g := w9.heap.size) (k := 3) (u := .bool true) hz9
              obtain ⟨WW, hWW⟩ : ∃ W, W = (((WW.setCell ⟨w9.heap.size, 0, none⟩ (.int .i64 0)).setCell ⟨w9.heap.size, 1, none⟩ (.int .i64 fn)).setCell ⟨w9.heap.size, 2, none⟩ (.int .i64 x.position)).setCell ⟨w9.heap.size, 3, none⟩ (.bool true) := ⟨_, rfl⟩
              rw [← hWW] at bhW koW bCW bAW hDW hStW ⊢
              clear hWW
              clear hCW hHW hHWf hd7
              have HKp := Lib.hid (dkeep_any hDW c.stream (hft).few hsR ((hft).mt _) ((hft).kept _) (hft).now)
              have hCz := fun i => (bCW).cell i
              go_wp2_with fail
              refine HKp.out.mono ?_
              rintro eK wK ⟨rfl, HK, hDK, hStK⟩
              obtain ⟨bAK, gAK⟩ := hStK.keepB bAW hgA
              obtain ⟨bhK, ghK⟩ := hStK.keepB bhW hgh
              have hAKc := fun i => bAK.cell i
              have hAKf := fun i => bAK.free i
              have hhKc := fun i => bhK.cell i
              have hStT := (hStW).trans hStK
              clear HKp hCz
              rw [← HFin.out.2] at hDK
              go_wp2
              have hS4 := (((bAK.set 0 (.int .i64 0)).set 1 (.int .i64 fn)).set 2 (.int .i64 x.position)).set 3 (.bool true)
              have hge : w.heap.size ≤ w.heap.size + 1 := by omega
              have hD4 := (((hDK.setB (k := 0) (u := .int .i64 0) gAK haz).setB (k := 1) (u := .int .i64 fn) gAK haz).setB (k := 2) (u := .int .i64 x.position) gAK haz).setB (k := 3) (u := .bool true) gAK haz
              have hSt4 := (((hStT.setB (k := 0) (u := .int .i64 0) hge).setB (k := 1) (u := .int .i64 fn) hge).setB (k := 2) (u := .int .i64 x.position) hge).setB (k := 3) (u := .bool true) hge
              have hc4 := hS4.cell
              refine bodyPost_ret (v := .agg #[.int .i64 0, .int .i64 fn, .int .i64 x.position, .bool true]) (by simp [results, Tryz.results12, go_sem, hc4]) rfl ⟨?ans, _, hD4, hSt4⟩
              case ans => rw [HFin.out.1]
end
end Go.Proofs.YtikboecmcbcghaaGreat
