/- Proved here: contracts of functions and plain laws, part 12 of one proof. Conditions: each theorem names its own. -/
import Derived.Test.YteinoiicnmemhaaGreatDoorZ6
import Derived.Test.YteinoiicnmemhaaGreatDoorZ10
import Derived.StillTailTactics
set_option linter.unusedSimpArgs false
set_option linter.unusedVariables false
namespace Go.Proofs.YteinoiicnmemhaaGreatDoor
section
open Go.RowKit
set_option maxHeartbeats 2000000 in
theorem floorOf_any {w : World} {M : List Nat} {sb mb : Nat} {av pv : Value} {pf : ByteArray → Value} {s : MS} {x : StreamR} (h : StAt w M sb mb av pf s) (hn : 0 ≤ s.now ∧ s.now ≤ 1099511627776) (hp : Slc w 1 pv x.places.length (ints x.places))
    (hx : ∀ p ∈ x.places, 0 ≤ p ∧ p < s.all.length) (hl : x.places.length ≤ 1000000000) (hm : x.mt.ok = true) (hf : 0 ≤ x.floor ∧ x.floor ≤ x.places.length) :
    Calls Tryz.prog 22 #[.pointer (some ⟨sb, 0, none⟩), x.val pv] w fun e w' => e = .returned (.int .i64 (s.floorOf x)) ∧ Only [] w w' := by
  obtain ⟨A, cap, hpv, _⟩ := hp.openI
  have htl := times_len s.all x
  have hW : Only [] w (w.alloc (.cells #[pv, .int .i64 x.mt.maxCount, .int .i64 x.mt.maxAge, .int .i64 x.mt.before, .int .i64 x.floor, .bool x.deleted] 75)).drew := ((Only.refl [] w).alloc _).drew
  have HT := Lib.hid (times_any (h.only0 hW) (hp.only0 hW) hx hl)
  have HF := Lib.hid (fun (W : World) (v : Value) (hv : Slc W 1 v (times s.all x).length (ints (times s.all x))) => floor_any (m := x.mt) (floor := x.floor) (now := s.now) hv ⟨hn.1, by omega⟩ hm ⟨hf.1, by omega⟩ (by omega))
  have c3 : w.cell? ⟨sb, 3, none⟩ = some (.int .i64 s.now) := h.blk.cell 3
  have hbl := h.blk.lt
  have HN : Hid (s.floorOf x = floorE x.mt x.floor s.now (times s.all x)) := rfl
  obtain ⟨nw, hnw⟩ : ∃ nw, nw = s.now := ⟨_, rfl⟩
  rw [← hnw] at c3 HN HF
  obtain ⟨ts, hts⟩ : ∃ ts, ts = times s.all x := ⟨_, rfl⟩
  rw [← hts] at HT HF HN
  clear htl hn hts hnw
  rw [HN.out]
  subst hpv
  obtain ⟨places, ⟨a, b, d⟩, fl, del⟩ := x
  simp only [StreamR.val, MetaR.val] at HT HF hW HN ⊢
  clear hf hm hx hp HN
  go_enter Tryz.func22, Tryz.ntmps22
  go_wp2_with fail
  go_region_held3 (fun w' => w'.cell? ⟨w.heap.size, 0, none⟩ = some (.slice A places.length cap) ∧ w'.cell? ⟨w.heap.size, 1, none⟩ = some (.int .i64 a) ∧ w'.cell? ⟨w.heap.size, 2, none⟩ = some (.int .i64 b) ∧ w'.cell? ⟨w.heap.size, 3, none⟩ = some (.int .i64 d) ∧
      w'.cell? ⟨w.heap.size, 4, none⟩ = some (.int .i64 fl) ∧ w'.cell? ⟨w.heap.size, 5, none⟩ = some (.bool del) ∧ w'.cell? ⟨sb, 3, none⟩ = some (.int .i64 nw))
    (first | go_keep | (go_split_ands; refine ⟨?_, ?_, ?_, ?_, ?_, ?_, ?_⟩ <;> (rw [ho1.cell (block_lt_of_cell (by assumption)) (by simp)]; assumption)) | (go_split_ands; refine ⟨?_, ?_, ?_, ?_, ?_, ?_, ?_⟩ <;> (rw [ho2.cell (block_lt_of_cell (by assumption)) (by simp)]; assumption)))
    (first
      | (go_at_call 58; refine HT.out.mono ?_; rintro e w1 ⟨v1, rfl, hv1, ho1⟩)
      | (go_at_call 57; refine (HF.out _ _ hv1).mono ?_; rintro e w2 ⟨rfl, ho2⟩))
  go_wp2
  go_ret
  exact ⟨rfl, (hW.trans ho1).trans ho2⟩
set_option maxRecDepth 100000 in
theorem put_any {w : World} {M : List Nat} {sb mb : Nat} {av pv : Value} {pf : ByteArray → Value} {s : MS} {x : StreamR} (h : StAt w M sb mb av pf s) (n : ByteArray) (hp : Rd M w 1 pv x.places.length (ints x.places)) :
    Calls Tryz.prog 64 #[.pointer (some ⟨sb, 0, none⟩), .string n, x.val pv] w fun e w' => e = .returned (.tuple #[]) ∧ StAt w' M sb mb av (fun k => if k = n then pv else pf k) (s.put n x) ∧ Only [mb] w w' := by
  obtain ⟨A, cap, hpv, _⟩ := hp.1.openI
  have hfin : ∀ w', MapIs Value.string w' mb (aput (s.m.map fun p => (p.1, p.2.val (pf p.1))) n (x.val pv)) → Only [mb] w w' → StAt w' M sb mb av (fun k => if k = n then pv else pf k) (s.put n x) := by
    intro w' hm hO
    refine ⟨hO.blk h.blk (by simp; exact fun e => h.ne e.symm), own_only h.own hO (fun g hg => by simp; exact (h.ownne g hg).2), ?_, fun k y hy => ?_, h.inM, fun g hg => Nat.lt_of_lt_of_le (h.mlt g hg) hO.size⟩
    · rw [aput_mapk (fun k x => StreamR.val x (pf k)) (fun k x => StreamR.val x (if k = n then pv else pf k)) s.m h.nodup n x (x.val pv) (by simp) (fun a ha => by funext y; rw [if_neg ha])] at hm
      exact hm
    · have hk := aget_of_mem (aput_nodup h.nodup n x) hy
      rw [aget_aput] at hk
      by_cases e : n = k
      · subst e
        rw [if_pos rfl] at hk
        injection hk with hk
        subst hk
        simp only [if_true]
        exact hp.only hO (by simp; exact h.inM.2.1)
      · rw [if_neg e] at hk
        rw [if_neg (fun q => e q.symm)]
        exact (h.pl k y (aget_mem hk)).only hO (by simp; exact h.inM.2.1)
  have HF := Lib.hid hfin
  have c1 : ∀ o, (w.alloc o).cell? ⟨sb, 1, none⟩ = some (.map (some mb)) := fun o => (World.cell?_alloc_lt w o _ h.blk.lt).trans (h.blk.cell 1)
  have hne := fun w => run_eql_map_nil (P := Tryz.prog) w 70 _ _ (some mb) Tryz.underlying70
  have hM : ∀ o, MapIs Value.string (w.alloc o).drew mb (s.m.map fun p => (p.1, p.2.val (pf p.1))) := fun o => (h.map.alloc o).drew
  clear hfin
  subst hpv
  obtain ⟨places, ⟨a, b, d⟩, fl, del⟩ := x
  simp only [StreamR.val] at HF ⊢
  clear hp
  go_enter Tryz.func64, Tryz.ntmps64
  go_wp2
  refine wp_region_stail 6 (by kernel_rfl) (by kernel_rfl) ?_
  simp only [List.take_succ_cons, List.take_zero, List.drop_succ_cons, List.drop_zero]
  repeat still_step
  refine wpStill_nil ?_
  refine wpList_update_is rfl 70 rfl keyEnc_string Tryz.underlying70 Tryz.underlying9 n (.agg #[.slice A places.length cap, .int .i64 a, .int .i64 b, .int .i64 d, .int .i64 fl, .bool del]) (by rfl) (by rfl) (by rfl) (hM _) ?_
  intro w5 hm5 hu5
  have hO : Only [mb] w w5 := (((Only.refl [mb] w).alloc _).drew).trans hu5
  have hF := HF.out w5 hm5 hO
  go_wp2
  go_end0
  exact ⟨rfl, hF, hO⟩
end
section
open Go.RowKit
/-- A stream that may be looked at with the state s. -/
structure XOk (s : MS) (x : StreamR) : Prop where
  mt : x.mt.ok = true
  fl : 0 ≤ x.floor ∧ x.floor ≤ x.places.length
  pl : ∀ p ∈ x.places, 0 ≤ p ∧ p < s.all.length
  few : x.places.length ≤ s.all.length
theorem MS.Ok.xok {s : MS} {N : Nat} (h : s.Ok N) (n : ByteArray) : XOk s (s.find n) := by
  obtain ⟨h1, h2, h3, h4, h5⟩ := h.find n
  exact ⟨h1, ⟨h2, h3⟩, h5, h4⟩
theorem floorE_bd (m : MetaR) (f now : Int) (ts : List Int) : 0 ≤ floorE m f now ts ∧ floorE m f now ts ≤ ts.length := by
  unfold floorE
  dsimp only
  have h1 : 0 ≤ max (max f 0) m.before := by omega
  generalize max (max f 0) m.before = o1 at *
  have h2 : 0 ≤ (if 0 < m.maxCount then max o1 (ts.length - m.maxCount) else o1) := by split <;> omega
  generalize (if 0 < m.maxCount then max o1 (ts.length - m.maxCount) else o1) = o2 at *
  have h3 : 0 ≤ (if 0 < m.maxAge then max o2 (young m.maxAge now ts) else o2) := by split <;> omega
  generalize (if 0 < m.maxAge then max o2 (young m.maxAge now ts) else o2) = o3 at *
  omega
theorem floorOf_bd (s : MS) (x : StreamR) : 0 ≤ s.floorOf x ∧ s.floorOf x ≤ x.places.length := by
  have := floorE_bd x.mt x.floor s.now (times s.all x)
  rw [times_len] at this
  exact this
theorem keep_any {w : World} {M : List Nat} {sb mb N : Nat} {av pv : Value} {pf : ByteArray → Value} {s : MS} {x : StreamR} (h : StAt w M sb mb av pf s) (hn : 0 ≤ s.now ∧ s.now ≤ 1099511627776) (ha : s.all.length ≤ 1000000000) (hx : XOk s x) (n : ByteArray)
    (hp : Rd M w 1 pv x.places.length (ints x.places)) :
    Calls Tryz.prog 24 #[.pointer (some ⟨sb, 0, none⟩), .string n, x.val pv] w fun e w' => e = .returned (.tuple #[]) ∧ StAt w' M sb mb av (fun k => if k = n then pv else pf k) (s.keep n x) ∧ Only [mb] w w' := by
  obtain ⟨A, cap, hpv, _⟩ := hp.1.openI
  have hl : x.places.length ≤ 1000000000 := Nat.le_trans hx.few ha
  have hW : Only [] w (w.alloc (.cells #[pv, .int .i64 x.mt.maxCount, .int .i64 x.mt.maxAge, .int .i64 x.mt.before, .int .i64 x.floor, .bool x.deleted] 75)) := (Only.refl [] w).alloc _
  have HF := Lib.hid (floorOf_any (h.only0 hW) hn (hp.1.only0 hW) hx.pl hl hx.mt hx.fl)
  have HP := Lib.hid (fun (W : World) (hw : Only [] w W) => put_any (x := { x with floor := s.floorOf x }) (h.only0 hw) n (hp.only0 hw))
  obtain ⟨fo, hfo⟩ : ∃ fo, fo = s.floorOf x := ⟨_, rfl⟩
  have HK : Hid (s.keep n x = s.put n { x with floor := fo }) := by rw [hfo]; rfl
  rw [← hfo] at HF HP
  rw [HK.out]
  clear hn hfo HK hx hl
  subst hpv
  obtain ⟨places, ⟨a, b, d⟩, fl, del⟩ := x
  simp only [StreamR.val] at HF HP hW ⊢
  clear hp
  go_enter Tryz.func24, Tryz.ntmps24
  go_wp2_with (first
    | (go_at_call 22; refine HF.out.mono ?_; rintro e w1 ⟨rfl, ho1⟩; have hc1 := fun i => (ho1.blk (Blk.new w 75 _) (by simp)).cell i; have hf1 := fun i => (ho1.blk (Blk.new w 75 _) (by simp)).free i)
    | (go_at_call 64; refine (HP.out _ ((hW.trans ho1).setCell (.inr (Nat.le_refl _)) _)).mono ?_; rintro e w2 ⟨rfl, hs2, ho2⟩))
  go_end0
  exact ⟨rfl, hs2, (((hW.trans ho1).setCell (.inr (Nat.le_refl _)) _).of_nil).trans ho2⟩
theorem wrong_any {w : World} {pv : Value} {x : StreamR} (hp : Slc w 1 pv x.places.length (ints x.places)) (hl : x.places.length ≤ 1000000000) :
    Calls Tryz.prog 60 #[x.val pv] w fun e w' => e = .returned (wrong x).val ∧ Only [] w w' := by
  obtain ⟨A, cap, rfl, _⟩ := hp.openI
  obtain ⟨places, ⟨a, b, d⟩, fl, del⟩ := x
  simp only [StreamR.val, wrong, Ans.val] at hl ⊢
  clear hp
  go_enter Tryz.func60, Tryz.ntmps60
  go_wp2
  exact bodyPost_ret (v := .agg #[.int .i64 22, .int .i64 ((places.length : Int) - 1), .int .i64 0, .bool false]) (by simp [results, Tryz.results60, go_sem]) rfl ⟨rfl, ((Only.refl [] w).alloc _).alloc _⟩
end
section
open Go.RowKit
theorem idAt_nat {all : List StoredR} {q : Nat} (h : q < all.length) : idAt all (q : Int) = all[q].ev.id := by simp [idAt, h]
set_option maxRecDepth 100000 in
theorem first1_any {w : World} {M : List Nat} {sb mb b3 b5 : Nat} {av : Value} {pf : ByteArray → Value} {s : MS} {p id : Int} (h : StAt w M sb mb av pf s) (hp : 0 ≤ p ∧ p < s.all.length)
    (h3 : w.cell? ⟨b3, 0, none⟩ = some (.pointer (some ⟨sb, 0, none⟩))) (h5 : w.cell? ⟨b5, 0, none⟩ = some (.int .i64 id)) :
    Calls Tryz.prog 98 #[.int .i64 p, .pointer (some ⟨b3, 0, none⟩), .pointer (some ⟨b5, 0, none⟩)] w fun e w' => e = .returned (.bool (decide (idAt s.all p = id))) ∧ Only [] w w' := by
  obtain ⟨A2, cap2, rfl, hnc2, hcm2, hel2⟩ := h.cell
  unfold maxLen at hcm2
  obtain ⟨q, rfl⟩ := Int.eq_ofNat_of_zero_le hp.1
  have hq : q < s.all.length := by omega
  obtain ⟨b2, rfl, hb2, hc2⟩ := hel2 q hq
  have c0 : w.cell? ⟨sb, 0, none⟩ = some (.slice (some ⟨b2, 0, none⟩) s.all.length cap2) := h.blk.cell 0
  have ci : w.cell? ⟨b2, q * 8, none⟩ = some (.int .i64 s.all[q].ev.id) := hc2 0 (by omega)
  rw [idAt_nat hq]
  obtain ⟨z, hz⟩ : ∃ z, z = s.all[q].ev.id := ⟨_, rfl⟩
  rw [← hz] at ci ⊢
  have hqi : (q : Int) < s.all.length := by omega
  clear hz hc2 hel2
  by_cases he : z = id
  · have hb : (z == id) = true := by simpa using he
    have HR : Hid (decide (z = id) = true) := by unfold Hid; simpa using he
    clear he
    go_enter Tryz.func98, Tryz.ntmps98
    go_wp2
    refine wp_region_stail 11 (by kernel_rfl) (by kernel_rfl) ?_
    simp only [List.take_succ_cons, List.take_zero, List.drop_succ_cons, List.drop_zero]
    repeat still_step
    refine wpStill_nil ?_
    go_wp2
    go_ret
    exact ⟨ret_b (by rw [HR.out]), (Only.refl [] w).drew⟩
  · have hb : (z == id) = false := by simpa using he
    have HR : Hid (decide (z = id) = false) := by unfold Hid; simpa using he
    clear he
    go_enter Tryz.func98, Tryz.ntmps98
    go_wp2
    refine wp_region_stail 11 (by kernel_rfl) (by kernel_rfl) ?_
    simp only [List.take_succ_cons, List.take_zero, List.drop_succ_cons, List.drop_zero]
    repeat still_step
    refine wpStill_nil ?_
    go_wp2
    go_ret
    exact ⟨ret_b (by rw [HR.out]), (Only.refl [] w).drew⟩
theorem firstOf_drop (all : List StoredR) (id : Int) (ps : List Int) (k : Nat) (h : k < ps.length) (i : Int) : firstOf all id (ps.drop k) i = if idAt all ps[k] = id then i else firstOf all id (ps.drop (k + 1)) (i + 1) := by
  rw [List.drop_eq_getElem_cons h]
  rfl
theorem idx_any {w : World} {M : List Nat} {sb mb b3 b5 : Nat} {av pv : Value} {pf : ByteArray → Value} {s : MS} {ps : List Int} {id : Int} (h : StAt w M sb mb av pf s) (hp : Slc w 1 pv ps.length (ints ps)) (hx : ∀ p ∈ ps, 0 ≤ p ∧ p < s.all.length)
    (h3 : w.cell? ⟨b3, 0, none⟩ = some (.pointer (some ⟨sb, 0, none⟩))) (h5 : w.cell? ⟨b5, 0, none⟩ = some (.int .i64 id)) :
    Calls Tryz.prog 97 #[pv, .func (.func 98) #[] #[.pointer (some ⟨b3, 0, none⟩), .pointer (some ⟨b5, 0, none⟩)]] w fun e w' => e = .returned (.int .i64 (firstOf s.all id ps 0)) ∧ Only [] w w' := by
  obtain ⟨A, cap, rfl, hnc, hcm, hel⟩ := hp.openI
  unfold maxLen at hcm
  have l3 := block_lt_of_cell h3
  have l5 := block_lt_of_cell h5
  have HC := Lib.hid (fun (W : World) (hw : Only [] w W) (p : Int) (hp : p ∈ ps) => first1_any (p := p) (id := id) (h.only0 hw) (hx p hp) ((hw.cell l3 (by simp)).trans h3) ((hw.cell l5 (by simp)).trans h5))
  clear h3 h5 hx hp
  go_enter Tryz.func97, Tryz.ntmps97
  go_wp2
  go_loopw [8] (fun i wr => ∃ k : Nat, k ≤ ps.length ∧ i = .int .i64 k ∧ Hid (firstOf s.all id ps 0 = firstOf s.all id (ps.drop k) k) ∧ Only [] w wr) (fun i _ => ps.length - (intOf i).toNat)
  case atStart => exact ⟨0, Nat.zero_le _, rfl, rfl, Only.refl _ _⟩
  case round =>
    obtain ⟨k, hk, rfl, hT, hO⟩ := hrel
    by_cases hlt : k < ps.length
    · obtain ⟨b1, off1, rfl, hb1, hc1⟩ := hel k hlt
      rw [← hO.cell hb1 (by simp)] at hc1
      have hd := firstOf_drop s.all id ps k hlt k
      have hcl := HC.out wr hO ps[k] (List.getElem_mem hlt)
      obtain ⟨p, hp⟩ : ∃ p, p = ps[k] := ⟨_, rfl⟩
      rw [← hp] at hc1 hd hcl
      by_cases he : idAt s.all p = id
      · have HR : Hid (firstOf s.all id ps 0 = k) := by unfold Hid; rw [hT.out, hd, if_pos he]
        rw [decide_eq_true he] at hcl
        have HCL := Lib.hid hcl
        clear hcl hd hp he hel
        go_wp2_with (go_at_call 98; refine HCL.out.mono ?_; rintro e w1 ⟨rfl, ho1⟩)
        go_ret
        exact ⟨ret_i (by rw [HR.out]), hO.trans ho1⟩
      · have HR : Hid (firstOf s.all id ps 0 = firstOf s.all id (ps.drop (k + 1)) ((k + 1 : Nat) : Int)) := by unfold Hid; rw [hT.out, hd, if_neg he]; simp
        rw [decide_eq_false he] at hcl
        have HCL := Lib.hid hcl
        clear hcl hd hp he hel
        go_wp2_with (go_at_call 98; refine HCL.out.mono ?_; rintro e w1 ⟨rfl, ho1⟩)
        exact ⟨⟨k + 1, hlt, by simp, HR, hO.trans ho1⟩, by simp [intOf]; omega⟩
    · have HR : Hid (firstOf s.all id ps 0 = -1) := by
        unfold Hid
        rw [hT.out, List.drop_of_length_le (by omega)]
        rfl
      go_wp2
      go_ret
      exact ⟨ret_i (by rw [HR.out]), hO⟩
theorem first_any {w : World} {M : List Nat} {sb mb : Nat} {av pv : Value} {pf : ByteArray → Value} {s : MS} {x : StreamR} (id : Int) (h : StAt w M sb mb av pf s) (hx : XOk s x) (hp : Slc w 1 pv x.places.length (ints x.places)) :
    Calls Tryz.prog 61 #[.pointer (some ⟨sb, 0, none⟩), x.val pv, .int .i64 id] w fun e w' => e = .returned (.int .i64 (s.first x id)) ∧ Only [] w w' := by
  obtain ⟨A, cap, hpv, _⟩ := hp.openI
  have HI := Lib.hid (fun (W : World) (hw : Only [] w W) (h3 : W.cell? ⟨w.heap.size, 0, none⟩ = some (.pointer (some ⟨sb, 0, none⟩))) (h5 : W.cell? ⟨w.heap.size + 1 + 1, 0, none⟩ = some (.int .i64 id)) => idx_any (id := id) (h.only0 hw) (hp.only0 hw) hx.pl h3 h5)
  unfold MS.first
  subst hpv
  obtain ⟨places, ⟨a, b, d⟩, fl, del⟩ := x
  simp only [StreamR.val] at HI ⊢
  clear hp hx
  have hW : ∀ o1 o2 o3, Only [] w (((w.alloc o1).alloc o2).alloc o3) := fun o1 o2 o3 => (((Only.refl [] w).alloc _).alloc _).alloc _
  have q3 : ∀ v t o2 o3, (((w.alloc (.cells #[v] t)).alloc o2).alloc o3).cell? ⟨w.heap.size, 0, none⟩ = some v := fun v t o2 o3 => ((((Only.refl [] _).alloc o2).alloc o3).blk (Blk.new w t #[v]) (by simp)).cell 0
  have q5 : ∀ v t o1 o2, (((w.alloc o1).alloc o2).alloc (.cells #[v] t)).cell? ⟨w.heap.size + 1 + 1, 0, none⟩ = some v := fun v t o1 o2 => by
    have := (Blk.new ((w.alloc o1).alloc o2) t #[v]).cell 0
    simpa using this
  go_enter Tryz.func61, Tryz.ntmps61
  go_wp2_with (go_at_call 97; refine (HI.out _ (hW _ _ _) (q3 _ _ _ _) (q5 _ _ _ _)).mono ?_; rintro e w1 ⟨rfl, ho1⟩)
  go_ret
  exact ⟨rfl, (hW _ _ _).trans ho1⟩
end
end Go.Proofs.YteinoiicnmemhaaGreatDoor
