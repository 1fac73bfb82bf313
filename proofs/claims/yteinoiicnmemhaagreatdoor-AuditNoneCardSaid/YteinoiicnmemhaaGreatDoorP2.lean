/- Proved here: contracts of functions and plain laws, part 2 of one proof. Conditions: each theorem names its own. -/
import Derived.Test.YteinoiicnmemhaaGreatDoorP1
import Derived.Deep.DeepCutAuto
import Derived.Laws.BytesArg
import Derived.Lib.ConvBytes
import Derived.Deep.AppendLies
/- Contracts: keep, first, wrong, again. -/
set_option linter.unusedVariables false
set_option linter.unusedSimpArgs false
namespace Go.Proofs.YteinoiicnmemhaaGreatDoor
open Go.RowKit
/-- A stream that may be looked at with the state s. -/
structure XOk (s : MS) (x : StreamR) : Prop where
  mt : x.mt.ok = true
  fl : 0 ≤ x.floor ∧ x.floor ≤ x.places.length
  pl : ∀ p ∈ x.places, 0 ≤ p ∧ p < s.all.length
  few : x.places.length ≤ s.all.length
theorem MS.Ok.xok {s : MS} {N : Nat} (h : s.Ok N) (n : ByteArray) : XOk s (s.find n) := by
  obtain ⟨h1, h2, h3, h4, h5⟩ := h.find n
  exact ⟨h1, ⟨h2, h3⟩, h5, h4⟩
theorem floorE_bd (m : MetaR) (f now : Int) (ts : List Int) : 0 ≤ floorE m f now ts ∧ floorE m f now ts ≤ ts.length := by
  unfold floorE
  dsimp only
  have h1 : 0 ≤ max (max f 0) m.before := by omega
  generalize max (max f 0) m.before = o1 at *
  have h2 : 0 ≤ (if 0 < m.maxCount then max o1 (ts.length - m.maxCount) else o1) := by split <;> omega
  generalize (if 0 < m.maxCount then max o1 (ts.length - m.maxCount) else o1) = o2 at *
  have h3 : 0 ≤ (if 0 < m.maxAge then max o2 (young m.maxAge now ts) else o2) := by split <;> omega
  generalize (if 0 < m.maxAge then max o2 (young m.maxAge now ts) else o2) = o3 at *
  omega
theorem floorOf_bd (s : MS) (x : StreamR) : 0 ≤ s.floorOf x ∧ s.floorOf x ≤ x.places.length := by
  have := floorE_bd x.mt x.floor s.now (times s.all x)
  rw [times_len] at this
  exact this
theorem keep_any {w : World} {M : List Nat} {sb mb N : Nat} {av pv : Value} {pf : ByteArray → Value} {s : MS} {x : StreamR} (h : StAt w M sb mb av pf s) (hn : 0 ≤ s.now ∧ s.now ≤ 1099511627776) (ha : s.all.length ≤ 1000000000) (hx : XOk s x) (n : ByteArray)
    (hp : Rd M w 1 pv x.places.length (ints x.places)) :
    Calls Tryz.prog 24 #[.pointer (some ⟨sb, 0, none⟩), .string n, x.val pv] w fun e w' => e = .returned (.tuple #[]) ∧ StAt w' M sb mb av (fun k => if k = n then pv else pf k) (s.keep n x) ∧ Only [mb] w w' := by
  obtain ⟨A, cap, hpv, _⟩ := hp.1.openI
  have hl : x.places.length ≤ 1000000000 := Nat.le_trans hx.few ha
  have hW : Only [] w (w.alloc (.cells #[pv, .int .i64 x.mt.maxCount, .int .i64 x.mt.maxAge, .int .i64 x.mt.before, .int .i64 x.floor, .bool x.deleted] 75)) := (Only.refl [] w).alloc _
  have HF := Lib.hid (floorOf_any (h.only0 hW) hn (hp.1.only0 hW) hx.pl hl hx.mt hx.fl)
  have HP := Lib.hid (fun (W : World) (hw : Only [] w W) => put_any (x := { x with floor := s.floorOf x }) (h.only0 hw) n (hp.only0 hw))
  obtain ⟨fo, hfo⟩ : ∃ fo, fo = s.floorOf x := ⟨_, rfl⟩
  have HK : Hid (s.keep n x = s.put n { x with floor := fo }) := by rw [hfo]; rfl
  rw [← hfo] at HF HP
  rw [HK.out]
  clear hn hfo HK hx hl
  subst hpv
  obtain ⟨places, ⟨a, b, d⟩, fl, del⟩ := x
  simp only [StreamR.val] at HF HP hW ⊢
  clear hp
  go_enter Tryz.func24, Tryz.ntmps24
  go_wp2_with (first
    | (go_at_call 22; refine HF.out.mono ?_; rintro e w1 ⟨rfl, ho1⟩; have hc1 := fun i => (ho1.blk (Blk.new w 75 _) (by simp)).cell i; have hf1 := fun i => (ho1.blk (Blk.new w 75 _) (by simp)).free i)
    | (go_at_call 64; refine (HP.out _ ((hW.trans ho1).setCell (.inr (Nat.le_refl _)) _)).mono ?_; rintro e w2 ⟨rfl, hs2, ho2⟩))
  go_end0
  exact ⟨rfl, hs2, (((hW.trans ho1).setCell (.inr (Nat.le_refl _)) _).of_nil).trans ho2⟩
theorem wrong_any {w : World} {pv : Value} {x : StreamR} (hp : Slc w 1 pv x.places.length (ints x.places)) (hl : x.places.length ≤ 1000000000) :
    Calls Tryz.prog 60 #[x.val pv] w fun e w' => e = .returned (wrong x).val ∧ Only [] w w' := by
  obtain ⟨A, cap, rfl, _⟩ := hp.openI
  obtain ⟨places, ⟨a, b, d⟩, fl, del⟩ := x
  simp only [StreamR.val, wrong, Ans.val] at hl ⊢
  clear hp
  go_enter Tryz.func60, Tryz.ntmps60
  go_wp2
  exact bodyPost_ret (v := .agg #[.int .i64 22, .int .i64 ((places.length : Int) - 1), .int .i64 0, .bool false]) (by simp [results, Tryz.results60, go_sem]) rfl ⟨rfl, ((Only.refl [] w).alloc _).alloc _⟩
end Go.Proofs.YteinoiicnmemhaaGreatDoor
/- Contracts: first, again. -/
set_option linter.unusedVariables false
set_option linter.unusedSimpArgs false
namespace Go.Proofs.YteinoiicnmemhaaGreatDoor
open Go.RowKit
theorem idAt_nat {all : List StoredR} {q : Nat} (h : q < all.length) : idAt all (q : Int) = all[q].ev.id := by simp [idAt, h]
set_option maxRecDepth 100000 in
theorem first1_any {w : World} {M : List Nat} {sb mb b3 b5 : Nat} {av : Value} {pf : ByteArray → Value} {s : MS} {p id : Int} (h : StAt w M sb mb av pf s) (hp : 0 ≤ p ∧ p < s.all.length)
    (h3 : w.cell? ⟨b3, 0, none⟩ = some (.pointer (some ⟨sb, 0, none⟩))) (h5 : w.cell? ⟨b5, 0, none⟩ = some (.int .i64 id)) :
    Calls Tryz.prog 98 #[.int .i64 p, .pointer (some ⟨b3, 0, none⟩), .pointer (some ⟨b5, 0, none⟩)] w fun e w' => e = .returned (.bool (decide (idAt s.all p = id))) ∧ Only [] w w' := by
  obtain ⟨A2, cap2, rfl, hnc2, hcm2, hel2⟩ := h.cell
  unfold maxLen at hcm2
  obtain ⟨q, rfl⟩ := Int.eq_ofNat_of_zero_le hp.1
  have hq : q < s.all.length := by omega
  obtain ⟨b2, rfl, hb2, hc2⟩ := hel2 q hq
  have c0 : w.cell? ⟨sb, 0, none⟩ = some (.slice (some ⟨b2, 0, none⟩) s.all.length cap2) := h.blk.cell 0
  have ci : w.cell? ⟨b2, q * 8, none⟩ = some (.int .i64 s.all[q].ev.id) := hc2 0 (by omega)
  rw [idAt_nat hq]
  obtain ⟨z, hz⟩ : ∃ z, z = s.all[q].ev.id := ⟨_, rfl⟩
  rw [← hz] at ci ⊢
  have hqi : (q : Int) < s.all.length := by omega
  clear hz hc2 hel2
  by_cases he : z = id
  · have hb : (z == id) = true := by simpa using he
    have HR : Hid (decide (z = id) = true) := by unfold Hid; simpa using he
    clear he
    go_enter Tryz.func98, Tryz.ntmps98
    go_wp2
    refine wp_region_stail 11 (by kernel_rfl) (by kernel_rfl) ?_
    simp only [List.take_succ_cons, List.take_zero, List.drop_succ_cons, List.drop_zero]
    repeat still_step
    refine wpStill_nil ?_
    go_wp2
    go_ret
    exact ⟨ret_b (by rw [HR.out]), (Only.refl [] w).drew⟩
  · have hb : (z == id) = false := by simpa using he
    have HR : Hid (decide (z = id) = false) := by unfold Hid; simpa using he
    clear he
    go_enter Tryz.func98, Tryz.ntmps98
    go_wp2
    refine wp_region_stail 11 (by kernel_rfl) (by kernel_rfl) ?_
    simp only [List.take_succ_cons, List.take_zero, List.drop_succ_cons, List.drop_zero]
    repeat still_step
    refine wpStill_nil ?_
    go_wp2
    go_ret
    exact ⟨ret_b (by rw [HR.out]), (Only.refl [] w).drew⟩
theorem firstOf_drop (all : List StoredR) (id : Int) (ps : List Int) (k : Nat) (h : k < ps.length) (i : Int) : firstOf all id (ps.drop k) i = if idAt all ps[k] = id then i else firstOf all id (ps.drop (k + 1)) (i + 1) := by
  rw [List.drop_eq_getElem_cons h]
  rfl
theorem idx_any {w : World} {M : List Nat} {sb mb b3 b5 : Nat} {av pv : Value} {pf : ByteArray → Value} {s : MS} {ps : List Int} {id : Int} (h : StAt w M sb mb av pf s) (hp : Slc w 1 pv ps.length (ints ps)) (hx : ∀ p ∈ ps, 0 ≤ p ∧ p < s.all.length)
    (h3 : w.cell? ⟨b3, 0, none⟩ = some (.pointer (some ⟨sb, 0, none⟩))) (h5 : w.cell? ⟨b5, 0, none⟩ = some (.int .i64 id)) :
    Calls Tryz.prog 97 #[pv, .func (.func 98) #[] #[.pointer (some ⟨b3, 0, none⟩), .pointer (some ⟨b5, 0, none⟩)]] w fun e w' => e = .returned (.int .i64 (firstOf s.all id ps 0)) ∧ Only [] w w' := by
  obtain ⟨A, cap, rfl, hnc, hcm, hel⟩ := hp.openI
  unfold maxLen at hcm
  have l3 := block_lt_of_cell h3
  have l5 := block_lt_of_cell h5
  have HC := Lib.hid (fun (W : World) (hw : Only [] w W) (p : Int) (hp : p ∈ ps) => first1_any (p := p) (id := id) (h.only0 hw) (hx p hp) ((hw.cell l3 (by simp)).trans h3) ((hw.cell l5 (by simp)).trans h5))
  clear h3 h5 hx hp
  go_enter Tryz.func97, Tryz.ntmps97
  go_wp2
  go_loopw [8] (fun i wr => ∃ k : Nat, k ≤ ps.length ∧ i = .int .i64 k ∧ Hid (firstOf s.all id ps 0 = firstOf s.all id (ps.drop k) k) ∧ Only [] w wr) (fun i _ => ps.length - (intOf i).toNat)
  case atStart => exact ⟨0, Nat.zero_le _, rfl, rfl, Only.refl _ _⟩
  case round =>
    obtain ⟨k, hk, rfl, hT, hO⟩ := hrel
    by_cases hlt : k < ps.length
    · obtain ⟨b1, off1, rfl, hb1, hc1⟩ := hel k hlt
      rw [← hO.cell hb1 (by simp)] at hc1
      have hd := firstOf_drop s.all id ps k hlt k
      have hcl := HC.out wr hO ps[k] (List.getElem_mem hlt)
      obtain ⟨p, hp⟩ : ∃ p, p = ps[k] := ⟨_, rfl⟩
      rw [← hp] at hc1 hd hcl
      by_cases he : idAt s.all p = id
      · have HR : Hid (firstOf s.all id ps 0 = k) := by unfold Hid; rw [hT.out, hd, if_pos he]
        rw [decide_eq_true he] at hcl
        have HCL := Lib.hid hcl
        clear hcl hd hp he hel
        go_wp2_with (go_at_call 98; refine HCL.out.mono ?_; rintro e w1 ⟨rfl, ho1⟩)
        go_ret
        exact ⟨ret_i (by rw [HR.out]), hO.trans ho1⟩
      · have HR : Hid (firstOf s.all id ps 0 = firstOf s.all id (ps.drop (k + 1)) ((k + 1 : Nat) : Int)) := by unfold Hid; rw [hT.out, hd, if_neg he]; simp
        rw [decide_eq_false he] at hcl
        have HCL := Lib.hid hcl
        clear hcl hd hp he hel
        go_wp2_with (go_at_call 98; refine HCL.out.mono ?_; rintro e w1 ⟨rfl, ho1⟩)
        exact ⟨⟨k + 1, hlt, by simp, HR, hO.trans ho1⟩, by simp [intOf]; omega⟩
    · have HR : Hid (firstOf s.all id ps 0 = -1) := by
        unfold Hid
        rw [hT.out, List.drop_of_length_le (by omega)]
        rfl
      go_wp2
      go_ret
      exact ⟨ret_i (by rw [HR.out]), hO⟩
theorem first_any {w : World} {M : List Nat} {sb mb : Nat} {av pv : Value} {pf : ByteArray → Value} {s : MS} {x : StreamR} (id : Int) (h : StAt w M sb mb av pf s) (hx : XOk s x) (hp : Slc w 1 pv x.places.length (ints x.places)) :
    Calls Tryz.prog 61 #[.pointer (some ⟨sb, 0, none⟩), x.val pv, .int .i64 id] w fun e w' => e = .returned (.int .i64 (s.first x id)) ∧ Only [] w w' := by
  obtain ⟨A, cap, hpv, _⟩ := hp.openI
  have HI := Lib.hid (fun (W : World) (hw : Only [] w W) (h3 : W.cell? ⟨w.heap.size, 0, none⟩ = some (.pointer (some ⟨sb, 0, none⟩))) (h5 : W.cell? ⟨w.heap.size + 1 + 1, 0, none⟩ = some (.int .i64 id)) => idx_any (id := id) (h.only0 hw) (hp.only0 hw) hx.pl h3 h5)
  unfold MS.first
  subst hpv
  obtain ⟨places, ⟨a, b, d⟩, fl, del⟩ := x
  simp only [StreamR.val] at HI ⊢
  clear hp hx
  have hW : ∀ o1 o2 o3, Only [] w (((w.alloc o1).alloc o2).alloc o3) := fun o1 o2 o3 => (((Only.refl [] w).alloc _).alloc _).alloc _
  have q3 : ∀ v t o2 o3, (((w.alloc (.cells #[v] t)).alloc o2).alloc o3).cell? ⟨w.heap.size, 0, none⟩ = some v := fun v t o2 o3 => ((((Only.refl [] _).alloc o2).alloc o3).blk (Blk.new w t #[v]) (by simp)).cell 0
  have q5 : ∀ v t o1 o2, (((w.alloc o1).alloc o2).alloc (.cells #[v] t)).cell? ⟨w.heap.size + 1 + 1, 0, none⟩ = some v := fun v t o1 o2 => by
    have := (Blk.new ((w.alloc o1).alloc o2) t #[v]).cell 0
    simpa using this
  go_enter Tryz.func61, Tryz.ntmps61
  go_wp2_with (go_at_call 97; refine (HI.out _ (hW _ _ _) (q3 _ _ _ _) (q5 _ _ _ _)).mono ?_; rintro e w1 ⟨rfl, ho1⟩)
  go_ret
  exact ⟨rfl, (hW _ _ _).trans ho1⟩
end Go.Proofs.YteinoiicnmemhaaGreatDoor
/- Contract: again. -/
set_option linter.unusedVariables false
set_option linter.unusedSimpArgs false
namespace Go.Proofs.YteinoiicnmemhaaGreatDoor
open Go.RowKit
theorem sameIds_drop (all : List StoredR) (es : List EventR) (ps : List Int) (k v : Nat) (hk : k < es.length) (hp : v + k < ps.length) :
    sameIds all (es.drop k) (ps.drop (v + k)) = (decide (idAt all ps[v + k] = es[k].id) && sameIds all (es.drop (k + 1)) (ps.drop (v + (k + 1)))) := by
  rw [List.drop_eq_getElem_cons hk, List.drop_eq_getElem_cons hp]
  rfl
set_option maxRecDepth 100000 in
set_option maxHeartbeats 4000000 in
theorem again_any {w : World} {M : List Nat} {sb mb v : Nat} {av pv ev : Value} {pf : ByteArray → Value} {s : MS} {x : StreamR} {c : Cmd} (h : StAt w M sb mb av pf s) (hx : XOk s x) (hp : Slc w 1 pv x.places.length (ints x.places))
    (he : Slc w 4 ev c.events.length (c.events.flatMap EventR.cells)) (hl : x.places.length ≤ 1000000000) (hel : 1 ≤ c.events.length ∧ c.events.length ≤ 8) (hv : v ≤ x.places.length) :
    Calls Tryz.prog 62 #[.pointer (some ⟨sb, 0, none⟩), c.val ev, x.val pv, .int .i64 v] w fun e w' => e = .returned (s.again c x v).val ∧ Only [] w w' := by
  obtain ⟨A, cap, hpv, hn1, hn2, hps⟩ := hp.openI
  obtain ⟨A1, cap1, hev, hn3, hn4, hes⟩ := he.openE EventR.cells (fun _ => rfl)
  obtain ⟨A2, cap2, rfl, hnc2, hcm2, hel2⟩ := h.cell
  unfold maxLen at hn2 hn4 hcm2
  have HWr := Lib.hid (fun (W : World) (hw : Only [] w W) => wrong_any (x := x) (hp.only0 hw) hl)
  have hW : Hid ((fitsAgain c v = false ∨ (x.places.length : Int) - v < c.events.length) → s.again c x v = wrong x) := fun q => by unfold MS.again; rw [if_pos q]
  have hG : Hid (fitsAgain c v = true → ¬ ((x.places.length : Int) - v < c.events.length) → s.again c x v = if sameIds s.all c.events (x.places.drop v) then ⟨0, v, (x.places[((v : Int) + c.events.length - 1).toNat]?).getD 0, true⟩ else wrong x) := fun q1 q2 => by
    unfold MS.again
    rw [if_neg (by simp only [q1]; simp; omega)]
    simp
  have hpl := hx.pl
  have c0 : w.cell? ⟨sb, 0, none⟩ = some (.slice A2 s.all.length cap2) := h.blk.cell 0
  have C0 := Lib.hid c0
  have hsb := h.blk.lt
  have h000 : ∀ o1 o2 o3, Only [] w (((w.alloc o1).alloc o2).alloc o3) := fun o1 o2 o3 => (((Only.refl [] w).alloc _).alloc _).alloc _
  have bC : ∀ cs t o2 o3, Blk (((w.alloc (.cells cs t)).alloc o2).alloc o3) w.heap.size t cs := fun cs t o2 o3 => (((Only.refl [] _).alloc o2).alloc o3).blk (Blk.new w t cs) (by simp)
  have bX : ∀ cs t o1 o3, Blk (((w.alloc o1).alloc (.cells cs t)).alloc o3) (w.heap.size + 1) t cs := fun cs t o1 o3 => by
    have := ((Only.refl [] _).alloc o3).blk (Blk.new (w.alloc o1) t cs) (by simp)
    simpa using this
  have bA : ∀ o1 o2, Blk (((w.alloc o1).alloc o2).alloc (.cells #[.int .i64 0, .int .i64 0, .int .i64 0, .bool false] 34)) (w.heap.size + 1 + 1) 34 #[.int .i64 0, .int .i64 0, .int .i64 0, .bool false] := fun o1 o2 => by
    have := Blk.new ((w.alloc o1).alloc o2) 34 #[.int .i64 0, .int .i64 0, .int .i64 0, .bool false]
    simpa using this
  subst hpv hev
  obtain ⟨places, ⟨a, b, d⟩, fl, del⟩ := x
  obtain ⟨kind, time, stream, ex, l, ⟨a1, b1, d1⟩⟩ := c
  simp only [StreamR.val, Cmd.val] at HWr hW hG hps hes hpl hl hel hv hn1 hn3 ⊢
  simp only [wrong, Ans.val] at HWr
  obtain ⟨hel1, hel8⟩ := hel
  clear hp he hx c0
  obtain ⟨res, hres⟩ : ∃ res, res = s.again ⟨kind, time, stream, ex, l, ⟨a1, b1, d1⟩⟩ ⟨places, ⟨a, b, d⟩, fl, del⟩ v := ⟨_, rfl⟩
  rw [← hres] at hW hG ⊢
  clear hres
  go_enter Tryz.func62, Tryz.ntmps62
  go_upto_region 1 with (fail)
  go_cut [9] (fun s9 wx => s9 = .bool (fitsAgain ⟨kind, time, stream, ex, l, ⟨a1, b1, d1⟩⟩ v) ∧ Only [] w wx ∧ Blk wx w.heap.size 40 #[.int .i64 kind, .int .i64 time, .string stream, .int .i64 ex, .slice A1 l.length cap1, .int .i64 a1, .int .i64 b1, .int .i64 d1] ∧
    Blk wx (w.heap.size + 1) 75 #[.slice A places.length cap, .int .i64 a, .int .i64 b, .int .i64 d, .int .i64 fl, .bool del] ∧ Blk wx (w.heap.size + 1 + 1) 34 #[.int .i64 0, .int .i64 0, .int .i64 0, .bool false])
  case first =>
    cases h2 : (ex == -2)
    · have g2 : ¬ ex = -2 := by simpa using h2
      cases h4 : (ex == -4)
      · have g4 : ¬ ex = -4 := by simpa using h4
        cases h1 : (ex == -1)
        · have g1 : ¬ ex = -1 := by simpa using h1
          cases hv1 : (ex == (v : Int) - 1)
          · have gv : ¬ ex = (v : Int) - 1 := by simpa using hv1
            have hr : Hid (fitsAgain ⟨kind, time, stream, ex, l, ⟨a1, b1, d1⟩⟩ v = false) := by unfold Hid; simp [fitsAgain]; omega
            go_wp2_with fail
            go_meet
            refine ⟨?_, h000 _ _ _, bC _ _ _ _, bX _ _ _ _, bA _ _⟩
            rw [hr.out]
          · have gv : ex = (v : Int) - 1 := by simpa using hv1
            have h0 : 0 < v := by omega
            have hr : Hid (fitsAgain ⟨kind, time, stream, ex, l, ⟨a1, b1, d1⟩⟩ v = true) := by unfold Hid; simp [fitsAgain]; omega
            clear gv
            go_wp2_with fail
            go_meet
            refine ⟨?_, h000 _ _ _, bC _ _ _ _, bX _ _ _ _, bA _ _⟩
            rw [hr.out]
        · have g1 : ex = -1 := by simpa using h1
          cases hv1 : (ex == (v : Int) - 1)
          · have gv : ¬ ex = (v : Int) - 1 := by simpa using hv1
            have hz : ((v : Int) == 0) = false := by rw [beq_eq_false_iff_ne]; omega
            have hz' : (v == 0) = false := by rw [beq_eq_false_iff_ne]; omega
            have hr : Hid (fitsAgain ⟨kind, time, stream, ex, l, ⟨a1, b1, d1⟩⟩ v = false) := by unfold Hid; simp [fitsAgain]; omega
            clear gv g1
            go_wp2_with fail
            go_meet
            refine ⟨?_, h000 _ _ _, bC _ _ _ _, bX _ _ _ _, bA _ _⟩
            rw [hr.out]
          · have gv : ex = (v : Int) - 1 := by simpa using hv1
            have h0 : ¬ 0 < v := by omega
            have hz : ((v : Int) == 0) = true := by rw [beq_iff_eq]; omega
            have hz' : (v == 0) = true := by rw [beq_iff_eq]; omega
            have hr : Hid (fitsAgain ⟨kind, time, stream, ex, l, ⟨a1, b1, d1⟩⟩ v = true) := by unfold Hid; simp [fitsAgain]; omega
            have h0' : decide (0 < v) = false := by simpa using h0
            clear gv g1 h0
            go_wp2_with fail
            go_meet
            refine ⟨?_, h000 _ _ _, bC _ _ _ _, bX _ _ _ _, bA _ _⟩
            rw [hr.out]
      · have g4 : ex = -4 := by simpa using h4
        have hr : Hid (fitsAgain ⟨kind, time, stream, ex, l, ⟨a1, b1, d1⟩⟩ v = true) := by unfold Hid; simp [fitsAgain]; omega
        clear g4
        go_wp2_with fail
        go_meet
        refine ⟨?_, h000 _ _ _, bC _ _ _ _, bX _ _ _ _, bA _ _⟩
        rw [hr.out]
    · have g2 : ex = -2 := by simpa using h2
      have hr : Hid (fitsAgain ⟨kind, time, stream, ex, l, ⟨a1, b1, d1⟩⟩ v = true) := by unfold Hid; simp [fitsAgain]; omega
      clear g2
      go_wp2_with fail
      go_meet
      refine ⟨?_, h000 _ _ _, bC _ _ _ _, bX _ _ _ _, bA _ _⟩
      rw [hr.out]
  case rest =>
    obtain ⟨rfl, hO, BC, BX, BA⟩ := hcut
    have hC := fun i => BC.cell i
    have hX := fun i => BX.cell i
    have hA := fun i => BA.cell i
    have hAf := fun i => BA.free i
    cases hf : fitsAgain ⟨kind, time, stream, ex, l, ⟨a1, b1, d1⟩⟩ v
    · have hE := hW.out (.inl hf)
      go_wp2_with (go_at_call 60; refine (HWr.out _ (hO)).mono ?_; rintro e w2 ⟨rfl, ho2⟩; have hA2 := fun i => (((Only.refl [] wc).trans ho2).blk BA (by simp)).cell i; have hAf2 := fun i => (((Only.refl [] wc).trans ho2).blk BA (by simp)).free i)
      exact bodyPost_ret (v := .agg #[.int .i64 22, .int .i64 ((places.length : Int) - 1), .int .i64 0, .bool false]) (by simp [results, Tryz.results62, go_sem, hA2]) rfl ⟨by rw [hE]; rfl, by repeat (first | exact (hO).trans ho2 | refine Only.setCell ?_ (.inr (by simp; omega)) _)⟩
    · by_cases hlen : (places.length : Int) - v < l.length
      · have hE := hW.out (.inr hlen)
        go_wp2_with (go_at_call 60; refine (HWr.out _ (hO)).mono ?_; rintro e w2 ⟨rfl, ho2⟩; have hA2 := fun i => (((Only.refl [] wc).trans ho2).blk BA (by simp)).cell i; have hAf2 := fun i => (((Only.refl [] wc).trans ho2).blk BA (by simp)).free i)
        exact bodyPost_ret (v := .agg #[.int .i64 22, .int .i64 ((places.length : Int) - 1), .int .i64 0, .bool false]) (by simp [results, Tryz.results62, go_sem, hA2]) rfl ⟨by rw [hE]; rfl, by repeat (first | exact (hO).trans ho2 | refine Only.setCell ?_ (.inr (by simp; omega)) _)⟩
      · have hE := Lib.hid (hG.out hf hlen)
        have hsf := stF
        go_wp2_with fail
        clear hC hX hA hAf
        go_loopw [58] (fun i wr => ∃ k : Nat, k ≤ l.length ∧ i = .int .i64 k ∧ Hid (sameIds s.all l (places.drop v) = sameIds s.all (l.drop k) (places.drop (v + k))) ∧ Only [] wc wr) (fun i _ => l.length - (intOf i).toNat)
        case atStart => exact ⟨0, Nat.zero_le _, rfl, rfl, Only.refl _ _⟩
        case round =>
          obtain ⟨k, hk, rfl, hT, hOr⟩ := hrel
          have hO' := hO.trans hOr
          have s0 : wr.cell? ⟨sb, 0, none⟩ = some (.slice A2 s.all.length cap2) := (hO'.cell hsb (by simp)).trans C0.out
          have hC := fun i => (hOr.blk BC (by simp)).cell i
          have hX := fun i => (hOr.blk BX (by simp)).cell i
          have hA := fun i => (hOr.blk BA (by simp)).cell i
          have hAf := fun i => (hOr.blk BA (by simp)).free i
          by_cases hlt : k < l.length
          · have hvk : v + k < places.length := by omega
            obtain ⟨be, offe, rfl, hbe, hce⟩ := hes k hlt
            obtain ⟨bp, offp, rfl, hbp, hcp⟩ := hps (v + k) hvk
            obtain ⟨hp0, hp1⟩ := hpl _ (List.getElem_mem hvk)
            obtain ⟨q, hq⟩ := Int.eq_ofNat_of_zero_le hp0
            have hqa : q < s.all.length := by omega
            obtain ⟨b2, rfl, hb2, hc2⟩ := hel2 q hqa
            have sd := sameIds_drop s.all l places k v hlt hvk
            rw [hq, idAt_nat hqa] at sd
            rw [hq, ← hO'.cell hbp (by simp)] at hcp
            have i0 : wr.cell? ⟨b2, q * 8, none⟩ = some (.int .i64 s.all[q].ev.id) := (hO'.cell hb2 (by simp)).trans (hc2 0 (by omega))
            obtain ⟨y, hy⟩ : ∃ y, y = l[k] := ⟨_, rfl⟩
            obtain ⟨z, hz⟩ : ∃ z, z = s.all[q].ev.id := ⟨_, rfl⟩
            rw [← hy] at hce sd
            rw [← hz] at i0 sd
            have e0 : wr.cell? ⟨be, offe + k * 4, none⟩ = some (.int .i64 y.id) := (hO'.cell hbe (by simp)).trans (hce 0 (by omega))
            have e1 : wr.cell? ⟨be, offe + k * 4 + 1, none⟩ = some (.string y.type) := (hO'.cell hbe (by simp)).trans (hce 1 (by omega))
            have e2 : wr.cell? ⟨be, offe + k * 4 + 2, none⟩ = some (.string y.data) := (hO'.cell hbe (by simp)).trans (hce 2 (by omega))
            have e3 : wr.cell? ⟨be, offe + k * 4 + 3, none⟩ = some (.float .f64 y.value) := (hO'.cell hbe (by simp)).trans (hce 3 (by omega))
            have hqi : (q : Int) < s.all.length := by omega
            have hvi : (v : Int) + k < places.length := by omega
            have s0a := fun o => (World.cell?_alloc_lt wr o _ (block_lt_of_cell s0)).trans s0
            have pa := fun o => (World.cell?_alloc_lt wr o _ (block_lt_of_cell hcp)).trans hcp
            have ia := fun o => (World.cell?_alloc_lt wr o _ (block_lt_of_cell i0)).trans i0
            have hXa := fun o i => (((Only.refl [] wr).alloc o).blk (hOr.blk BX (by simp)) (by simp)).cell i
            clear hy hz hq hce hc2 hes hps hel2 hpl
            by_cases heq : z = y.id
            · have hne : (z != y.id) = false := by simpa using heq
              have HS : Hid (sameIds s.all l (places.drop v) = sameIds s.all (l.drop (k + 1)) (places.drop (v + (k + 1)))) := by unfold Hid; rw [hT.out, sd, decide_eq_true heq, Bool.true_and]
              clear heq sd
              go_wp2_with fail
              have hw2 : (0 : Int) ≤ (v : Int) + k := by omega
              have hw3 : ((v : Int) + k).toNat = v + k := by omega
              have hw1 := IntWalk.i64_in ((v : Int) + k) ⟨by omega, by omega⟩
              refine wp_region_stail 17 (by kernel_rfl) (by kernel_rfl) ?_
              simp only [List.take_succ_cons, List.take_zero, List.drop_succ_cons, List.drop_zero]
              repeat still_step
              refine wpStill_nil ?_
              clear hw1 hw2 hw3
              go_wp2
              exact ⟨⟨k + 1, hlt, by simp, HS, (hOr.alloc _).drew⟩, by simp [intOf]; omega⟩
            · have hne : (z != y.id) = true := by simpa using heq
              have HS : res = wrong ⟨places, ⟨a, b, d⟩, fl, del⟩ := by rw [hE.out, hT.out, sd, decide_eq_false heq, Bool.false_and]; rfl
              have HS' := Lib.hid HS
              clear heq sd HS
              go_wp2_with fail
              have hw2 : (0 : Int) ≤ (v : Int) + k := by omega
              have hw3 : ((v : Int) + k).toNat = v + k := by omega
              have hw1 := IntWalk.i64_in ((v : Int) + k) ⟨by omega, by omega⟩
              refine wp_region_stail 17 (by kernel_rfl) (by kernel_rfl) ?_
              simp only [List.take_succ_cons, List.take_zero, List.drop_succ_cons, List.drop_zero]
              repeat still_step
              refine wpStill_nil ?_
              clear hw1 hw2 hw3
              go_wp2_with (go_at_call 60; refine (HWr.out _ ((hO'.alloc _).drew)).mono ?_; rintro e w2 ⟨rfl, ho2⟩; have hA2 := fun i => (((hOr.alloc _).drew.trans ho2).blk BA (by simp)).cell i; have hAf2 := fun i => (((hOr.alloc _).drew.trans ho2).blk BA (by simp)).free i)
              exact bodyPost_ret (v := .agg #[.int .i64 22, .int .i64 ((places.length : Int) - 1), .int .i64 0, .bool false]) (by simp [results, Tryz.results62, go_sem, hA2]) rfl ⟨by rw [HS'.out]; rfl, by repeat (first | exact ((hO'.alloc _).drew).trans ho2 | refine Only.setCell ?_ (.inr (by simp; omega)) _)⟩
          · have hkl : k = l.length := by omega
            have hvk : v + l.length - 1 < places.length := by omega
            obtain ⟨bp, offp, rfl, hbp, hcp⟩ := hps (v + l.length - 1) hvk
            rw [← hO'.cell hbp (by simp)] at hcp
            have HS : res = ⟨0, v, places[v + l.length - 1], true⟩ := by
              rw [hE.out, hT.out, hkl, List.drop_length]
              have : (((v : Int) + l.length - 1)).toNat = v + l.length - 1 := by omega
              rw [this]
              simp [sameIds, hvk]
            obtain ⟨pz, hpz⟩ : ∃ pz, pz = places[v + l.length - 1] := ⟨_, rfl⟩
            rw [← hpz] at hcp HS
            have HS' := Lib.hid HS
            have hvi : (v : Int) + l.length - 1 < places.length := by omega
            have hvi0 : 0 ≤ (v : Int) + l.length - 1 := by omega
            have htn : ((v : Int) + l.length - 1).toNat = v + l.length - 1 := by omega
            clear hpz hkl HS hps
            go_wp2
            exact bodyPost_ret (v := .agg #[.int .i64 0, .int .i64 v, .int .i64 pz, .bool true]) (by simp [results, Tryz.results62, go_sem, hA]) rfl ⟨by rw [HS'.out]; rfl, by repeat (first | exact hO' | refine Only.setCell ?_ (.inr (by simp; omega)) _)⟩
end Go.Proofs.YteinoiicnmemhaaGreatDoor
/- Contracts: Clone of ints; append. -/
set_option linter.unusedVariables false
set_option linter.unusedSimpArgs false
namespace Go.Proofs.YteinoiicnmemhaaGreatDoor
open Go.RowKit
set_option maxRecDepth 100000 in
theorem cloneI_any {w : World} {pv : Value} {zs : List Int} (h : Slc w 1 pv zs.length (ints zs)) (hb : zs.length ≤ 1000000000) :
    Calls Tryz.prog 99 #[pv] w fun e w' => ∃ v', e = .returned v' ∧ w'.ownsRow w.heap.size 3 1 v' zs.length (ints zs) ∧ Only [] w w' := by
  obtain ⟨i0, hi, hz0, hz1, hz2⟩ := info_parts infoI
  obtain ⟨A, cap, rfl, hnc, hcm, hl, hc⟩ := h.cell
  have hq := fun W a n c n' c' => Lib.run_eql_slice_nil (P := Tryz.prog) W 48 _ a n c n' c' Tryz.underlying48
  cases A with
  | none =>
    have h0 : zs = [] := by
      rcases hc with q | ⟨b, off, q, _⟩
      · exact List.length_eq_zero_iff.1 q
      · cases q
    subst h0
    go_enter Tryz.func99, Tryz.ntmps99
    go_wp2
    go_ret
    exact ⟨_, rfl, World.ownsRow_nil _ _ _ _, Only.refl _ _⟩
  | some ad =>
    obtain ⟨b, off, sp⟩ := ad
    have hcell : ∀ j u, (ints zs)[j]? = some u → (w.alloc (.cells #[] 3)).cell? ((⟨b, off, sp⟩ : Addr).add j) = some u := by
      intro j u hu
      have hj : j < (ints zs).length := (List.getElem?_eq_some_iff.1 hu).1
      rcases hc with q | ⟨b', off', q, hb', hcc⟩
      · rw [hl] at hj; omega
      · cases q
        have := hcc j hj
        rw [hu] at this
        rw [show ((⟨b, off, none⟩ : Addr).add j) = ⟨b, off + j, none⟩ by simp [Addr.add]]
        exact (World.cell?_alloc_lt w _ ⟨b, off + j, none⟩ hb').trans this
    have hcl : (ints zs).length = zs.length * 1 := hl
    unfold maxLen at hcm
    clear hl hc
    go_enter Tryz.func99, Tryz.ntmps99
    go_wp2_with (at_builtin; refine wpList_append_own _ rfl (.tmp 5) (.tmp 6) 48 rfl w.heap.size 3 i0 (.int .i64 0) 1 8 Tryz.underlying48 hi hz0 hz1 hz2 rfl (by decide) _ 0 [] rfl (World.ownsRow_made w #[] 0 (Nat.le_refl _) (Nat.zero_le _) rfl) ⟨b, off, sp⟩ zs.length cap (ints zs) rfl hcl hcell ?c2 ?c3 ?c4 ?c5 ?_)
    case c2 => intro u hu; unfold ints at hu; obtain ⟨z, _, rfl⟩ := List.mem_map.1 hu; rfl
    case c3 => unfold maxLen; omega
    case c4 => omega
    case c5 => simp
    intro v' w4 hown' hgrow _
    have hown2 : w4.ownsRow w.heap.size 3 1 v' zs.length (ints zs) := by simpa using hown'
    have ho4 : Only [] w w4 := ((Only.refl [] w).alloc _).grown hgrow (fun k hk => .inr (by cases hk; exact Nat.le_refl _))
    clear hgrow
    go_wp2
    go_ret
    exact ⟨_, rfl, hown2, ho4⟩
end Go.Proofs.YteinoiicnmemhaaGreatDoor
/- Contracts: numbers are laid into bytes (codec.Out). -/
set_option linter.unusedVariables false
set_option linter.unusedSimpArgs false
namespace Go.Proofs.YteinoiicnmemhaaGreatDoor.J
open Go Go.RowKit Go.Sort
def bytesV (l : List UInt8) : List Value := l.map fun b => .int .u8 (b.toNat : Int)
/-- An Out in memory that is new since a: its bytes, its error. -/
structure OutAt (a w : World) (ob : Nat) (l : List UInt8) (e : Int) : Prop where
  only : Only [] a w
  ab : a.heap.size ≤ ob
  st : ∃ A cap, Blk w ob 267 #[.slice A l.length cap, .int .i64 e] ∧ w.ownsRow a.heap.size 5 1 (.slice A l.length cap) l.length (bytesV l)
theorem bytesV_app (l m : List UInt8) : bytesV (l ++ m) = bytesV l ++ bytesV m := List.map_append
theorem bytesV_one (l : List UInt8) : ∀ u ∈ bytesV l, u.oneCell' = true := by
  intro u hu
  obtain ⟨b, _, rfl⟩ := List.mem_map.1 hu
  rfl
theorem beN_get (n v : Nat) {k : Nat} (h : k < n) : (beN n v)[k]? = some (UInt8.ofNat (v / 256 ^ (n - 1 - k))) := by
  induction n generalizing k with
  | zero => omega
  | succ n ih =>
    unfold beN
    cases k with
    | zero => simp
    | succ k =>
      rw [List.getElem?_cons_succ, ih (by omega)]
      congr 4
      omega
theorem beN_take (n v : Nat) {k : Nat} (h : k < n) : (beN n v).take (k + 1) = (beN n v).take k ++ [UInt8.ofNat (v / 256 ^ (n - 1 - k))] := by
  rw [List.take_add_one, beN_get n v h]
  rfl
theorem app1b {W : World} {base : Nat} {v : Value} {l : List UInt8} (hown : W.ownsRow base 5 1 v l.length (bytesV l)) (hb : base ≤ W.heap.size) (hl : l.length ≤ 10000000) (x : UInt8) :
    ∃ A cap w', (Builtin.append_ #[251, 251] 251 #[v, .slice (some ⟨W.heap.size, 0, none⟩) 1 1]).run Tryz.prog (W.alloc (.cells #[.int .u8 (x.toNat : Int)] 5)).drew = .ok (.slice A (l.length + 1) cap) w' ∧ w'.ownsRow base 5 1 (.slice A (l ++ [x]).length cap) (l ++ [x]).length (bytesV (l ++ [x])) ∧ Only v.ownBlock.toList (W.alloc (.cells #[.int .u8 (x.toNat : Int)] 5)).drew w' := by
  have hO : Only [] W (W.alloc (.cells #[.int .u8 (x.toNat : Int)] 5)).drew := ((Only.refl [] W).alloc _).drew
  obtain ⟨A, cap, w', h1, h2, h3, _⟩ := run_app (P := Tryz.prog) (w := (W.alloc (.cells #[.int .u8 (x.toNat : Int)] 5)).drew) 251 251 base 5 (.int .u8 0) 1 1 Tryz.underlying251 infoU8 rfl (by decide) (own_only hown hO (by simp)) ((slc_new1 (w := W) (e := 5) (size := 1) (cs := bytesV [x]) rfl).only0 ((Only.refl [] _).drew)) (bytesV_one [x]) (by omega) (by unfold maxLen; omega) (Nat.le_trans hb hO.size)
  refine ⟨A, cap, w', h1, ?_, h3⟩
  rw [List.length_append, bytesV_app]
  exact h2
set_option maxRecDepth 100000 in
set_option maxHeartbeats 2000000 in
theorem high_any {a w : World} {ob : Nat} {l : List UInt8} {e : Int} (h : OutAt a w ob l e) (hl : l.length ≤ 1000000) (v n : Nat) (hv : v < 18446744073709551616) (hn : n ≤ 8) :
    Calls Tryz.prog 220 #[.pointer (some ⟨ob, 0, none⟩), .int .u64 v, .int .i64 n] w fun e' w' => e' = .returned (.pointer (some ⟨ob, 0, none⟩)) ∧ OutAt a w' ob (l ++ beN n v) e := by
  have e0 := IntWalk.i64_in ((n : Int) - 1) ⟨by omega, by omega⟩
  go_enter Tryz.func220, Tryz.ntmps220
  go_wp2
  go_loopw [7] (fun i wr => ∃ j : Nat, j ≤ n ∧ i = .int .i64 ((j : Int) - 1) ∧ OutAt a wr ob (l ++ (beN n v).take (n - j)) e) (fun i _ => (intOf i + 1).toNat)
  case atStart => exact ⟨n, Nat.le_refl _, rfl, by simpa using h⟩
  case round =>
    obtain ⟨j, hj, rfl, hA⟩ := hrel
    by_cases hj0 : 0 < j
    · have hd : decide ((j : Int) - 1 ≥ 0) = true := decide_eq_true (by omega)
      obtain ⟨A, cap, hB, hown⟩ := hA.st
      have hnx := beN_take n v (k := n - j) (by omega)
      have e1 := IntWalk.i64_in (8 * ((j : Int) - 1)) ⟨by omega, by omega⟩
      have e2 := IntWalk.i64_in ((j : Int) - 1 - 1) ⟨by omega, by omega⟩
      obtain ⟨M, hM⟩ : ∃ M, l ++ (beN n v).take (n - j) = M := ⟨_, rfl⟩
      rw [hM] at hB hown
      have hML : M.length ≤ 1000008 := by rw [← hM, List.length_append, List.length_take, beN_len]; omega
      obtain ⟨_, _, e3, hnc, hcm⟩ := own_form hown
      cases e3
      unfold maxLen at hcm
      obtain ⟨So, hSo⟩ : ∃ So, So = (Value.slice A M.length cap).ownBlock.toList := ⟨_, rfl⟩
      have hno : ob ∉ So := fun q => by
        rw [hSo] at q
        obtain ⟨cur, hcur⟩ := own_type hown (by simpa using q)
        exact (hB.other hcur (by decide)) rfl
      have k0 := Within.cell (S := So) (hB.cell 0) hno
      go_wp2_with fail
      refine wp_region_in So [0, 1, 2, 3, 4, 5, 6, 7, 8, 9] [10, 11] [12, 13, 14] (by kernel_rfl) (by kernel_rfl) (by intro c d u a w h; cases d <;> exact h) ?_
      show wpQuiet _ _ _ _ [_, _, _, _, _, _, _, _, _, _] _
      repeat (go_big_quiet_step (fail))
      refine wpQuiet_nil ?_
      clear k0
      obtain ⟨x, hx⟩ : ∃ x : Int, (v : Int) / 2 ^ (8 * (j - 1)) % 256 = x := ⟨_, rfl⟩
      have hxb : x = ((UInt8.ofNat (v / 256 ^ (n - 1 - (n - j)))).toNat : Int) := by
        have e4 : n - 1 - (n - j) = j - 1 := by omega
        have e5 : (256 : Nat) ^ (j - 1) = 2 ^ (8 * (j - 1)) := by rw [Nat.pow_mul]
        rw [← hx, e4, e5, UInt8.toNat_ofNat']
        have e6 : ((v : Int) / 2 ^ (8 * (j - 1))) = ((v / 2 ^ (8 * (j - 1)) : Nat) : Int) := by
          rw [Int.natCast_ediv, Int.natCast_pow]
          rfl
        rw [e6]
        omega
      rw [hx]
      obtain ⟨A4, c4, w4, hr4, hown4, hO4⟩ := app1b hown hA.only.size (by omega) (UInt8.ofNat (v / 256 ^ (n - 1 - (n - j))))
      rw [← hxb] at hr4 hO4
      have hO3 : Only So wr (wr.alloc (.cells #[.int .u8 x] 5)).drew := ((Only.refl So wr).alloc _).drew
      rw [← hSo] at hO4
      have hB4 := hO4.blk (hO3.blk hB hno) hno
      have hf4 := hB4.free 0
      have hc4 := hB4.cell 0
      have hset := hB4.set 0 (.slice A4 (M ++ [UInt8.ofNat (v / 256 ^ (n - 1 - (n - j)))]).length c4)
      have hge : ∀ g ∈ So, a.heap.size ≤ g := fun g hg => by
        rw [hSo] at hg
        exact (World.ownsRow.lt hown g (by simpa using hg)).1
      have hon4 : Only [] a w4 := ((hA.only.alloc (.cells #[.int .u8 x] 5)).drew).step hO4 (fun g hg => .inr (hge g hg))
      have hown5 := own_only hown4 ((Only.refl [ob] w4).setCell (p := ⟨ob, 0, none⟩) (.inl (by simp)) (.slice A4 (M ++ [UInt8.ofNat (v / 256 ^ (n - 1 - (n - j)))]).length c4)) (fun g hg q => by
        rw [List.mem_singleton] at q
        subst q
        obtain ⟨cur, hcur⟩ := own_type hown4 hg
        exact (hB4.other hcur (by decide)) rfl)
      have hML2 : (M ++ [UInt8.ofNat (v / 256 ^ (n - 1 - (n - j)))]).length = M.length + 1 := by simp
      rw [hML2] at hset hown5
      have hnew : OutAt a (w4.setCell ⟨ob, 0, none⟩ (.slice A4 (M.length + 1) c4)) ob (M ++ [UInt8.ofNat (v / 256 ^ (n - 1 - (n - j)))]) e :=
        ⟨hon4.setCell (.inr hA.ab) _, hA.ab, A4, c4, by rw [hML2]; exact hset, by rw [hML2]; exact hown5⟩
      have hnew2 : OutAt a (w4.setCell ⟨ob, 0, none⟩ (.slice A4 (M.length + 1) c4)) ob (l ++ (beN n v).take (n - (j - 1))) e := by
        have e7 : n - (j - 1) = n - j + 1 := by omega
        rw [e7, hnx, ← List.append_assoc, hM]
        exact hnew
      have HR4 := Lib.hid hr4
      have HN := Lib.hid hnew2
      have HO := Lib.hid (hO3.trans hO4)
      clear hxb hx hnew hnew2 hset hown5 hown4 hO4 hr4 hB hown hA hB4 hon4 hge hML2 hnx hM
      show wpList _ _ _ [_] _ _
      go_wp2_with fail
      refine check_of (S := So) hO3 ?_
      show wpList _ _ _ [_] _ _
      go_wp2_with (at_builtin; refine Lib.wpList_append_run _ rfl (.tmp 18) (.tmp 24) 251 251 rfl _ _ rfl rfl _ _ HR4.out ?_)
      refine check_of (S := So) HO.out ?_
      show wpList _ _ _ [_, _, _] _ _
      go_wp2
      exact ⟨⟨j - 1, by omega, by simp; omega, HN.out⟩, by simp [intOf]; omega⟩
    · have hd : decide ((j : Int) - 1 ≥ 0) = false := decide_eq_false (by omega)
      have : j = 0 := by omega
      have hfin : OutAt a wr ob (l ++ beN n v) e := by
        have h1 := hA
        rw [this, Nat.sub_zero, List.take_of_length_le (by rw [beN_len]; omega)] at h1
        exact h1
      clear hA this
      go_wp2
      go_ret
      exact ⟨rfl, hfin⟩
set_option maxRecDepth 100000 in
theorem ofail_any {a w : World} {ob : Nat} {l : List UInt8} (h : OutAt a w ob l 0) :
    Calls Tryz.prog 219 #[.pointer (some ⟨ob, 0, none⟩), .bool false, .int .i64 1] w fun e' w' => e' = .returned (.bool false) ∧ w = w' := by
  obtain ⟨A, cap, hB, _⟩ := h.st
  have c1 := hB.cell 1
  clear h hB
  go_enter Tryz.func219, Tryz.ntmps219
  go_wp2
  go_ret
  exact ⟨rfl, rfl⟩
set_option maxRecDepth 100000 in
theorem osmall4_any {a w : World} {ob : Nat} {l : List UInt8} (h : OutAt a w ob l 0) (hl : l.length ≤ 1000000) (v : Nat) (hv : v < 4294967296) :
    Calls Tryz.prog 217 #[.pointer (some ⟨ob, 0, none⟩), .int .i64 v, .int .i64 4] w fun e' w' => e' = .returned (.pointer (some ⟨ob, 0, none⟩)) ∧ OutAt a w' ob (l ++ beN 4 v) 0 := by
  have hh := high_any h hl v 4 (by omega) (by omega)
  have hh : Calls Tryz.prog 220 #[.pointer (some ⟨ob, 0, none⟩), .int .u64 v, .int .i64 4] w fun e' w' => e' = .returned (.pointer (some ⟨ob, 0, none⟩)) ∧ OutAt a w' ob (l ++ beN 4 v) 0 := hh
  have HH := Lib.hid hh
  have HF := Lib.hid (ofail_any h)
  have hsh : (v : Int) / 4294967296 = 0 := by omega
  have hd : decide ((v : Int) < 0) = false := decide_eq_false (by omega)
  clear h hh
  go_enter Tryz.func217, Tryz.ntmps217
  go_wp2_with (first
    | (go_at_call 219; refine HF.out.mono ?_; rintro e1 w1 ⟨rfl, rfl⟩)
    | (go_at_call 220; refine HH.out.mono ?_; rintro e1 w1 ⟨rfl, h1⟩))
  go_ret
  exact ⟨rfl, h1⟩
set_option maxRecDepth 100000 in
theorem ou32_any {a w : World} {ob : Nat} {l : List UInt8} (h : OutAt a w ob l 0) (hl : l.length ≤ 1000000) (v : Nat) (hv : v < 4294967296) :
    Calls Tryz.prog 238 #[.pointer (some ⟨ob, 0, none⟩), .int .i64 v] w fun e' w' => e' = .returned (.pointer (some ⟨ob, 0, none⟩)) ∧ OutAt a w' ob (l ++ beN 4 v) 0 := by
  have HH := Lib.hid (osmall4_any h hl v hv)
  clear h
  go_enter Tryz.func238, Tryz.ntmps238
  go_wp2_with (go_at_call 217; refine HH.out.mono ?_; rintro e1 w1 ⟨rfl, h1⟩)
  go_ret
  exact ⟨rfl, h1⟩
theorem strOf_bytes (l : List UInt8) : strOfNums (l.map fun b => (b.toNat : Int)) = baL l := by
  unfold strOfNums baL
  rw [List.map_map]
  congr 1
  congr 1
  conv => rhs; rw [← List.map_id l]
  apply List.map_congr_left
  intro b _
  simp
theorem conv_bytes {w : World} {v : Value} {l : List UInt8} (h : Slc w 1 v l.length (bytesV l)) : (convert 251 9 v).run Tryz.prog w = .ok (.string (baL l)) w := by
  obtain ⟨A, cap, rfl, hl, hc1, hc2, hc⟩ := h
  have hu8 : Tryz.prog.underlying 5 = some (.int .u8) := Tryz.underlying5
  by_cases h0 : l.length = 0
  · have : l = [] := List.length_eq_zero_iff.1 h0
    subst this
    cases A with
    | none => exact run_convert_bytes_nil w 251 5 Tryz.underlying251 hu8 0 cap 9 Tryz.underlying9
    | some p =>
      obtain ⟨b, off, spot⟩ := p
      show (convert 251 9 (.slice (some ⟨b, off, spot⟩) 0 cap)).run Tryz.prog w = _
      rw [run_convert_bytes_string w 251 9 5 _ 0 cap Tryz.underlying251 hu8 Tryz.underlying9]
      simp [Conv.bytesToString, loadCells, loadCellsFrom]
      rfl
  · obtain ⟨b, off, rfl, hb, hcell⟩ := hc (by omega)
    rw [← strOf_bytes]
    refine run_convert_bytes_arg w 251 5 Tryz.underlying251 hu8 b off l.length cap _ (by simp) (fun i hi => ?_) 9 Tryz.underlying9
    rw [hcell i (by rw [hl]; omega)]
    simp [bytesV, hi]
set_option maxRecDepth 100000 in
theorem odone_any {a w : World} {ob : Nat} {l : List UInt8} (h : OutAt a w ob l 0) (hl : l.length ≤ 1000000) :
    Calls Tryz.prog 196 #[.pointer (some ⟨ob, 0, none⟩)] w fun e' w' => e' = .returned (.tuple #[.string (baL l), .int .i64 0]) ∧ w = w' := by
  obtain ⟨A, cap, hB, hown⟩ := h.st
  have c0 := hB.cell 0
  have c1 := hB.cell 1
  have HC := conv_bytes (Slc.of_own hown).1
  clear h hB hown
  go_enter Tryz.func196, Tryz.ntmps196
  go_wp2
  go_ret2
  exact ⟨rfl, rfl⟩
end Go.Proofs.YteinoiicnmemhaaGreatDoor.J
/- Contract: append. -/
set_option linter.unusedVariables false
set_option linter.unusedSimpArgs false
namespace Go.Proofs.YteinoiicnmemhaaGreatDoor
open Go.RowKit
theorem infoSt : (Tryz.prog.info? 92).map (fun i => (i.zero, i.size, i.bytes)) = some (some (.agg #[.int .i64 0, .string ⟨#[]⟩, .string ⟨#[]⟩, .float .f64 0, .string ⟨#[]⟩, .int .i64 0, .int .i64 0, .int .i64 0]), 8, 88) := by kernel_rfl
theorem own_form {w : World} {base size n : Nat} {e : TypeId} {v : Value} {xs : List Value} (h : w.ownsRow base e size v n xs) : ∃ A cap, v = .slice A n cap ∧ n ≤ cap ∧ cap ≤ maxLen := by
  obtain ⟨_, h2⟩ := h
  rcases h2 with ⟨rfl, rfl⟩ | ⟨g, cap, cur, rfl, hb, hg, hn, hc, _⟩
  · exact ⟨none, 0, rfl, Nat.le_refl _, Nat.zero_le _⟩
  · exact ⟨_, cap, rfl, hn, hc⟩
theorem own_base {w : World} {base base' size n : Nat} {e : TypeId} {v : Value} {xs : List Value} (h : w.ownsRow base e size v n xs) (hb : base' ≤ base) : w.ownsRow base' e size v n xs := by
  obtain ⟨h1, h2⟩ := h
  rcases h2 with q | ⟨g, cap, cur, q1, q2, q3⟩
  · exact ⟨h1, .inl q⟩
  · exact ⟨h1, .inr ⟨g, cap, cur, q1, Nat.le_trans hb q2, q3⟩⟩
theorem own_some {w : World} {base size n : Nat} {e : TypeId} {v : Value} {xs : List Value} (h : w.ownsRow base e size v n xs) (h0 : 0 < n) : ∃ g cap cur, v = .slice (some ⟨g, 0, none⟩) n cap ∧ base ≤ g ∧ Blk w g e cur := by
  obtain ⟨_, h2⟩ := h
  rcases h2 with ⟨rfl, rfl⟩ | ⟨g, cap, cur, rfl, hb, hg, _⟩
  · omega
  · exact ⟨g, cap, cur, rfl, hb, hg⟩
theorem own_type {w : World} {base size n : Nat} {e : TypeId} {v : Value} {xs : List Value} (h : w.ownsRow base e size v n xs) {g : Nat} (hg : v.ownBlock = some g) : ∃ cur, Blk w g e cur := by
  obtain ⟨_, h2⟩ := h
  rcases h2 with ⟨rfl, rfl⟩ | ⟨g', cap, cur, rfl, hb, hg', _⟩
  · cases hg
  · cases hg; exact ⟨cur, hg'⟩
theorem news_blk {w : World} {g : Nat} {e : TypeId} {us : List Value} (hb : Blk w g e us.toArray) : ∀ j x, us[j]? = some x → w.cell? ((⟨g, 0, none⟩ : Addr).add j) = some x := by
  intro j x hx
  rw [Addr.add_lit, Nat.zero_add, hb.cell j]
  simpa using hx
theorem wpList_append_lies {P : Program} {w : World} {ops : Array Oper} {rest : List Oper} {o : Oper} {a : Act} {Q : Exit → Act → World → Prop} (hgd : o.guard = none) (s x : Operand) (t : TypeId)
    (ho : o.op = .call { callee := .builtin .append, args := #[s, x], argTypes := #[t, t] })
    (base : Nat) (e : TypeId) (i : TypeInfo) (z : Value) (size bytes : Nat) (ht : P.underlying t = some (.slice e)) (hi : P.info? e = some i) (hz : i.zero = some z)
    (hsize : i.size = size) (hby : i.bytes = bytes) (hzs : z.cells.size = size) (hsz : 0 < size)
    (v : Value) (n : Nat) (xs : List Value) (hs : a.eval s = v) (hown : w.ownsRow base e size v n xs)
    (ad : Addr) (m c : Nat) (news : List Value) (hx : a.eval x = .slice (some ad) m c) (hl : news.length = m * size) (hnews : ∀ j u, news[j]? = some u → w.cell? (ad.add j) = some u) (h1 : ∀ u ∈ news, u.oneCell' = true)
    (hm : 0 < m) (h63 : n + m ≤ maxLen) (hbytes : (n + m) * bytes ≤ 140737488355328) (hbase : base ≤ w.heap.size)
    (h : ∀ g cap w', w'.ownsRow base e size (.slice (some ⟨g, 0, none⟩) (n + m) cap) (n + m) (xs ++ news) → w.grownBy w' v.ownBlock → (v.ownBlock = some g ∨ g = w.heap.size) → g < w'.heap.size → wpList P ops Q rest (a.put o.dst (.slice (some ⟨g, 0, none⟩) (n + m) cap)) w') :
    wpList P ops Q (o :: rest) a w :=
  wpList_plain hgd fun _ hK => wp_append_lies w s x t ho base e i z size bytes ht hi hz hsize hby hzs hsz v n xs hs hown ad m c news hx hl hnews h1 hm h63 hbytes hbase w.heap.size rfl fun g cap w' q1 q2 q3 q4 => hK _ _ (h g cap w' q1 q2 q3 q4)
theorem size_setCell (w : World) (p : Addr) (v : Value) : (w.setCell p v).heap.size = w.heap.size := by simp [World.setCell]
theorem news_set {w : World} {p : Addr} {v u : Value} {e : TypeId} : ∀ j x, [u][j]? = some x → ((w.setCell p v).alloc (.cells #[u] e)).cell? ((⟨w.heap.size, 0, none⟩ : Addr).add j) = some x := by
  intro j x hx
  have hb := Blk.new (w.setCell p v) e #[u]
  rw [size_setCell] at hb
  exact news_blk hb j x hx
def stOne (stream : ByteArray) (now : Int) (e : EventR) (v at_ : Int) : StoredR := ⟨e.canon, stream, v, at_, now⟩
theorem storedOf_take (stream : ByteArray) (now : Int) : ∀ (l : List EventR) (k : Nat) (h : k < l.length) (v at_ : Int), storedOf stream now (l.take (k + 1)) v at_ = storedOf stream now (l.take k) v at_ ++ [stOne stream now l[k] (v + k) (at_ + k)]
  | [], k, h, _, _ => absurd h (Nat.not_lt_zero _)
  | e :: l, 0, h, v, at_ => by simp [storedOf, stOne]
  | e :: l, k + 1, h, v, at_ => by
    have := storedOf_take stream now l k (by simpa using h) (v + 1) (at_ + 1)
    rw [List.take_succ_cons, List.take_succ_cons]
    simp only [storedOf, List.cons_append, List.getElem_cons_succ]
    rw [this]
    have e1 : v + 1 + (k : Int) = v + ((k + 1 : Nat) : Int) := by omega
    have e2 : at_ + 1 + (k : Int) = at_ + ((k + 1 : Nat) : Int) := by omega
    rw [e1, e2]
theorem storedOf_len (stream : ByteArray) (now : Int) : ∀ (l : List EventR) (v at_ : Int), (storedOf stream now l v at_).length = l.length
  | [], _, _ => rfl
  | e :: l, v, at_ => by simp [storedOf, storedOf_len stream now l]
theorem rangeFrom_succ : ∀ (k : Nat) (a : Int), rangeFrom (k + 1) a = rangeFrom k a ++ [a + k]
  | 0, a => by simp [rangeFrom]
  | k + 1, a => by
    show a :: rangeFrom (k + 1) (a + 1) = _
    rw [rangeFrom_succ k (a + 1)]
    simp only [rangeFrom, List.cons_append, List.cons.injEq, true_and]
    have e1 : a + 1 + (k : Int) = a + ((k + 1 : Nat) : Int) := by omega
    rw [e1]
theorem rangeFrom_len : ∀ (k : Nat) (a : Int), (rangeFrom k a).length = k
  | 0, _ => rfl
  | k + 1, a => by simp [rangeFrom, rangeFrom_len k]
theorem append_ans (s : MS) (c : Cmd) (x : StreamR) {k : Nat} (hk : k = c.events.length) : (s.append c x).1.val = .agg #[.int .i64 0, .int .i64 x.places.length, .int .i64 ((s.all.length : Int) + k - 1), .bool false] := by subst hk; rfl
theorem append_st (s : MS) (c : Cmd) (x : StreamR) (pv : Value) : (s.append c x).2.1.val pv = .agg #[pv, .int .i64 x.mt.maxCount, .int .i64 x.mt.maxAge, .int .i64 x.mt.before, .int .i64 x.floor, .bool x.deleted] := rfl
theorem append_s (s : MS) (c : Cmd) (x : StreamR) : (s.append c x).2.2 = { s with all := s.all ++ storedOf c.stream s.now c.events x.places.length s.all.length } := rfl
theorem append_p (s : MS) (c : Cmd) (x : StreamR) : (s.append c x).2.1.places = x.places ++ rangeFrom c.events.length s.all.length := rfl
/-- What stands at the head of a round of append: k events are in. -/
structure ApAt (w wr : World) (sb mb k : Nat) (av avr pvr ev : Value) (s : MS) (c : Cmd) (x : StreamR) : Prop where
  only : Only (sb :: av.ownBlock.toList) w wr
  blkS : Blk wr sb 72 #[avr, .map (some mb), .int .i64 s.done, .int .i64 s.now]
  own : wr.ownsRow 0 92 8 avr (s.all.length + k) ((s.all ++ storedOf c.stream s.now (c.events.take k) x.places.length s.all.length).flatMap StoredR.cells)
  pown : wr.ownsRow w.heap.size 3 1 pvr (x.places.length + k) (ints (x.places ++ rangeFrom k s.all.length))
  avb : ∀ g, avr.ownBlock = some g → av.ownBlock = some g ∨ w.heap.size ≤ g
  bC : Blk wr w.heap.size 40 #[.int .i64 c.kind, .int .i64 c.time, .string c.stream, .int .i64 c.expected, ev, .int .i64 c.mt.maxCount, .int .i64 c.mt.maxAge, .int .i64 c.mt.before]
  bX : Blk wr (w.heap.size + 1) 75 #[pvr, .int .i64 x.mt.maxCount, .int .i64 x.mt.maxAge, .int .i64 x.mt.before, .int .i64 x.floor, .bool x.deleted]
  bA : Blk wr (w.heap.size + 1 + 1) 34 #[.int .i64 0, .int .i64 0, .int .i64 0, .bool false]
  bY : Blk wr (w.heap.size + 1 + 1 + 1) 75 #[.slice none 0 0, .int .i64 0, .int .i64 0, .int .i64 0, .int .i64 0, .bool false]
set_option maxRecDepth 100000 in
set_option maxHeartbeats 4000000 in
theorem append_any {w : World} {M : List Nat} {sb mb : Nat} {av pv ev : Value} {pf : ByteArray → Value} {s : MS} {x : StreamR} {c : Cmd} (h : StAt w M sb mb av pf s) (hx : XOk s x) (hp : Rd M w 1 pv x.places.length (ints x.places))
    (he : Rd M w 4 ev c.events.length (c.events.flatMap EventR.cells)) (hl : s.all.length ≤ 1000000) (hel : 1 ≤ c.events.length ∧ c.events.length ≤ 8) (hn : 0 ≤ s.now ∧ s.now ≤ 1099511627776) :
    Calls Tryz.prog 63 #[.pointer (some ⟨sb, 0, none⟩), c.val ev, x.val pv] w fun e w' => ∃ pv' avr, e = .returned (.tuple #[(s.append c x).1.val, (s.append c x).2.1.val pv']) ∧
      StAt w' (avr.ownBlock.toList ++ M) sb mb avr pf (s.append c x).2.2 ∧ Rd (avr.ownBlock.toList ++ M) w' 1 pv' (s.append c x).2.1.places.length (ints (s.append c x).2.1.places) ∧ Only (hM sb mb av) w w' ∧ (∀ g, avr.ownBlock = some g → av.ownBlock = some g ∨ w.heap.size ≤ g) ∧ (∀ g, pv'.ownBlock = some g → w.heap.size ≤ g) := by
  obtain ⟨A, cap, hpv, hn1, hn2, hps⟩ := hp.1.openI
  obtain ⟨A1, cap1, hev, hn3, hn4, hes⟩ := he.1.openE EventR.cells (fun _ => rfl)
  obtain ⟨i0, hi, hz0, hz1, hz2⟩ := info_parts infoI
  obtain ⟨j0, hj, hy0, hy1, hy2⟩ := info_parts infoSt
  unfold maxLen at hn2 hn4
  have hfew := hx.few
  have hsb := h.blk.lt
  have evM : ∀ g, ev.ownBlock = some g → g ∉ sb :: av.ownBlock.toList ∨ c.events.length = 0 := fun g hg => by
    rcases he.2 g hg with q | q
    · left
      intro q2
      simp at q2
      rcases q2 with rfl | q2
      · exact q.1 h.inM.1
      · exact q.1 (h.inM.2.2 g q2)
    · exact .inr q
  have hCl := Lib.hid (fun (W : World) (hw : Only [] w W) => cloneI_any (hp.1.only0 hw) (by omega))
  have hsf := stF
  have h0 : ∀ o1 o2 o3 o4, Only [] w ((((w.alloc o1).alloc o2).alloc o3).alloc o4) := fun o1 o2 o3 o4 => ((((Only.refl [] w).alloc _).alloc _).alloc _).alloc _
  have kC : ∀ cs t o2 o3 o4, Blk ((((w.alloc (.cells cs t)).alloc o2).alloc o3).alloc o4) w.heap.size t cs := fun cs t o2 o3 o4 => ((((Only.refl [] _).alloc o2).alloc o3).alloc o4).blk (Blk.new w t cs) (by simp)
  have kX : ∀ cs t o1 o3 o4, Blk ((((w.alloc o1).alloc (.cells cs t)).alloc o3).alloc o4) (w.heap.size + 1) t cs := fun cs t o1 o3 o4 => by
    have := (((Only.refl [] _).alloc o3).alloc o4).blk (Blk.new (w.alloc o1) t cs) (by simp)
    simpa using this
  have kA : ∀ cs t o1 o2 o4, Blk ((((w.alloc o1).alloc o2).alloc (.cells cs t)).alloc o4) (w.heap.size + 1 + 1) t cs := fun cs t o1 o2 o4 => by
    have := ((Only.refl [] _).alloc o4).blk (Blk.new ((w.alloc o1).alloc o2) t cs) (by simp)
    simpa using this
  have kY : ∀ cs t o1 o2 o3, Blk ((((w.alloc o1).alloc o2).alloc o3).alloc (.cells cs t)) (w.heap.size + 1 + 1 + 1) t cs := fun cs t o1 o2 o3 => by
    have := Blk.new (((w.alloc o1).alloc o2).alloc o3) t cs
    simpa using this
  subst hpv hev
  obtain ⟨hel1, hel8⟩ := hel
  obtain ⟨R, hR⟩ : ∃ R, R = s.append c x := ⟨_, rfl⟩
  rw [← hR]
  rw [show c.val (.slice A1 c.events.length cap1) = .agg #[.int .i64 c.kind, .int .i64 c.time, .string c.stream, .int .i64 c.expected, .slice A1 c.events.length cap1, .int .i64 c.mt.maxCount, .int .i64 c.mt.maxAge, .int .i64 c.mt.before] from rfl,
    show x.val (.slice A x.places.length cap) = .agg #[.slice A x.places.length cap, .int .i64 x.mt.maxCount, .int .i64 x.mt.maxAge, .int .i64 x.mt.before, .int .i64 x.floor, .bool x.deleted] from rfl]
  have HR := Lib.hid hR
  clear hR
  go_enter Tryz.func63, Tryz.ntmps63
  go_wp2_with (go_at_call 99; refine (hCl.out _ (h0 _ _ _ _)).mono ?_; rintro e w1 ⟨v1, rfl, hown1, ho1⟩; obtain ⟨Av, capv, rfl, hv1, hv2⟩ := own_form hown1; have hX1 := fun i => (ho1.blk (kX _ _ _ _ _) (by simp)).cell i; have hXf1 := fun i => (ho1.blk (kX _ _ _ _ _) (by simp)).free i; have hC1 := fun i => (ho1.blk (kC _ _ _ _ _) (by simp)).cell i)
  have hcl : Hid (c.events.length = c.events.length) := rfl
  go_loopw [22] (fun i wr => ∃ (k : Nat) (avr pvr : Value), k ≤ c.events.length ∧ i = .int .i64 k ∧ ApAt w wr sb mb k av avr pvr (.slice A1 c.events.length cap1) s c x) (fun i _ => c.events.length - (intOf i).toNat)
  case atStart =>
    refine ⟨0, av, .slice Av x.places.length capv, Nat.zero_le _, rfl, ?_⟩
    have hO1 : Only [] w w1 := (h0 _ _ _ _).trans ho1
    have hO2 := hO1.setCell (p := ⟨w.heap.size + 1, 0, none⟩) (.inr (by simp)) (.slice Av x.places.length capv)
    have hO3 : Only [w.heap.size + 1] w1 (w1.setCell ⟨w.heap.size + 1, 0, none⟩ (.slice Av x.places.length capv)) := (Only.refl _ w1).setCell (.inl (by simp)) _
    have hown1' := own_base hown1 (base' := w.heap.size) (by simp; omega)
    refine ⟨hO2.of_nil, hO2.blk h.blk (by simp), ?_, ?_, fun g hg => .inl hg, hO3.blk (ho1.blk (kC _ _ _ _ _) (by simp)) (by simp <;> omega), (ho1.blk (kX _ _ _ _ _) (by simp)).set 0 _, hO3.blk (ho1.blk (kA _ _ _ _ _) (by simp)) (by simp <;> omega), hO3.blk (ho1.blk (kY _ _ _ _ _) (by simp)) (by simp <;> omega)⟩
    · have := own_only h.own hO2 (by simp)
      simpa [storedOf] using this
    · have := own_only hown1' hO3 (fun g hg => by have := (hown1.lt g hg).1; simp at this; simp; omega)
      simpa [rangeFrom] using this
  case round =>
    obtain ⟨k, avr, pvr, hk, rfl, hA⟩ := hrel
    obtain ⟨Ar, capr, rfl, har1, har2⟩ := own_form hA.own
    obtain ⟨Pr, pcap, rfl, hpr1, hpr2⟩ := own_form hA.pown
    have s0 : wr.cell? ⟨sb, 0, none⟩ = some (.slice Ar (s.all.length + k) capr) := hA.blkS.cell 0
    have s3 : wr.cell? ⟨sb, 3, none⟩ = some (.int .i64 s.now) := hA.blkS.cell 3
    have hC := fun i => hA.bC.cell i
    have hX := fun i => hA.bX.cell i
    have hXf := fun i => hA.bX.free i
    by_cases hlt : k < c.events.length
    · obtain ⟨be, offe, rfl, hbe, hce⟩ := hes k hlt
      have hben : be ∉ sb :: av.ownBlock.toList := (evM be rfl).resolve_right (by omega)
      obtain ⟨y, hy⟩ : ∃ y, y = c.events[k] := ⟨_, rfl⟩
      rw [← hy] at hce
      have e0 : wr.cell? ⟨be, offe + k * 4, none⟩ = some (.int .i64 y.id) := (hA.only.cell hbe hben).trans (hce 0 (by omega))
      have e1 : wr.cell? ⟨be, offe + k * 4 + 1, none⟩ = some (.string y.type) := (hA.only.cell hbe hben).trans (hce 1 (by omega))
      have e2 : wr.cell? ⟨be, offe + k * 4 + 2, none⟩ = some (.string y.data) := (hA.only.cell hbe hben).trans (hce 2 (by omega))
      have e3 : wr.cell? ⟨be, offe + k * 4 + 3, none⟩ = some (.float .f64 y.value) := (hA.only.cell hbe hben).trans (hce 3 (by omega))
      have hst := storedOf_take c.stream s.now c.events k hlt x.places.length s.all.length
      rw [← hy] at hst
      have hSt := Lib.hid hst
      have hEV : Only [] wr (wr.alloc (.cells #[.int .i64 y.id, .string y.type, .string y.data, .float .f64 (canon y.value)] 90)) := (Only.refl [] wr).alloc _
      have hEb := Blk.new wr 90 #[.int .i64 y.id, .string y.type, .string y.data, .float .f64 (canon y.value)]
      obtain ⟨So, hSo⟩ : ∃ So, So = (Value.slice Ar (s.all.length + k) capr).ownBlock.toList := ⟨_, rfl⟩
      have hSn : ∀ g ∈ So, g ≠ sb ∧ g < wr.heap.size ∧ ∃ cur, Blk wr g 92 cur := by
        intro g hg
        rw [hSo] at hg
        simp at hg
        obtain ⟨cur, hcur⟩ := own_type hA.own hg
        exact ⟨hcur.other hA.blkS (by decide), hcur.lt, cur, hcur⟩
      clear hce hst hy
      have s0a := fun o => (World.cell?_alloc_lt wr o _ (block_lt_of_cell s0)).trans s0
      go_wp2_with (go_at_call 100; refine (canon_any _ _).mono ?_; rintro e w' ⟨rfl, rfl⟩)
      obtain ⟨W2, hW2⟩ : ∃ W2, W2 = wr.alloc (.cells #[.int .i64 y.id, .string y.type, .string y.data, .float .f64 (canon y.value)] 90) := ⟨_, rfl⟩
      rw [← hW2] at hEV hEb ⊢
      clear hW2
      have nsb : sb ∉ So := fun q => (hSn sb q).1 rfl
      have nE : wr.heap.size ∉ So := fun q => Nat.lt_irrefl _ (hSn _ q).2.1
      have nC : w.heap.size ∉ So := fun q => by obtain ⟨_, _, cur, hcur⟩ := hSn _ q; exact hcur.other hA.bC (by decide) rfl
      have nX : w.heap.size + 1 ∉ So := fun q => by obtain ⟨_, _, cur, hcur⟩ := hSn _ q; exact hcur.other hA.bX (by decide) rfl
      have F0 := Within.cell (S := So) ((hEV.blk hA.blkS (by simp)).cell 0) nsb
      have F3 := Within.cell (S := So) ((hEV.blk hA.blkS (by simp)).cell 3) nsb
      have G0 := Within.cell (S := So) (hEb.cell 0) nE
      have G1 := Within.cell (S := So) (hEb.cell 1) nE
      have G2 := Within.cell (S := So) (hEb.cell 2) nE
      have G3 := Within.cell (S := So) (hEb.cell 3) nE
      have Fc := Within.cell (S := So) ((hEV.blk hA.bC (by simp)).cell 2) nC
      have Fx := Within.cell (S := So) ((hEV.blk hA.bX (by simp)).cell 0) nX
      refine wp_region_in So [0, 1, 2, 3, 4, 5, 6, 7, 8, 9, 10, 11, 12, 13, 14, 15, 16] [17, 18] [19, 20, 21] (by kernel_rfl) (by kernel_rfl) (by intro c d u a w h; cases d <;> exact h) ?_
      show wpQuiet _ _ _ _ [_, _, _, _, _, _, _, _, _, _, _, _, _, _, _, _, _] _
      repeat (go_big_quiet_step (fail))
      refine wpQuiet_nil ?_
      show wpList _ _ _ [_] _ _
      go_wp2_with fail
      refine check_of (S := So) (((Only.refl So W2).alloc _).drew) ?_
      show wpList _ _ _ [_] _ _
      have hOw : ∀ o, Only [] wr (W2.alloc o).drew := fun o => (hEV.alloc o).drew
      have hown0 := fun o => own_only hA.own (hOw o) (by simp)
      have hnb : Blk (W2.alloc (.cells #[.int .i64 y.id, .string y.type, .string y.data, .float .f64 (canon y.value), .string c.stream, .int .i64 ((x.places.length : Int) + k), .int .i64 ((s.all.length : Int) + k), .int .i64 s.now] 92)).drew W2.heap.size 92 #[.int .i64 y.id, .string y.type, .string y.data, .float .f64 (canon y.value), .string c.stream, .int .i64 ((x.places.length : Int) + k), .int .i64 ((s.all.length : Int) + k), .int .i64 s.now] := Blk.new W2 _ _
      refine wpList_append_lies rfl (.tmp 39) (.tmp 52) 28 rfl 0 92 j0 (.agg #[.int .i64 0, .string ⟨#[]⟩, .string ⟨#[]⟩, .float .f64 0, .string ⟨#[]⟩, .int .i64 0, .int .i64 0, .int .i64 0]) 8 88 Tryz.underlying28 hj hy0 hy1 hy2 rfl (by decide) (.slice Ar (s.all.length + k) capr) (s.all.length + k) _ rfl (hown0 _) ⟨W2.heap.size, 0, none⟩ 1 1 [.int .i64 y.id, .string y.type, .string y.data, .float .f64 (canon y.value), .string c.stream, .int .i64 ((x.places.length : Int) + k), .int .i64 ((s.all.length : Int) + k), .int .i64 s.now] rfl rfl (news_blk hnb) ?c2 (by decide) ?c3 ?c4 ?c5 ?_
      case c2 => simp [Value.oneCell']
      case c3 => unfold maxLen; omega
      case c4 => omega
      case c5 => exact Nat.zero_le _
      intro g4 cap4 w4 hown4 hgrow4 hlie4 hg4
      have ho24 : Only So W2 w4 := (((Only.refl So W2).alloc _).drew).grown hgrow4 (fun g hg => .inl (by rw [hSo, hg]; simp))
      have hav4 : g4 ∈ So ∨ W2.heap.size ≤ g4 := by
        rcases hlie4 with q | q
        · left; rw [hSo, q]; simp
        · right; rw [q]; simp
      have hS4 : Blk w4 sb 72 #[.slice Ar (s.all.length + k) capr, .map (some mb), .int .i64 s.done, .int .i64 s.now] := ho24.blk (hEV.blk hA.blkS (by simp)) nsb
      have hX4 : Blk w4 (w.heap.size + 1) 75 #[.slice Pr (x.places.length + k) pcap, .int .i64 x.mt.maxCount, .int .i64 x.mt.maxAge, .int .i64 x.mt.before, .int .i64 x.floor, .bool x.deleted] := ho24.blk (hEV.blk hA.bX (by simp)) nX
      obtain ⟨_, _, cur4, q4, _, hb4⟩ := own_some hown4 (by omega)
      cases q4
      clear hgrow4 hlie4 F0 F3 G0 G1 G2 G3 Fc Fx hnb hown0
      refine wpList_nil ?_
      refine check_of ho24 ?_
      show wpList _ _ _ [_, _, _] _ _
      have s40 := hS4.cell 0
      have sf40 := hS4.free 0
      have hO45 : ∀ v, Only [sb] w4 (w4.setCell ⟨sb, 0, none⟩ v) := fun v => (Only.refl _ w4).setCell (.inl (by simp)) _
      have hsx : w.heap.size + 1 ∉ [sb] := by simp; omega
      have hX5 := fun v i => ((hO45 v).blk hX4 hsx).cell i
      have hXf5 := fun v i => ((hO45 v).blk hX4 hsx).free i
      have hPn : ∀ g, (Value.slice Pr (x.places.length + k) pcap).ownBlock = some g → g ∉ So ∧ g ≠ sb ∧ g ≠ w.heap.size + 1 := by
        intro g hg
        obtain ⟨cur, hcur⟩ := own_type hA.pown hg
        refine ⟨fun q => ?_, ?_, hcur.other hA.bX (by decide)⟩
        · obtain ⟨_, _, cur2, hcur2⟩ := hSn g q
          exact hcur.other hcur2 (by decide) rfl
        · exact hcur.other hA.blkS (by decide)
      have hwr4 : Only So wr w4 := (hEV.of_nil).trans ho24
      have hpown5 : ∀ v o, ((w4.setCell ⟨sb, 0, none⟩ v).alloc o).ownsRow w.heap.size 3 1 (.slice Pr (x.places.length + k) pcap) (x.places.length + k) (ints (x.places ++ rangeFrom k s.all.length)) := fun v o =>
        own_only (own_only (own_only hA.pown hwr4 (fun g hg => (hPn g hg).1)) (hO45 v) (fun g hg => by simp; exact (hPn g hg).2.1)) ((Only.refl [] _).alloc o) (by simp)
      go_wp2_with (at_builtin; refine wpList_append_lies rfl (.tmp 57) (.tmp 59) 48 rfl w.heap.size 3 i0 (.int .i64 0) 1 8 Tryz.underlying48 hi hz0 hz1 hz2 rfl (by decide) (.slice Pr (x.places.length + k) pcap) (x.places.length + k) _ rfl (hpown5 _ _) ⟨w4.heap.size, 0, none⟩ 1 1 [.int .i64 ((s.all.length : Int) + k)] rfl rfl ?d1 ?d2 (by decide) ?d3 ?d4 ?d5 ?_)
      case d1 => exact news_set
      case d2 => simp [Value.oneCell']
      case d3 => unfold maxLen; omega
      case d4 => omega
      case d5 => have := hEV.size; have := ho24.size; have := hA.only.size; simp [World.setCell]; omega
      intro g6 cap6 w6 hown6 hgrow6 hlie6 hg6
      have ho56 : Only (Value.slice Pr (x.places.length + k) pcap).ownBlock.toList ((w4.setCell ⟨sb, 0, none⟩ (.slice (some ⟨g4, 0, none⟩) (s.all.length + k + 1) cap4)).alloc (.cells #[.int .i64 ((s.all.length : Int) + k)] 3)) w6 := (Only.refl _ _).grown hgrow6 (fun g hg => .inl (by rw [hg]; simp))
      have hPl : ∀ g, g ∈ (Value.slice Pr (x.places.length + k) pcap).ownBlock.toList → g ∉ So ∧ g ≠ sb ∧ g ≠ w.heap.size + 1 := fun g hg => hPn g (by simpa using hg)
      have hPw : ∀ g, g ∈ (Value.slice Pr (x.places.length + k) pcap).ownBlock.toList → w.heap.size ≤ g := fun g hg => (hA.pown.lt g (by simpa using hg)).1
      have hO46 : Only (sb :: (Value.slice Pr (x.places.length + k) pcap).ownBlock.toList) w4 w6 := (((hO45 _).alloc _).mono (by simp)).trans (ho56.mono (fun g hg => by simp at hg; simp [hg]))
      have hXg6 : Blk w6 (w.heap.size + 1) 75 #[.slice Pr (x.places.length + k) pcap, .int .i64 x.mt.maxCount, .int .i64 x.mt.maxAge, .int .i64 x.mt.before, .int .i64 x.floor, .bool x.deleted] := hO46.blk hX4 (by
        intro q
        rcases List.mem_cons.1 q with q | q
        · omega
        · exact (hPl _ q).2.2 rfl)
      have hO67 : Only [w.heap.size + 1] w6 (w6.setCell ⟨w.heap.size + 1, 0, none⟩ (.slice (some ⟨g6, 0, none⟩) (x.places.length + k + 1) cap6)) := (Only.refl _ w6).setCell (.inl (by simp)) _
      have hO47 := (hO46.mono (S' := (w.heap.size + 1) :: sb :: (Value.slice Pr (x.places.length + k) pcap).ownBlock.toList) (fun g hg => List.mem_cons_of_mem _ hg)).trans (hO67.mono (fun g hg => by simp at hg; simp [hg]))
      have hSoW : ∀ g ∈ So, g ∈ sb :: av.ownBlock.toList ∨ w.heap.size ≤ g := fun g hg => by
        rcases hA.avb g (by rw [hSo] at hg; simpa using hg) with q | q
        · left; simp [q]
        · exact .inr q
      have hOr4 : Only (sb :: av.ownBlock.toList) w w4 := hA.only.step hwr4 hSoW
      have hOr7 : Only (sb :: av.ownBlock.toList) w (w6.setCell ⟨w.heap.size + 1, 0, none⟩ (.slice (some ⟨g6, 0, none⟩) (x.places.length + k + 1) cap6)) := hOr4.step hO47 (fun g hg => by
        rcases List.mem_cons.1 hg with q | q
        · right; omega
        · rcases List.mem_cons.1 q with q | q
          · left; simp [q]
          · exact .inr (hPw g q))
      have hKeep : ∀ g t cs, Blk wr g t cs → g ∉ So → g ≠ sb → g ≠ w.heap.size + 1 → (g ∉ (Value.slice Pr (x.places.length + k) pcap).ownBlock.toList) → Blk (w6.setCell ⟨w.heap.size + 1, 0, none⟩ (.slice (some ⟨g6, 0, none⟩) (x.places.length + k + 1) cap6)) g t cs := fun g t cs hb h1 h2 h3 h4 => hO47.blk (hwr4.blk hb h1) (by
        intro q
        rcases List.mem_cons.1 q with q | q
        · exact h3 q
        · rcases List.mem_cons.1 q with q | q
          · exact h2 q
          · exact h4 q)
      have nY : ∀ g t cs, Blk wr g t cs → t ≠ 92 → t ≠ 3 → g ∉ So ∧ g ∉ (Value.slice Pr (x.places.length + k) pcap).ownBlock.toList := fun g t cs hb h1 h2 => ⟨fun q => by
          obtain ⟨_, _, cur, hcur⟩ := hSn g q
          exact hcur.other hb (fun e => h1 e.symm) rfl, fun q => by
          obtain ⟨cur, hcur⟩ := own_type hA.pown (g := g) (by simpa using q)
          exact hcur.other hb (fun e => h2 e.symm) rfl⟩
      have hNext : ApAt w (w6.setCell ⟨w.heap.size + 1, 0, none⟩ (.slice (some ⟨g6, 0, none⟩) (x.places.length + k + 1) cap6)) sb mb (k + 1) av (.slice (some ⟨g4, 0, none⟩) (s.all.length + k + 1) cap4) (.slice (some ⟨g6, 0, none⟩) (x.places.length + k + 1) cap6) (.slice (some ⟨be, offe, none⟩) c.events.length cap1) s c x := by
        refine ⟨hOr7, ?_, ?_, ?_, ?_, ?_, ?_, ?_, ?_⟩
        · refine hO67.blk (ho56.blk (((Only.refl [] _).alloc _).blk (hS4.set 0 _) (by simp)) (fun q => (hPl _ q).2.1 rfl)) (by simp; omega)
        · have hg4S : g4 ≠ sb := hb4.other hS4 (by decide)
          have hg4X : g4 ≠ w.heap.size + 1 := hb4.other hX4 (by decide)
          have hg4P : g4 ∉ (Value.slice Pr (x.places.length + k) pcap).ownBlock.toList := fun q => by
            obtain ⟨cur, hcur⟩ := own_type (own_only hA.pown hwr4 (fun g hg => (hPn g hg).1)) (g := g4) (by simpa using q)
            exact hcur.other hb4 (by decide) rfl
          have := own_only hown4 hO47 (fun g hg => by cases hg; simp only [List.mem_cons, not_or]; exact ⟨hg4X, hg4S, hg4P⟩)
          rw [hSt.out, ← List.append_assoc, List.flatMap_append]
          exact this
        · have := own_only hown6 hO67 (fun g hg => by
            cases hg
            obtain ⟨cur, hcur⟩ := own_type hown6 (g := g6) rfl
            simp
            exact hcur.other hXg6 (by decide))
          rw [rangeFrom_succ, ← List.append_assoc]
          unfold ints at this ⊢
          rw [List.map_append]
          exact this
        · intro g hg
          cases hg
          rcases hav4 with q | q
          · exact hA.avb _ (by rw [hSo] at q; simpa using q)
          · exact .inr (Nat.le_trans (Nat.le_trans hA.only.size hEV.size) q)
        · exact hKeep _ _ _ hA.bC (nY _ _ _ hA.bC (by decide) (by decide)).1 (by omega) (by omega) (nY _ _ _ hA.bC (by decide) (by decide)).2
        · exact hXg6.set 0 _
        · exact hKeep _ _ _ hA.bA (nY _ _ _ hA.bA (by decide) (by decide)).1 (by omega) (by omega) (nY _ _ _ hA.bA (by decide) (by decide)).2
        · exact hKeep _ _ _ hA.bY (nY _ _ _ hA.bY (by decide) (by decide)).1 (by omega) (by omega) (nY _ _ _ hA.bY (by decide) (by decide)).2
      have HNext := Lib.hid hNext
      have hX6 := fun i => hXg6.cell i
      have hXf6 := fun i => hXg6.free i
      clear hNext hKeep nY hOr7 hOr4 hSoW hO47 hO67 hO46 hPw hPl ho56 hgrow6 hlie6 hown6 hpown5 hwr4 hPn hX5 hXf5 hO45 hX4 hXg6 hS4 hav4 hown4
      go_wp2
      exact ⟨⟨k + 1, _, _, hlt, by simp, HNext.out⟩, by simp [intOf]; omega⟩
    · have hkl : k = c.events.length := by omega
      have hS := hA.blkS
      have HK := Lib.hid hkl
      have hfin : ∀ W9, Only [w.heap.size + 1 + 1, w.heap.size + 1 + 1 + 1] wr W9 → StAt W9 ((Value.slice Ar (s.all.length + k) capr).ownBlock.toList ++ M) sb mb (.slice Ar (s.all.length + k) capr) pf { s with all := s.all ++ storedOf c.stream s.now c.events x.places.length s.all.length } ∧
          Rd ((Value.slice Ar (s.all.length + k) capr).ownBlock.toList ++ M) W9 1 (.slice Pr (x.places.length + k) pcap) (x.places ++ rangeFrom c.events.length s.all.length).length (ints (x.places ++ rangeFrom c.events.length s.all.length)) ∧ Only (hM sb mb av) w W9 := by
        intro W9 hO9
        have htk : c.events.take k = c.events := by rw [hkl, List.take_length]
        have hOw : Only (sb :: av.ownBlock.toList) w W9 := hA.only.step hO9 (fun g hg => by right; simp at hg; omega)
        have hM9 : Only (hM sb mb av) w W9 := hOw.mono (fun g hg => by simp [hM] at hg ⊢; rcases hg with q | q; exact .inl q; exact .inr (.inr q))
        have hMM : ∀ g ∈ hM sb mb av, g ∈ (Value.slice Ar (s.all.length + k) capr).ownBlock.toList ++ M := fun g hg => List.mem_append_right _ (h.hMM g hg)
        have hnA : ∀ g ∈ (Value.slice Ar (s.all.length + k) capr).ownBlock.toList, g ∈ M ∨ w.heap.size ≤ g := fun g hg => by
          rcases hA.avb g (by simpa using hg) with q | q
          · exact .inl (h.inM.2.2 g q)
          · exact .inr q
        have hown9 := own_only hA.own hO9 (fun g hg => by
          obtain ⟨cur, hcur⟩ := own_type hA.own hg
          simp
          exact ⟨hcur.other hA.bA (by decide), hcur.other hA.bY (by decide)⟩)
        have hpown9 := own_only hA.pown hO9 (fun g hg => by
          obtain ⟨cur, hcur⟩ := own_type hA.pown hg
          simp
          exact ⟨hcur.other hA.bA (by decide), hcur.other hA.bY (by decide)⟩)
        refine ⟨⟨hO9.blk hA.blkS (by simp; omega), ?_, ?_, fun n y hy => ?_, ?_, ?_⟩, ⟨?_, fun g hg => .inl ⟨?_, ?_⟩⟩, hM9⟩
        · show W9.ownsRow 0 92 8 _ (s.all ++ storedOf c.stream s.now c.events x.places.length s.all.length).length _
          rw [List.length_append, storedOf_len, ← hkl]
          rw [htk] at hown9
          exact hown9
        · refine (h.map.only hOw ?_)
          simp
          exact ⟨h.ne, fun q => (h.ownne mb q).2 rfl⟩
        · exact ((h.pl n y hy).ext (fun g hg => by
            rcases List.mem_append.1 hg with q | q
            · exact hnA g q
            · exact .inl q)).only hM9 hMM
        · exact ⟨List.mem_append_right _ h.inM.1, List.mem_append_right _ h.inM.2.1, fun g hg => List.mem_append_left _ (by simpa using hg)⟩
        · intro g hg
          rcases List.mem_append.1 hg with q | q
          · exact Nat.lt_of_lt_of_le (hA.own.lt g (by simpa using q)).2 hO9.size
          · exact Nat.lt_of_lt_of_le (h.mlt g q) hOw.size
        · rw [List.length_append, rangeFrom_len, ← hkl]
          exact (Slc.of_own hpown9).1
        · intro q
          rcases List.mem_append.1 q with q | q
          · obtain ⟨c1, hc1⟩ := own_type hown9 (g := g) (by simpa using q)
            obtain ⟨c2, hc2⟩ := own_type hpown9 hg
            exact hc1.other hc2 (by decide) rfl
          · have := h.mlt g q
            have := (hpown9.lt g hg).1
            omega
        · exact (hpown9.lt g hg).2
      have HFIN := Lib.hid hfin
      clear hfin
      have hCx : Hid (c.events.take k = c.events) := by unfold Hid; rw [hkl, List.take_length]
      have hbA := fun i => hA.bA.cell i
      have hbAf := fun i => hA.bA.free i
      have hbY := fun i => hA.bY.cell i
      have hbYf := fun i => hA.bY.free i
      have hsn : w.heap.size + 1 + 1 ∉ [w.heap.size + 1 + 1] → False := fun q => q (by simp)
      have F0 := Within.cell (S := [w.heap.size + 1 + 1]) s0 (by simp; omega)
      have X0 := Within.cell (S := [w.heap.size + 1 + 1]) (hA.bX.cell 0) (by simp)
      have X1 := Within.cell (S := [w.heap.size + 1 + 1]) (hA.bX.cell 1) (by simp)
      have X2 := Within.cell (S := [w.heap.size + 1 + 1]) (hA.bX.cell 2) (by simp)
      have X3 := Within.cell (S := [w.heap.size + 1 + 1]) (hA.bX.cell 3) (by simp)
      have X4 := Within.cell (S := [w.heap.size + 1 + 1]) (hA.bX.cell 4) (by simp)
      have X5 := Within.cell (S := [w.heap.size + 1 + 1]) (hA.bX.cell 5) (by simp)
      have hwp := IntWalk.i64_in (((s.all.length + k : Nat) : Int) - 1) ⟨by omega, by omega⟩
      clear hkl hsn
      go_wp2_with fail
      refine wp_region_in [w.heap.size + 1 + 1] [0, 1, 2, 3, 4, 5, 6, 7, 8] [9] [10] (by kernel_rfl) (by kernel_rfl) (by intro c d u a w h; cases d <;> exact h) ?_
      show wpQuiet _ _ _ _ [_, _, _, _, _, _, _, _, _] _
      repeat (go_big_quiet_step (fail))
      refine wpQuiet_nil ?_
      show wpList _ _ _ [_] _ _
      go_wp2_with fail
      refine check_of (S := [w.heap.size + 1 + 1]) (by repeat (first | exact Only.refl _ _ | refine Only.drew ?_ | refine Only.setCell ?_ (.inl (by simp)) _)) ?_
      show wpList _ _ _ [_] _ _
      go_wp2
      have hR := HR.out
      subst hR
      clear HR F0 X0 X1 X2 X3 X4 X5 hwp
      refine bodyPost_ret (v := .tuple #[.agg #[.int .i64 0, .int .i64 x.places.length, .int .i64 ((s.all.length : Int) + k - 1), .bool false], .agg #[.slice Pr (x.places.length + k) pcap, .int .i64 x.mt.maxCount, .int .i64 x.mt.maxAge, .int .i64 x.mt.before, .int .i64 x.floor, .bool x.deleted]]) (by simp [results, Tryz.results63, go_sem, hbA, hbY]) rfl ⟨.slice Pr (x.places.length + k) pcap, .slice Ar (s.all.length + k) capr, ?_⟩
      rw [append_ans s c x HK.out, append_st, append_s, append_p]
      refine ⟨rfl, (HFIN.out _ ?hw).1, (HFIN.out _ ?hw).2.1, (HFIN.out _ ?hw).2.2, hA.avb, fun g hg => (hA.pown.lt g hg).1⟩
      case hw =>
        refine Only.drew ?_
        iterate 10 (refine Only.setCell ?_ (.inl (by simp)) _)
        exact Only.refl _ _
end Go.Proofs.YteinoiicnmemhaaGreatDoor
/- Contract: act. -/
set_option linter.unusedVariables false
set_option linter.unusedSimpArgs false
namespace Go.Proofs.YteinoiicnmemhaaGreatDoor
open Go.RowKit
/-- What a call on the state leaves: the state s', and what of the world may have turned. -/
def StLeads (w : World) (M : List Nat) (sb mb : Nat) (av : Value) (s' : MS) (w' : World) : Prop :=
  ∃ M' av' pf', StAt w' M' sb mb av' pf' s' ∧ Only (hM sb mb av) w w' ∧ (∀ g ∈ M, g ∈ M') ∧ (∀ g ∈ M', g ∈ M ∨ w.heap.size ≤ g) ∧ ∀ g, av'.ownBlock = some g → av.ownBlock = some g ∨ w.heap.size ≤ g
/-- What act leaves besides: the stream's places. -/
def ActLeads (w : World) (M : List Nat) (sb mb : Nat) (av : Value) (pf : ByteArray → Value) (y : StreamR) (s' : MS) (pv' : Value) (w' : World) : Prop :=
  ∃ M' av', StAt w' M' sb mb av' pf s' ∧ Rd M' w' 1 pv' y.places.length (ints y.places) ∧ Only (hM sb mb av) w w' ∧ (∀ g ∈ M, g ∈ M') ∧ (∀ g ∈ M', g ∈ M ∨ w.heap.size ≤ g) ∧ ∀ g, av'.ownBlock = some g → av.ownBlock = some g ∨ w.heap.size ≤ g
theorem ActLeads.same {w w' : World} {M : List Nat} {sb mb : Nat} {av pv : Value} {pf : ByteArray → Value} {s : MS} {y : StreamR} (h : StAt w M sb mb av pf s) (hp : Rd M w 1 pv y.places.length (ints y.places)) (k : Only [] w w') : ActLeads w M sb mb av pf y s pv w' :=
  ⟨M, av, h.only0 k, hp.only0 k, k.of_nil, fun _ q => q, fun _ q => .inl q, fun _ q => .inl q⟩
theorem Only.two {S : List Nat} {a b : World} (h : Only S a b) (e : b.heap.size = a.heap.size) {o o' : Obj} (ho : o' = o ∨ a.heap.size ∈ S) : Only S (a.alloc o) (b.alloc o') := by
  refine ⟨h.os, h.tape, h.output, by simp [e], fun k hk hn => ?_⟩
  simp at hk
  by_cases hlt : k < a.heap.size
  · rw [Below.heap_alloc _ _ _ hlt, Below.heap_alloc _ _ _ (by omega)]
    exact h.block k hlt hn
  · have hka : k = a.heap.size := by omega
    subst hka
    rcases ho with rfl | q
    · have h1 := heap_alloc_new a o'
      have h2 := heap_alloc_new b o'
      rw [e] at h2
      rw [h1, h2]
    · exact absurd q hn
theorem Only.drewL {S : List Nat} {a b : World} (h : Only S a b) : Only S a.drew b := ⟨h.os, h.tape, h.output, h.size, h.block⟩
/-- Of five fresh blocks the third may turn. -/
theorem turned (w : World) (o1 o2 o3 o4 o5 o3' : Obj) : Only [w.heap.size + 1 + 1] (((((w.alloc o1).alloc o2).alloc o3).alloc o4).alloc o5).drew (((((w.alloc o1).alloc o2).alloc o3').alloc o4).alloc o5) :=
  Only.drewL ((((Only.refl _ ((w.alloc o1).alloc o2)).two rfl (o := o3) (o' := o3') (.inr (by simp))).two (by simp) (o := o4) (o' := o4) (.inl rfl)).two (by simp) (.inl rfl))
set_option maxRecDepth 100000 in
set_option maxHeartbeats 4000000 in
theorem act_meta {w : World} {M : List Nat} {sb mb : Nat} {av pv ev : Value} {pf : ByteArray → Value} {s : MS} {x : StreamR} {c : Cmd} (h : StAt w M sb mb av pf s) (hx : XOk s x) (hp : Rd M w 1 pv x.places.length (ints x.places))
    (he : Rd M w 4 ev c.events.length (c.events.flatMap EventR.cells)) (hl : s.all.length ≤ 1000000) (hk : c.kind = 2) :
    Calls Tryz.prog 23 #[.pointer (some ⟨sb, 0, none⟩), c.val ev, x.val pv] w fun e w' => ∃ pv', e = .returned (.tuple #[(s.act c x).1.val, (s.act c x).2.1.val pv']) ∧ ActLeads w M sb mb av pf (s.act c x).2.1 (s.act c x).2.2 pv' w' := by
  obtain ⟨A, cap, hpv, hn1, hn2, hps⟩ := hp.1.openI
  obtain ⟨A1, cap1, hev, hn3, hn4, hes⟩ := he.1.openE EventR.cells (fun _ => rfl)
  obtain ⟨A2, cap2, hav, hnc2, hcm2, hel2⟩ := h.cell
  unfold maxLen at hn2 hn4 hcm2
  have hfew := hx.few
  have hsb := h.blk.lt
  have h0 : ∀ o1 o2 o3 o4, Only [] w ((((w.alloc o1).alloc o2).alloc o3).alloc o4) := fun o1 o2 o3 o4 => ((((Only.refl [] w).alloc _).alloc _).alloc _).alloc _
  have kC : ∀ cs t o2 o3 o4, Blk ((((w.alloc (.cells cs t)).alloc o2).alloc o3).alloc o4) w.heap.size t cs := fun cs t o2 o3 o4 => ((((Only.refl [] _).alloc o2).alloc o3).alloc o4).blk (Blk.new w t cs) (by simp)
  have kX : ∀ cs t o1 o3 o4, Blk ((((w.alloc o1).alloc (.cells cs t)).alloc o3).alloc o4) (w.heap.size + 1) t cs := fun cs t o1 o3 o4 => by
    have := (((Only.refl [] _).alloc o3).alloc o4).blk (Blk.new (w.alloc o1) t cs) (by simp)
    simpa using this
  have kA : ∀ cs t o1 o2 o4, Blk ((((w.alloc o1).alloc o2).alloc (.cells cs t)).alloc o4) (w.heap.size + 1 + 1) t cs := fun cs t o1 o2 o4 => by
    have := ((Only.refl [] _).alloc o4).blk (Blk.new ((w.alloc o1).alloc o2) t cs) (by simp)
    simpa using this
  have kY : ∀ cs t o1 o2 o3, Blk ((((w.alloc o1).alloc o2).alloc o3).alloc (.cells cs t)) (w.heap.size + 1 + 1 + 1) t cs := fun cs t o1 o2 o3 => by
    have := Blk.new (((w.alloc o1).alloc o2).alloc o3) t cs
    simpa using this
  have c0 : w.cell? ⟨sb, 0, none⟩ = some (.slice A2 s.all.length cap2) := by rw [← hav]; exact h.blk.cell 0
  have F0 := fun o1 o2 o3 o4 => Within.cell (S := []) (((h0 o1 o2 o3 o4).cell hsb (by simp)).trans c0) (by simp)
  have X0 := fun v a b d f g t o1 o3 o4 => Within.cell (S := []) ((kX #[v, a, b, d, f, g] t o1 o3 o4).cell 0) (by simp)
  subst hpv hev
  obtain ⟨R, hR⟩ : ∃ R, R = s.act c x := ⟨_, rfl⟩
  rw [← hR]
  have HR := Lib.hid hR
  clear hR c0
  rw [show c.val (.slice A1 c.events.length cap1) = .agg #[.int .i64 c.kind, .int .i64 c.time, .string c.stream, .int .i64 c.expected, .slice A1 c.events.length cap1, .int .i64 c.mt.maxCount, .int .i64 c.mt.maxAge, .int .i64 c.mt.before] from rfl,
    show x.val (.slice A x.places.length cap) = .agg #[.slice A x.places.length cap, .int .i64 x.mt.maxCount, .int .i64 x.mt.maxAge, .int .i64 x.mt.before, .int .i64 x.floor, .bool x.deleted] from rfl]
  have hk1 : ((c.kind : Int) == 2) = true := by simpa using hk
  have HK := Lib.hid hk
  clear hk
  go_enter Tryz.func23, Tryz.ntmps23
  go_wp2_with fail
  refine wp_region_in [] [0, 1, 2, 3, 4, 5, 6, 7, 8] [9] [10] (by kernel_rfl) (by kernel_rfl) (by intro c d u a w h; cases d <;> exact h) ?_
  show wpQuiet _ _ _ _ [_, _, _, _, _, _, _, _, _] _
  repeat (go_big_quiet_step (fail))
  refine wpQuiet_nil ?_
  show wpList _ _ _ [_] _ _
  go_wp2_with fail
  refine check_of (S := []) (((Only.refl [] _).alloc _).drew) ?_
  show wpList _ _ _ [_] _ _
  clear F0 X0
  go_wp2_with fail
  have k5 : ∀ o1 o2 o3 o4 o5, Only [] w (((((w.alloc o1).alloc o2).alloc o3).alloc o4).alloc o5).drew := fun o1 o2 o3 o4 o5 => ((h0 o1 o2 o3 o4).alloc o5).drew
  have kH : ∀ cs t o1 o2 o3 o4, Blk (((((w.alloc o1).alloc o2).alloc o3).alloc o4).alloc (.cells cs t)).drew (w.heap.size + 1 + 1 + 1 + 1) t cs := fun cs t o1 o2 o3 o4 => by
    have := (Only.refl [] _).drew.blk (Blk.new ((((w.alloc o1).alloc o2).alloc o3).alloc o4) t cs) (by simp <;> omega)
    simpa using this
  have kX : ∀ cs t o1 o3 o4 o5, Blk (((((w.alloc o1).alloc (.cells cs t)).alloc o3).alloc o4).alloc o5).drew (w.heap.size + 1) t cs := fun cs t o1 o3 o4 o5 => ((Only.refl [] _).alloc o5).drew.blk (kX cs t o1 o3 o4) (by simp <;> omega)
  have kA : ∀ cs t o1 o2 o4 o5, Blk (((((w.alloc o1).alloc o2).alloc (.cells cs t)).alloc o4).alloc o5).drew (w.heap.size + 1 + 1) t cs := fun cs t o1 o2 o4 o5 => ((Only.refl [] _).alloc o5).drew.blk (kA cs t o1 o2 o4) (by simp <;> omega)
  have kY : ∀ cs t o1 o2 o3 o5, Blk (((((w.alloc o1).alloc o2).alloc o3).alloc (.cells cs t)).alloc o5).drew (w.heap.size + 1 + 1 + 1) t cs := fun cs t o1 o2 o3 o5 => ((Only.refl [] _).alloc o5).drew.blk (kY cs t o1 o2 o3) (by simp <;> omega)
  have kS : ∀ o1 o2 o3 o4 o5, StAt (((((w.alloc o1).alloc o2).alloc o3).alloc o4).alloc o5).drew M sb mb av pf s := fun o1 o2 o3 o4 o5 => h.only0 (k5 o1 o2 o3 o4 o5)
  have H0 := fun v a b d o1 o2 o3 o4 => Within.cell (S := [w.heap.size + 1 + 1]) ((kH #[v, a, b, d] 34 o1 o2 o3 o4).cell 0) (by simp <;> omega)
  have H1 := fun v a b d o1 o2 o3 o4 => Within.cell (S := [w.heap.size + 1 + 1]) ((kH #[v, a, b, d] 34 o1 o2 o3 o4).cell 1) (by simp <;> omega)
  have H2 := fun v a b d o1 o2 o3 o4 => Within.cell (S := [w.heap.size + 1 + 1]) ((kH #[v, a, b, d] 34 o1 o2 o3 o4).cell 2) (by simp <;> omega)
  have H3 := fun v a b d o1 o2 o3 o4 => Within.cell (S := [w.heap.size + 1 + 1]) ((kH #[v, a, b, d] 34 o1 o2 o3 o4).cell 3) (by simp <;> omega)
  have X0 := fun v a b d f g o1 o3 o4 o5 => Within.cell (S := [w.heap.size + 1 + 1]) ((kX #[v, a, b, d, f, g] 75 o1 o3 o4 o5).cell 0) (by simp <;> omega)
  have X1 := fun v a b d f g o1 o3 o4 o5 => Within.cell (S := [w.heap.size + 1 + 1]) ((kX #[v, a, b, d, f, g] 75 o1 o3 o4 o5).cell 1) (by simp <;> omega)
  have X2 := fun v a b d f g o1 o3 o4 o5 => Within.cell (S := [w.heap.size + 1 + 1]) ((kX #[v, a, b, d, f, g] 75 o1 o3 o4 o5).cell 2) (by simp <;> omega)
  have X3 := fun v a b d f g o1 o3 o4 o5 => Within.cell (S := [w.heap.size + 1 + 1]) ((kX #[v, a, b, d, f, g] 75 o1 o3 o4 o5).cell 3) (by simp <;> omega)
  have X4 := fun v a b d f g o1 o3 o4 o5 => Within.cell (S := [w.heap.size + 1 + 1]) ((kX #[v, a, b, d, f, g] 75 o1 o3 o4 o5).cell 4) (by simp <;> omega)
  have X5 := fun v a b d f g o1 o3 o4 o5 => Within.cell (S := [w.heap.size + 1 + 1]) ((kX #[v, a, b, d, f, g] 75 o1 o3 o4 o5).cell 5) (by simp <;> omega)
  refine wp_region_in [w.heap.size + 1 + 1] [0, 1] [2] [3] (by kernel_rfl) (by kernel_rfl) (by intro c d u a w h; cases d <;> exact h) ?_
  show wpQuiet _ _ _ _ [_, _] _
  repeat (go_big_quiet_step (fail))
  refine wpQuiet_nil ?_
  show wpList _ _ _ [_] _ _
  go_wp2_with fail
  refine check_of (S := [w.heap.size + 1 + 1]) (turned w _ _ _ _ _ _).drew.drew ?_
  show wpList _ _ _ [_] _ _
  go_wp2
  have hR := HR.out
  subst hR
  clear HR H0 H1 H2 H3 X0 X1 X2 X3 X4 X5
  have hbA := fun cs o1 o2 o4 o5 i => ((Only.refl [] _).drew.blk (kA cs 29 o1 o2 o4 o5) (by simp)).cell i
  have hbY := fun cs o1 o2 o3 o5 i => ((Only.refl [] _).drew.blk (kY cs 77 o1 o2 o3 o5) (by simp)).cell i
  refine bodyPost_ret (v := .tuple #[.agg #[.int .i64 0, .int .i64 x.places.length, .int .i64 s.all.length, .bool false], .agg #[.slice A x.places.length cap, .int .i64 c.mt.maxCount, .int .i64 c.mt.maxAge, .int .i64 c.mt.before, .int .i64 x.floor, .bool x.deleted]]) (by simp [results, Tryz.results23, go_sem, hbA, hbY]) rfl ⟨.slice A x.places.length cap, ?_⟩
  have hE : s.act c x = (⟨0, x.places.length, s.all.length, false⟩, { x with mt := c.mt }, s) := by
    have := HK.out
    unfold MS.act
    rw [if_pos (by simpa using this)]
  rw [hE]
  refine ⟨rfl, ActLeads.same h hp ?hw⟩
  case hw => exact (k5 _ _ _ _ _).drew
set_option maxRecDepth 100000 in
set_option maxHeartbeats 4000000 in
theorem act_delYes {w : World} {M : List Nat} {sb mb : Nat} {av pv ev : Value} {pf : ByteArray → Value} {s : MS} {x : StreamR} {c : Cmd} (h : StAt w M sb mb av pf s) (hx : XOk s x) (hp : Rd M w 1 pv x.places.length (ints x.places))
    (he : Rd M w 4 ev c.events.length (c.events.flatMap EventR.cells)) (hl : s.all.length ≤ 1000000) (hk : c.kind = 3) (hexp : expected c.expected x.places.length = true) :
    Calls Tryz.prog 23 #[.pointer (some ⟨sb, 0, none⟩), c.val ev, x.val pv] w fun e w' => ∃ pv', e = .returned (.tuple #[(s.act c x).1.val, (s.act c x).2.1.val pv']) ∧ ActLeads w M sb mb av pf (s.act c x).2.1 (s.act c x).2.2 pv' w' := by
  obtain ⟨A, cap, hpv, hn1, hn2, hps⟩ := hp.1.openI
  obtain ⟨A1, cap1, hev, hn3, hn4, hes⟩ := he.1.openE EventR.cells (fun _ => rfl)
  obtain ⟨A2, cap2, hav, hnc2, hcm2, hel2⟩ := h.cell
  unfold maxLen at hn2 hn4 hcm2
  have hfew := hx.few
  have hsb := h.blk.lt
  have h0 : ∀ o1 o2 o3 o4, Only [] w ((((w.alloc o1).alloc o2).alloc o3).alloc o4) := fun o1 o2 o3 o4 => ((((Only.refl [] w).alloc _).alloc _).alloc _).alloc _
  have kC : ∀ cs t o2 o3 o4, Blk ((((w.alloc (.cells cs t)).alloc o2).alloc o3).alloc o4) w.heap.size t cs := fun cs t o2 o3 o4 => ((((Only.refl [] _).alloc o2).alloc o3).alloc o4).blk (Blk.new w t cs) (by simp)
  have kX : ∀ cs t o1 o3 o4, Blk ((((w.alloc o1).alloc (.cells cs t)).alloc o3).alloc o4) (w.heap.size + 1) t cs := fun cs t o1 o3 o4 => by
    have := (((Only.refl [] _).alloc o3).alloc o4).blk (Blk.new (w.alloc o1) t cs) (by simp)
    simpa using this
  have kA : ∀ cs t o1 o2 o4, Blk ((((w.alloc o1).alloc o2).alloc (.cells cs t)).alloc o4) (w.heap.size + 1 + 1) t cs := fun cs t o1 o2 o4 => by
    have := ((Only.refl [] _).alloc o4).blk (Blk.new ((w.alloc o1).alloc o2) t cs) (by simp)
    simpa using this
  have kY : ∀ cs t o1 o2 o3, Blk ((((w.alloc o1).alloc o2).alloc o3).alloc (.cells cs t)) (w.heap.size + 1 + 1 + 1) t cs := fun cs t o1 o2 o3 => by
    have := Blk.new (((w.alloc o1).alloc o2).alloc o3) t cs
    simpa using this
  have c0 : w.cell? ⟨sb, 0, none⟩ = some (.slice A2 s.all.length cap2) := by rw [← hav]; exact h.blk.cell 0
  have F0 := fun o1 o2 o3 o4 => Within.cell (S := []) (((h0 o1 o2 o3 o4).cell hsb (by simp)).trans c0) (by simp)
  have X0 := fun v a b d f g t o1 o3 o4 => Within.cell (S := []) ((kX #[v, a, b, d, f, g] t o1 o3 o4).cell 0) (by simp)
  subst hpv hev
  obtain ⟨R, hR⟩ : ∃ R, R = s.act c x := ⟨_, rfl⟩
  rw [← hR]
  have HR := Lib.hid hR
  clear hR c0
  rw [show c.val (.slice A1 c.events.length cap1) = .agg #[.int .i64 c.kind, .int .i64 c.time, .string c.stream, .int .i64 c.expected, .slice A1 c.events.length cap1, .int .i64 c.mt.maxCount, .int .i64 c.mt.maxAge, .int .i64 c.mt.before] from rfl,
    show x.val (.slice A x.places.length cap) = .agg #[.slice A x.places.length cap, .int .i64 x.mt.maxCount, .int .i64 x.mt.maxAge, .int .i64 x.mt.before, .int .i64 x.floor, .bool x.deleted] from rfl]
  have hk1 : ((c.kind : Int) == 2) = false := by rw [beq_eq_false_iff_ne]; omega
  have hk2 : ((c.kind : Int) == 3) = true := by rw [beq_iff_eq]; omega
  have HK := Lib.hid hk
  have HX := Lib.hid hexp
  have HE := Lib.hid (fun W => (expected_any c.expected x.places.length W ⟨by omega, by omega⟩))
  rw [hexp] at HE
  clear hk hexp
  go_enter Tryz.func23, Tryz.ntmps23
  go_wp2_with fail
  refine wp_region_in [] [0, 1, 2, 3, 4, 5, 6, 7, 8] [9] [10] (by kernel_rfl) (by kernel_rfl) (by intro c d u a w h; cases d <;> exact h) ?_
  show wpQuiet _ _ _ _ [_, _, _, _, _, _, _, _, _] _
  repeat (go_big_quiet_step (fail))
  refine wpQuiet_nil ?_
  show wpList _ _ _ [_] _ _
  go_wp2_with fail
  refine check_of (S := []) (((Only.refl [] _).alloc _).drew) ?_
  show wpList _ _ _ [_] _ _
  clear F0 X0
  go_wp2_with fail
  have k5 : ∀ o1 o2 o3 o4 o5, Only [] w (((((w.alloc o1).alloc o2).alloc o3).alloc o4).alloc o5).drew := fun o1 o2 o3 o4 o5 => ((h0 o1 o2 o3 o4).alloc o5).drew
  have kH : ∀ cs t o1 o2 o3 o4, Blk (((((w.alloc o1).alloc o2).alloc o3).alloc o4).alloc (.cells cs t)).drew (w.heap.size + 1 + 1 + 1 + 1) t cs := fun cs t o1 o2 o3 o4 => by
    have := (Only.refl [] _).drew.blk (Blk.new ((((w.alloc o1).alloc o2).alloc o3).alloc o4) t cs) (by simp <;> omega)
    simpa using this
  have kX : ∀ cs t o1 o3 o4 o5, Blk (((((w.alloc o1).alloc (.cells cs t)).alloc o3).alloc o4).alloc o5).drew (w.heap.size + 1) t cs := fun cs t o1 o3 o4 o5 => ((Only.refl [] _).alloc o5).drew.blk (kX cs t o1 o3 o4) (by simp <;> omega)
  have kA : ∀ cs t o1 o2 o4 o5, Blk (((((w.alloc o1).alloc o2).alloc (.cells cs t)).alloc o4).alloc o5).drew (w.heap.size + 1 + 1) t cs := fun cs t o1 o2 o4 o5 => ((Only.refl [] _).alloc o5).drew.blk (kA cs t o1 o2 o4) (by simp <;> omega)
  have kY : ∀ cs t o1 o2 o3 o5, Blk (((((w.alloc o1).alloc o2).alloc o3).alloc (.cells cs t)).alloc o5).drew (w.heap.size + 1 + 1 + 1) t cs := fun cs t o1 o2 o3 o5 => ((Only.refl [] _).alloc o5).drew.blk (kY cs t o1 o2 o3) (by simp <;> omega)
  have kS : ∀ o1 o2 o3 o4 o5, StAt (((((w.alloc o1).alloc o2).alloc o3).alloc o4).alloc o5).drew M sb mb av pf s := fun o1 o2 o3 o4 o5 => h.only0 (k5 o1 o2 o3 o4 o5)
  go_wp2_with (go_at_call 59; refine (HE.out _).mono ?_; rintro e w1 ⟨rfl, hWE⟩; subst hWE)
  have H0 := fun v a b d o1 o2 o3 o4 => Within.cell (S := [w.heap.size + 1 + 1]) ((kH #[v, a, b, d] 34 o1 o2 o3 o4).cell 0) (by simp <;> omega)
  have H1 := fun v a b d o1 o2 o3 o4 => Within.cell (S := [w.heap.size + 1 + 1]) ((kH #[v, a, b, d] 34 o1 o2 o3 o4).cell 1) (by simp <;> omega)
  have H2 := fun v a b d o1 o2 o3 o4 => Within.cell (S := [w.heap.size + 1 + 1]) ((kH #[v, a, b, d] 34 o1 o2 o3 o4).cell 2) (by simp <;> omega)
  have H3 := fun v a b d o1 o2 o3 o4 => Within.cell (S := [w.heap.size + 1 + 1]) ((kH #[v, a, b, d] 34 o1 o2 o3 o4).cell 3) (by simp <;> omega)
  have X0 := fun v a b d f g o1 o3 o4 o5 => Within.cell (S := [w.heap.size + 1 + 1]) ((kX #[v, a, b, d, f, g] 75 o1 o3 o4 o5).cell 0) (by simp <;> omega)
  have X1 := fun v a b d f g o1 o3 o4 o5 => Within.cell (S := [w.heap.size + 1 + 1]) ((kX #[v, a, b, d, f, g] 75 o1 o3 o4 o5).cell 1) (by simp <;> omega)
  have X2 := fun v a b d f g o1 o3 o4 o5 => Within.cell (S := [w.heap.size + 1 + 1]) ((kX #[v, a, b, d, f, g] 75 o1 o3 o4 o5).cell 2) (by simp <;> omega)
  have X3 := fun v a b d f g o1 o3 o4 o5 => Within.cell (S := [w.heap.size + 1 + 1]) ((kX #[v, a, b, d, f, g] 75 o1 o3 o4 o5).cell 3) (by simp <;> omega)
  have X4 := fun v a b d f g o1 o3 o4 o5 => Within.cell (S := [w.heap.size + 1 + 1]) ((kX #[v, a, b, d, f, g] 75 o1 o3 o4 o5).cell 4) (by simp <;> omega)
  have X5 := fun v a b d f g o1 o3 o4 o5 => Within.cell (S := [w.heap.size + 1 + 1]) ((kX #[v, a, b, d, f, g] 75 o1 o3 o4 o5).cell 5) (by simp <;> omega)
  refine wp_region_in [w.heap.size + 1 + 1] [0, 1] [2] [3] (by kernel_rfl) (by kernel_rfl) (by intro c d u a w h; cases d <;> exact h) ?_
  show wpQuiet _ _ _ _ [_, _] _
  repeat (go_big_quiet_step (fail))
  refine wpQuiet_nil ?_
  show wpList _ _ _ [_] _ _
  go_wp2_with fail
  refine check_of (S := [w.heap.size + 1 + 1]) (turned w _ _ _ _ _ _).drew.drew ?_
  show wpList _ _ _ [_] _ _
  go_wp2
  have hR := HR.out
  subst hR
  clear HR H0 H1 H2 H3 X0 X1 X2 X3 X4 X5
  have hbA := fun cs o1 o2 o4 o5 i => ((Only.refl [] _).drew.blk (kA cs 34 o1 o2 o4 o5) (by simp)).cell i
  have hbY := fun cs o1 o2 o3 o5 i => ((Only.refl [] _).drew.blk (kY cs 75 o1 o2 o3 o5) (by simp)).cell i
  refine bodyPost_ret (v := .tuple #[.agg #[.int .i64 0, .int .i64 x.places.length, .int .i64 s.all.length, .bool false], .agg #[.slice A x.places.length cap, .int .i64 x.mt.maxCount, .int .i64 x.mt.maxAge, .int .i64 x.mt.before, .int .i64 x.floor, .bool true]]) (by simp [results, Tryz.results23, go_sem, hbA, hbY]) rfl ⟨.slice A x.places.length cap, ?_⟩
  have hE : s.act c x = (⟨0, x.places.length, s.all.length, false⟩, { x with deleted := true }, s) := by
    have := HK.out
    unfold MS.act
    rw [if_neg (by omega), if_pos (by omega), HX.out, if_pos rfl]
  rw [hE]
  refine ⟨rfl, ActLeads.same h hp ?hw⟩
  case hw => exact (k5 _ _ _ _ _).drew
set_option maxRecDepth 100000 in
set_option maxHeartbeats 4000000 in
theorem act_delNo {w : World} {M : List Nat} {sb mb : Nat} {av pv ev : Value} {pf : ByteArray → Value} {s : MS} {x : StreamR} {c : Cmd} (h : StAt w M sb mb av pf s) (hx : XOk s x) (hp : Rd M w 1 pv x.places.length (ints x.places))
    (he : Rd M w 4 ev c.events.length (c.events.flatMap EventR.cells)) (hl : s.all.length ≤ 1000000) (hk : c.kind = 3) (hexp : expected c.expected x.places.length = false) :
    Calls Tryz.prog 23 #[.pointer (some ⟨sb, 0, none⟩), c.val ev, x.val pv] w fun e w' => ∃ pv', e = .returned (.tuple #[(s.act c x).1.val, (s.act c x).2.1.val pv']) ∧ ActLeads w M sb mb av pf (s.act c x).2.1 (s.act c x).2.2 pv' w' := by
  obtain ⟨A, cap, hpv, hn1, hn2, hps⟩ := hp.1.openI
  obtain ⟨A1, cap1, hev, hn3, hn4, hes⟩ := he.1.openE EventR.cells (fun _ => rfl)
  obtain ⟨A2, cap2, hav, hnc2, hcm2, hel2⟩ := h.cell
  unfold maxLen at hn2 hn4 hcm2
  have hfew := hx.few
  have hsb := h.blk.lt
  have h0 : ∀ o1 o2 o3 o4, Only [] w ((((w.alloc o1).alloc o2).alloc o3).alloc o4) := fun o1 o2 o3 o4 => ((((Only.refl [] w).alloc _).alloc _).alloc _).alloc _
  have kC : ∀ cs t o2 o3 o4, Blk ((((w.alloc (.cells cs t)).alloc o2).alloc o3).alloc o4) w.heap.size t cs := fun cs t o2 o3 o4 => ((((Only.refl [] _).alloc o2).alloc o3).alloc o4).blk (Blk.new w t cs) (by simp)
  have kX : ∀ cs t o1 o3 o4, Blk ((((w.alloc o1).alloc (.cells cs t)).alloc o3).alloc o4) (w.heap.size + 1) t cs := fun cs t o1 o3 o4 => by
    have := (((Only.refl [] _).alloc o3).alloc o4).blk (Blk.new (w.alloc o1) t cs) (by simp)
    simpa using this
  have kA : ∀ cs t o1 o2 o4, Blk ((((w.alloc o1).alloc o2).alloc (.cells cs t)).alloc o4) (w.heap.size + 1 + 1) t cs := fun cs t o1 o2 o4 => by
    have := ((Only.refl [] _).alloc o4).blk (Blk.new ((w.alloc o1).alloc o2) t cs) (by simp)
    simpa using this
  have kY : ∀ cs t o1 o2 o3, Blk ((((w.alloc o1).alloc o2).alloc o3).alloc (.cells cs t)) (w.heap.size + 1 + 1 + 1) t cs := fun cs t o1 o2 o3 => by
    have := Blk.new (((w.alloc o1).alloc o2).alloc o3) t cs
    simpa using this
  have c0 : w.cell? ⟨sb, 0, none⟩ = some (.slice A2 s.all.length cap2) := by rw [← hav]; exact h.blk.cell 0
  have F0 := fun o1 o2 o3 o4 => Within.cell (S := []) (((h0 o1 o2 o3 o4).cell hsb (by simp)).trans c0) (by simp)
  have X0 := fun v a b d f g t o1 o3 o4 => Within.cell (S := []) ((kX #[v, a, b, d, f, g] t o1 o3 o4).cell 0) (by simp)
  subst hpv hev
  obtain ⟨R, hR⟩ : ∃ R, R = s.act c x := ⟨_, rfl⟩
  rw [← hR]
  have HR := Lib.hid hR
  clear hR c0
  rw [show c.val (.slice A1 c.events.length cap1) = .agg #[.int .i64 c.kind, .int .i64 c.time, .string c.stream, .int .i64 c.expected, .slice A1 c.events.length cap1, .int .i64 c.mt.maxCount, .int .i64 c.mt.maxAge, .int .i64 c.mt.before] from rfl,
    show x.val (.slice A x.places.length cap) = .agg #[.slice A x.places.length cap, .int .i64 x.mt.maxCount, .int .i64 x.mt.maxAge, .int .i64 x.mt.before, .int .i64 x.floor, .bool x.deleted] from rfl]
  have HWr := Lib.hid (fun (W : World) (hw : Only [] w W) => show Calls Tryz.prog 60 #[.agg #[.slice A x.places.length cap, .int .i64 x.mt.maxCount, .int .i64 x.mt.maxAge, .int .i64 x.mt.before, .int .i64 x.floor, .bool x.deleted]] W fun e w' => e = .returned (.agg #[.int .i64 22, .int .i64 ((x.places.length : Int) - 1), .int .i64 0, .bool false]) ∧ Only [] W w' from wrong_any (x := x) (hp.1.only0 hw) (by omega))
  have hk1 : ((c.kind : Int) == 2) = false := by rw [beq_eq_false_iff_ne]; omega
  have hk2 : ((c.kind : Int) == 3) = true := by rw [beq_iff_eq]; omega
  have HK := Lib.hid hk
  have HX := Lib.hid hexp
  have HE := Lib.hid (fun W => (expected_any c.expected x.places.length W ⟨by omega, by omega⟩))
  rw [hexp] at HE
  clear hk hexp
  go_enter Tryz.func23, Tryz.ntmps23
  go_wp2_with fail
  refine wp_region_in [] [0, 1, 2, 3, 4, 5, 6, 7, 8] [9] [10] (by kernel_rfl) (by kernel_rfl) (by intro c d u a w h; cases d <;> exact h) ?_
  show wpQuiet _ _ _ _ [_, _, _, _, _, _, _, _, _] _
  repeat (go_big_quiet_step (fail))
  refine wpQuiet_nil ?_
  show wpList _ _ _ [_] _ _
  go_wp2_with fail
  refine check_of (S := []) (((Only.refl [] _).alloc _).drew) ?_
  show wpList _ _ _ [_] _ _
  clear F0 X0
  go_wp2_with fail
  have k5 : ∀ o1 o2 o3 o4 o5, Only [] w (((((w.alloc o1).alloc o2).alloc o3).alloc o4).alloc o5).drew := fun o1 o2 o3 o4 o5 => ((h0 o1 o2 o3 o4).alloc o5).drew
  have kH : ∀ cs t o1 o2 o3 o4, Blk (((((w.alloc o1).alloc o2).alloc o3).alloc o4).alloc (.cells cs t)).drew (w.heap.size + 1 + 1 + 1 + 1) t cs := fun cs t o1 o2 o3 o4 => by
    have := (Only.refl [] _).drew.blk (Blk.new ((((w.alloc o1).alloc o2).alloc o3).alloc o4) t cs) (by simp <;> omega)
    simpa using this
  have kX : ∀ cs t o1 o3 o4 o5, Blk (((((w.alloc o1).alloc (.cells cs t)).alloc o3).alloc o4).alloc o5).drew (w.heap.size + 1) t cs := fun cs t o1 o3 o4 o5 => ((Only.refl [] _).alloc o5).drew.blk (kX cs t o1 o3 o4) (by simp <;> omega)
  have kA : ∀ cs t o1 o2 o4 o5, Blk (((((w.alloc o1).alloc o2).alloc (.cells cs t)).alloc o4).alloc o5).drew (w.heap.size + 1 + 1) t cs := fun cs t o1 o2 o4 o5 => ((Only.refl [] _).alloc o5).drew.blk (kA cs t o1 o2 o4) (by simp <;> omega)
  have kY : ∀ cs t o1 o2 o3 o5, Blk (((((w.alloc o1).alloc o2).alloc o3).alloc (.cells cs t)).alloc o5).drew (w.heap.size + 1 + 1 + 1) t cs := fun cs t o1 o2 o3 o5 => ((Only.refl [] _).alloc o5).drew.blk (kY cs t o1 o2 o3) (by simp <;> omega)
  have kS : ∀ o1 o2 o3 o4 o5, StAt (((((w.alloc o1).alloc o2).alloc o3).alloc o4).alloc o5).drew M sb mb av pf s := fun o1 o2 o3 o4 o5 => h.only0 (k5 o1 o2 o3 o4 o5)
  go_wp2_with (go_at_call 59; refine (HE.out _).mono ?_; rintro e w1 ⟨rfl, hWE⟩; subst hWE)
  have H0 := fun v a b d o1 o2 o3 o4 => Within.cell (S := [w.heap.size + 1 + 1]) ((kH #[v, a, b, d] 34 o1 o2 o3 o4).cell 0) (by simp <;> omega)
  have H1 := fun v a b d o1 o2 o3 o4 => Within.cell (S := [w.heap.size + 1 + 1]) ((kH #[v, a, b, d] 34 o1 o2 o3 o4).cell 1) (by simp <;> omega)
  have H2 := fun v a b d o1 o2 o3 o4 => Within.cell (S := [w.heap.size + 1 + 1]) ((kH #[v, a, b, d] 34 o1 o2 o3 o4).cell 2) (by simp <;> omega)
  have H3 := fun v a b d o1 o2 o3 o4 => Within.cell (S := [w.heap.size + 1 + 1]) ((kH #[v, a, b, d] 34 o1 o2 o3 o4).cell 3) (by simp <;> omega)
  have X0 := fun v a b d f g o1 o3 o4 o5 => Within.cell (S := [w.heap.size + 1 + 1]) ((kX #[v, a, b, d, f, g] 75 o1 o3 o4 o5).cell 0) (by simp <;> omega)
  have X1 := fun v a b d f g o1 o3 o4 o5 => Within.cell (S := [w.heap.size + 1 + 1]) ((kX #[v, a, b, d, f, g] 75 o1 o3 o4 o5).cell 1) (by simp <;> omega)
  have X2 := fun v a b d f g o1 o3 o4 o5 => Within.cell (S := [w.heap.size + 1 + 1]) ((kX #[v, a, b, d, f, g] 75 o1 o3 o4 o5).cell 2) (by simp <;> omega)
  have X3 := fun v a b d f g o1 o3 o4 o5 => Within.cell (S := [w.heap.size + 1 + 1]) ((kX #[v, a, b, d, f, g] 75 o1 o3 o4 o5).cell 3) (by simp <;> omega)
  have X4 := fun v a b d f g o1 o3 o4 o5 => Within.cell (S := [w.heap.size + 1 + 1]) ((kX #[v, a, b, d, f, g] 75 o1 o3 o4 o5).cell 4) (by simp <;> omega)
  have X5 := fun v a b d f g o1 o3 o4 o5 => Within.cell (S := [w.heap.size + 1 + 1]) ((kX #[v, a, b, d, f, g] 75 o1 o3 o4 o5).cell 5) (by simp <;> omega)
  refine wp_region_in [w.heap.size + 1 + 1] [0, 2] [1, 3] [4] (by kernel_rfl) (by kernel_rfl) (by intro c d u a w h; cases d <;> exact h) ?_
  show wpQuiet _ _ _ _ [_, _] _
  repeat (go_big_quiet_step (fail))
  refine wpQuiet_nil ?_
  show wpList _ _ _ [_] _ _
  go_wp2_with (go_at_call 60; refine (HWr.out _ (k5 _ _ _ _ _).drew).mono ?_; rintro e w1 ⟨rfl, ho1⟩)
  refine check_of (S := [w.heap.size + 1 + 1]) (((Only.refl [] _).drew.trans ho1).of_nil) ?_
  show wpList _ _ _ [_] _ _
  have hA1 := fun i => (ho1.blk ((Only.refl [] _).drew.blk (kA _ _ _ _ _ _) (by simp)) (by simp <;> omega)).cell i
  have hA1f := fun i => (ho1.blk ((Only.refl [] _).drew.blk (kA _ _ _ _ _ _) (by simp)) (by simp <;> omega)).free i
  have hY1 := fun i => (ho1.blk ((Only.refl [] _).drew.blk (kY _ _ _ _ _ _) (by simp)) (by simp <;> omega)).cell i
  have hY1f := fun i => (ho1.blk ((Only.refl [] _).drew.blk (kY _ _ _ _ _ _) (by simp)) (by simp <;> omega)).free i
  go_wp2_with fail
  refine check_of (S := [w.heap.size + 1 + 1]) (by repeat (first | exact ((Only.refl [] _).drew.trans ho1).of_nil | refine Only.drew ?_ | refine Only.setCell ?_ (.inl (by simp)) _)) ?_
  show wpList _ _ _ [_] _ _
  go_wp2
  have hR := HR.out
  subst hR
  clear HR H0 H1 H2 H3 X0 X1 X2 X3 X4 X5
  refine bodyPost_ret (v := .tuple #[.agg #[.int .i64 22, .int .i64 ((x.places.length : Int) - 1), .int .i64 0, .bool false], .agg #[.slice A x.places.length cap, .int .i64 x.mt.maxCount, .int .i64 x.mt.maxAge, .int .i64 x.mt.before, .int .i64 x.floor, .bool x.deleted]]) (by simp [results, Tryz.results23, go_sem, hA1, hY1]) rfl ⟨.slice A x.places.length cap, ?_⟩
  have hE : s.act c x = (wrong x, x, s) := by
    have := HK.out
    unfold MS.act
    rw [if_neg (by omega), if_pos (by omega), HX.out, if_neg (by decide)]
  rw [hE]
  refine ⟨rfl, ActLeads.same h hp ?hw⟩
  case hw =>
    iterate 10 (refine Only.setCell ?_ (.inr (by simp <;> omega)) _)
    exact (k5 _ _ _ _ _).drew.trans ho1
end Go.Proofs.YteinoiicnmemhaaGreatDoor
/- Contract: act on a command that appends. -/
set_option linter.unusedVariables false
set_option linter.unusedSimpArgs false
namespace Go.Proofs.YteinoiicnmemhaaGreatDoor
open Go.RowKit
theorem firstOf_cases (all : List StoredR) (id : Int) : ∀ (ps : List Int) (k : Int), firstOf all id ps k = -1 ∨ (k ≤ firstOf all id ps k ∧ firstOf all id ps k < k + ps.length)
  | [], _ => .inl rfl
  | p :: l, k => by
    unfold firstOf
    split
    · right
      simp
      omega
    · rcases firstOf_cases all id l (k + 1) with q | q
      · exact .inl q
      · right
        simp
        omega
theorem first_cases (s : MS) (x : StreamR) (id : Int) : s.first x id = -1 ∨ ∃ v : Nat, s.first x id = v ∧ v < x.places.length := by
  rcases firstOf_cases s.all id x.places 0 with q | ⟨q1, q2⟩
  · exact .inl q
  · refine .inr ⟨(s.first x id).toNat, ?_, ?_⟩ <;> unfold MS.first <;> omega
def headId (c : Cmd) : Int := ((c.events.head?).map (·.id)).getD 0
theorem headId_at {c : Cmd} (h : 0 < c.events.length) : headId c = c.events[0].id := by
  unfold headId
  rw [List.head?_eq_getElem?, List.getElem?_eq_getElem h]
  rfl
set_option maxRecDepth 100000 in
set_option maxHeartbeats 4000000 in
theorem act_again {w : World} {M : List Nat} {sb mb : Nat} {av pv ev : Value} {pf : ByteArray → Value} {s : MS} {x : StreamR} {c : Cmd} (h : StAt w M sb mb av pf s) (hx : XOk s x) (hp : Rd M w 1 pv x.places.length (ints x.places))
    (he : Rd M w 4 ev c.events.length (c.events.flatMap EventR.cells)) (hl : s.all.length ≤ 1000000) (hk : c.kind ≠ 2 ∧ c.kind ≠ 3) (hel : 1 ≤ c.events.length ∧ c.events.length ≤ 8) {v : Nat} (hv : s.first x (headId c) = v) (hvl : v < x.places.length) :
    Calls Tryz.prog 23 #[.pointer (some ⟨sb, 0, none⟩), c.val ev, x.val pv] w fun e w' => ∃ pv', e = .returned (.tuple #[(s.act c x).1.val, (s.act c x).2.1.val pv']) ∧ ActLeads w M sb mb av pf (s.act c x).2.1 (s.act c x).2.2 pv' w' := by
  obtain ⟨A, cap, hpv, hn1, hn2, hps⟩ := hp.1.openI
  obtain ⟨A1, cap1, hev, hn3, hn4, hes⟩ := he.1.openE EventR.cells (fun _ => rfl)
  obtain ⟨A2, cap2, hav, hnc2, hcm2, hel2⟩ := h.cell
  unfold maxLen at hn2 hn4 hcm2
  have hfew := hx.few
  have hsb := h.blk.lt
  have h0 : ∀ o1 o2 o3 o4, Only [] w ((((w.alloc o1).alloc o2).alloc o3).alloc o4) := fun o1 o2 o3 o4 => ((((Only.refl [] w).alloc _).alloc _).alloc _).alloc _
  have kC : ∀ cs t o2 o3 o4, Blk ((((w.alloc (.cells cs t)).alloc o2).alloc o3).alloc o4) w.heap.size t cs := fun cs t o2 o3 o4 => ((((Only.refl [] _).alloc o2).alloc o3).alloc o4).blk (Blk.new w t cs) (by simp)
  have kX : ∀ cs t o1 o3 o4, Blk ((((w.alloc o1).alloc (.cells cs t)).alloc o3).alloc o4) (w.heap.size + 1) t cs := fun cs t o1 o3 o4 => by
    have := (((Only.refl [] _).alloc o3).alloc o4).blk (Blk.new (w.alloc o1) t cs) (by simp)
    simpa using this
  have kA : ∀ cs t o1 o2 o4, Blk ((((w.alloc o1).alloc o2).alloc (.cells cs t)).alloc o4) (w.heap.size + 1 + 1) t cs := fun cs t o1 o2 o4 => by
    have := ((Only.refl [] _).alloc o4).blk (Blk.new ((w.alloc o1).alloc o2) t cs) (by simp)
    simpa using this
  have kY : ∀ cs t o1 o2 o3, Blk ((((w.alloc o1).alloc o2).alloc o3).alloc (.cells cs t)) (w.heap.size + 1 + 1 + 1) t cs := fun cs t o1 o2 o3 => by
    have := Blk.new (((w.alloc o1).alloc o2).alloc o3) t cs
    simpa using this
  have c0 : w.cell? ⟨sb, 0, none⟩ = some (.slice A2 s.all.length cap2) := by rw [← hav]; exact h.blk.cell 0
  have F0 := fun o1 o2 o3 o4 => Within.cell (S := []) (((h0 o1 o2 o3 o4).cell hsb (by simp)).trans c0) (by simp)
  have X0 := fun v a b d f g t o1 o3 o4 => Within.cell (S := []) ((kX #[v, a, b, d, f, g] t o1 o3 o4).cell 0) (by simp)
  subst hpv hev
  obtain ⟨R, hR⟩ : ∃ R, R = s.act c x := ⟨_, rfl⟩
  rw [← hR]
  have HR := Lib.hid hR
  clear hR c0
  rw [show c.val (.slice A1 c.events.length cap1) = .agg #[.int .i64 c.kind, .int .i64 c.time, .string c.stream, .int .i64 c.expected, .slice A1 c.events.length cap1, .int .i64 c.mt.maxCount, .int .i64 c.mt.maxAge, .int .i64 c.mt.before] from rfl,
    show x.val (.slice A x.places.length cap) = .agg #[.slice A x.places.length cap, .int .i64 x.mt.maxCount, .int .i64 x.mt.maxAge, .int .i64 x.mt.before, .int .i64 x.floor, .bool x.deleted] from rfl]
  have hk1 : ((c.kind : Int) == 2) = false := by rw [beq_eq_false_iff_ne]; omega
  have hk2 : ((c.kind : Int) == 3) = false := by rw [beq_eq_false_iff_ne]; omega
  obtain ⟨hel1, hel8⟩ := hel
  obtain ⟨be, offe, rfl, hbe, hce⟩ := hes 0 (by omega)
  have e0 : w.cell? ⟨be, offe, none⟩ = some (.int .i64 (headId c)) := by
    rw [headId_at (by omega)]
    have q := hce 0 (by omega)
    simp only [Nat.zero_mul, Nat.add_zero] at q
    rw [q]
    rfl
  have HFi := Lib.hid (fun (W : World) (hw : Only [] w W) => show Calls Tryz.prog 61 #[.pointer (some ⟨sb, 0, none⟩), .agg #[.slice A x.places.length cap, .int .i64 x.mt.maxCount, .int .i64 x.mt.maxAge, .int .i64 x.mt.before, .int .i64 x.floor, .bool x.deleted], .int .i64 (headId c)] W fun e w' => e = .returned (.int .i64 (s.first x (headId c))) ∧ Only [] W w' from first_any (x := x) (headId c) (h.only0 hw) hx (hp.1.only0 hw))
  have HWr := Lib.hid (fun (W : World) (hw : Only [] w W) => show Calls Tryz.prog 60 #[.agg #[.slice A x.places.length cap, .int .i64 x.mt.maxCount, .int .i64 x.mt.maxAge, .int .i64 x.mt.before, .int .i64 x.floor, .bool x.deleted]] W fun e w' => e = .returned (.agg #[.int .i64 22, .int .i64 ((x.places.length : Int) - 1), .int .i64 0, .bool false]) ∧ Only [] W w' from wrong_any (x := x) (hp.1.only0 hw) (by omega))
  have HE := Lib.hid (fun W => (expected_any c.expected x.places.length W ⟨by omega, by omega⟩))
  have HK := Lib.hid hk
  clear hk
  have hd0 : 0 < c.events.length := by omega
  obtain ⟨id0, hid0⟩ : ∃ i, i = headId c := ⟨_, rfl⟩
  obtain ⟨f, hf⟩ : ∃ f, f = s.first x (headId c) := ⟨_, rfl⟩
  have HF := Lib.hid hf
  rw [← hf, ← hid0] at HFi
  rw [← hid0] at e0
  clear hf hid0
  have HAg := Lib.hid (fun (W : World) (hw : Only [] w W) => show Calls Tryz.prog 62 #[.pointer (some ⟨sb, 0, none⟩), .agg #[.int .i64 c.kind, .int .i64 c.time, .string c.stream, .int .i64 c.expected, .slice (some ⟨be, offe, none⟩) c.events.length cap1, .int .i64 c.mt.maxCount, .int .i64 c.mt.maxAge, .int .i64 c.mt.before], .agg #[.slice A x.places.length cap, .int .i64 x.mt.maxCount, .int .i64 x.mt.maxAge, .int .i64 x.mt.before, .int .i64 x.floor, .bool x.deleted], .int .i64 v] W fun e w' => e = .returned (.agg #[.int .i64 (s.again c x v).err, .int .i64 (s.again c x v).version, .int .i64 (s.again c x v).position, .bool (s.again c x v).again]) ∧ Only [] W w' from again_any (x := x) (c := c) (h.only0 hw) hx (hp.1.only0 hw) (he.1.only0 hw) (by omega) ⟨hel1, hel8⟩ (by omega))
  have hfv : f = v := by rw [HF.out, hv]
  rw [hfv] at HFi
  go_enter Tryz.func23, Tryz.ntmps23
  go_wp2_with fail
  refine wp_region_in [] [0, 1, 2, 3, 4, 5, 6, 7, 8] [9] [10] (by kernel_rfl) (by kernel_rfl) (by intro c d u a w h; cases d <;> exact h) ?_
  show wpQuiet _ _ _ _ [_, _, _, _, _, _, _, _, _] _
  repeat (go_big_quiet_step (fail))
  refine wpQuiet_nil ?_
  show wpList _ _ _ [_] _ _
  go_wp2_with fail
  refine check_of (S := []) (((Only.refl [] _).alloc _).drew) ?_
  show wpList _ _ _ [_] _ _
  clear F0 X0
  go_wp2_with fail
  have k5 : ∀ o1 o2 o3 o4 o5, Only [] w (((((w.alloc o1).alloc o2).alloc o3).alloc o4).alloc o5).drew := fun o1 o2 o3 o4 o5 => ((h0 o1 o2 o3 o4).alloc o5).drew
  have kH : ∀ cs t o1 o2 o3 o4, Blk (((((w.alloc o1).alloc o2).alloc o3).alloc o4).alloc (.cells cs t)).drew (w.heap.size + 1 + 1 + 1 + 1) t cs := fun cs t o1 o2 o3 o4 => by
    have := (Only.refl [] _).drew.blk (Blk.new ((((w.alloc o1).alloc o2).alloc o3).alloc o4) t cs) (by simp <;> omega)
    simpa using this
  have kX : ∀ cs t o1 o3 o4 o5, Blk (((((w.alloc o1).alloc (.cells cs t)).alloc o3).alloc o4).alloc o5).drew (w.heap.size + 1) t cs := fun cs t o1 o3 o4 o5 => ((Only.refl [] _).alloc o5).drew.blk (kX cs t o1 o3 o4) (by simp <;> omega)
  have kA : ∀ cs t o1 o2 o4 o5, Blk (((((w.alloc o1).alloc o2).alloc (.cells cs t)).alloc o4).alloc o5).drew (w.heap.size + 1 + 1) t cs := fun cs t o1 o2 o4 o5 => ((Only.refl [] _).alloc o5).drew.blk (kA cs t o1 o2 o4) (by simp <;> omega)
  have kY : ∀ cs t o1 o2 o3 o5, Blk (((((w.alloc o1).alloc o2).alloc o3).alloc (.cells cs t)).alloc o5).drew (w.heap.size + 1 + 1 + 1) t cs := fun cs t o1 o2 o3 o5 => ((Only.refl [] _).alloc o5).drew.blk (kY cs t o1 o2 o3) (by simp <;> omega)
  have kS : ∀ o1 o2 o3 o4 o5, StAt (((((w.alloc o1).alloc o2).alloc o3).alloc o4).alloc o5).drew M sb mb av pf s := fun o1 o2 o3 o4 o5 => h.only0 (k5 o1 o2 o3 o4 o5)
  have kC : ∀ cs t o2 o3 o4 o5, Blk (((((w.alloc (.cells cs t)).alloc o2).alloc o3).alloc o4).alloc o5).drew w.heap.size t cs := fun cs t o2 o3 o4 o5 => ((Only.refl [] _).alloc o5).drew.blk (kC cs t o2 o3 o4) (by simp)
  go_wp2_with fail
  have X0 := fun v a b d f g o1 o3 o4 o5 => Within.cell (S := []) ((kX #[v, a, b, d, f, g] 75 o1 o3 o4 o5).cell 0) (by simp)
  have X1 := fun v a b d f g o1 o3 o4 o5 => Within.cell (S := []) ((kX #[v, a, b, d, f, g] 75 o1 o3 o4 o5).cell 1) (by simp)
  have X2 := fun v a b d f g o1 o3 o4 o5 => Within.cell (S := []) ((kX #[v, a, b, d, f, g] 75 o1 o3 o4 o5).cell 2) (by simp)
  have X3 := fun v a b d f g o1 o3 o4 o5 => Within.cell (S := []) ((kX #[v, a, b, d, f, g] 75 o1 o3 o4 o5).cell 3) (by simp)
  have X4 := fun v a b d f g o1 o3 o4 o5 => Within.cell (S := []) ((kX #[v, a, b, d, f, g] 75 o1 o3 o4 o5).cell 4) (by simp)
  have X5 := fun v a b d f g o1 o3 o4 o5 => Within.cell (S := []) ((kX #[v, a, b, d, f, g] 75 o1 o3 o4 o5).cell 5) (by simp)
  have C4 := fun a b d e f g i j k o2 o3 o4 o5 => Within.cell (S := []) ((kC #[a, b, d, e, f, g, i, j, k] 40 o2 o3 o4 o5).cell 4) (by simp)
  have C4' := fun a b d e f g i j o2 o3 o4 o5 => Within.cell (S := []) ((kC #[a, b, d, e, f, g, i, j] 40 o2 o3 o4 o5).cell 4) (by simp)
  have E0 := fun o1 o2 o3 o4 o5 => Within.cell (S := []) (((k5 o1 o2 o3 o4 o5).cell hbe (by simp)).trans e0) (by simp)
  refine wp_region_in [] [0, 1, 2, 3, 4, 5, 6] [] [7, 8] (by kernel_rfl) (by kernel_rfl) (by intro c d u a w h; cases d <;> exact h) ?_
  show wpQuiet _ _ _ _ [_, _, _, _, _, _, _] _
  repeat (go_big_quiet_step (fail))
  refine wpQuiet_nil ?_
  show wpList _ _ _ [_, _] _ _
  clear X0 X1 X2 X3 X4 X5 C4 C4' E0
  go_wp2_with (go_at_call 61; refine (HFi.out _ (k5 _ _ _ _ _).drew).mono ?_; rintro e w1 ⟨rfl, ho1⟩)
  have hO1 : Only [] w w1 := (k5 _ _ _ _ _).drew.trans ho1
  have lC := ho1.blk ((Only.refl [] _).drew.blk (kC _ _ _ _ _ _) (by simp)) (by simp)
  have lX := ho1.blk ((Only.refl [] _).drew.blk (kX _ _ _ _ _ _) (by simp)) (by simp)
  have lA := ho1.blk ((Only.refl [] _).drew.blk (kA _ _ _ _ _ _) (by simp)) (by simp)
  have lY := ho1.blk ((Only.refl [] _).drew.blk (kY _ _ _ _ _ _) (by simp)) (by simp)
  have C0 := Within.cell (S := [w.heap.size + 1 + 1]) (lC.cell 0) (by simp <;> omega)
  have C1 := Within.cell (S := [w.heap.size + 1 + 1]) (lC.cell 1) (by simp <;> omega)
  have C2 := Within.cell (S := [w.heap.size + 1 + 1]) (lC.cell 2) (by simp <;> omega)
  have C3 := Within.cell (S := [w.heap.size + 1 + 1]) (lC.cell 3) (by simp <;> omega)
  have C4 := Within.cell (S := [w.heap.size + 1 + 1]) (lC.cell 4) (by simp <;> omega)
  have C5 := Within.cell (S := [w.heap.size + 1 + 1]) (lC.cell 5) (by simp <;> omega)
  have C6 := Within.cell (S := [w.heap.size + 1 + 1]) (lC.cell 6) (by simp <;> omega)
  have C7 := Within.cell (S := [w.heap.size + 1 + 1]) (lC.cell 7) (by simp <;> omega)
  have X0 := Within.cell (S := [w.heap.size + 1 + 1]) (lX.cell 0) (by simp <;> omega)
  have X1 := Within.cell (S := [w.heap.size + 1 + 1]) (lX.cell 1) (by simp <;> omega)
  have X2 := Within.cell (S := [w.heap.size + 1 + 1]) (lX.cell 2) (by simp <;> omega)
  have X3 := Within.cell (S := [w.heap.size + 1 + 1]) (lX.cell 3) (by simp <;> omega)
  have X4 := Within.cell (S := [w.heap.size + 1 + 1]) (lX.cell 4) (by simp <;> omega)
  have X5 := Within.cell (S := [w.heap.size + 1 + 1]) (lX.cell 5) (by simp <;> omega)
  obtain ⟨an, han⟩ : ∃ an, an = s.again c x v := ⟨_, rfl⟩
  rw [← han] at HAg
  have HAN := Lib.hid han
  clear han
  refine wp_region_in [w.heap.size + 1 + 1] [0, 1, 2, 3, 5] [4, 6] [7] (by kernel_rfl) (by kernel_rfl) (by intro c d u a w h; cases d <;> exact h) ?_
  show wpQuiet _ _ _ _ [_, _, _, _, _] _
  repeat (go_big_quiet_step (fail))
  refine wpQuiet_nil ?_
  show wpList _ _ _ [_] _ _
  go_wp2_with (go_at_call 62; refine (HAg.out _ hO1.drew).mono ?_; rintro e w2 ⟨rfl, ho2⟩)
  refine check_of (S := [w.heap.size + 1 + 1]) (((Only.refl [] _).drew.trans ho2).of_nil) ?_
  show wpList _ _ _ [_] _ _
  have ho2' := (Only.refl [] w1).drew.trans ho2
  have hA1 := fun i => (ho2'.blk lA (by simp)).cell i
  have hA1f := fun i => (ho2'.blk lA (by simp)).free i
  have hY1 := fun i => (ho2'.blk lY (by simp)).cell i
  have hY1f := fun i => (ho2'.blk lY (by simp)).free i
  go_wp2_with fail
  refine check_of (S := [w.heap.size + 1 + 1]) (by repeat (first | exact ((Only.refl [] _).drew.trans ho2).of_nil | refine Only.drew ?_ | refine Only.setCell ?_ (.inl (by simp)) _)) ?_
  show wpList _ _ _ [_] _ _
  go_wp2
  have hR := HR.out
  subst hR
  clear HR C0 C1 C2 C3 C4 C5 C6 C7 X0 X1 X2 X3 X4 X5
  refine bodyPost_ret (v := .tuple #[.agg #[.int .i64 an.err, .int .i64 an.version, .int .i64 an.position, .bool an.again], .agg #[.slice A x.places.length cap, .int .i64 x.mt.maxCount, .int .i64 x.mt.maxAge, .int .i64 x.mt.before, .int .i64 x.floor, .bool x.deleted]]) (by simp [results, Tryz.results23, go_sem, hA1, hY1]) rfl ⟨.slice A x.places.length cap, ?_⟩
  have hE : s.act c x = (an, x, s) := by
    have h1 := HK.out
    have h2 := HF.out
    unfold MS.act
    rw [if_neg h1.1, if_neg h1.2]
    show (if 0 ≤ s.first x (headId c) then (s.again c x (s.first x (headId c)), x, s) else _) = _
    rw [hv, if_pos (by omega), HAN.out]
  rw [hE]
  refine ⟨rfl, ActLeads.same h hp ?hw⟩
  case hw =>
    iterate 10 (refine Only.setCell ?_ (.inr (by simp <;> omega)) _)
    exact hO1.drew.trans ho2
set_option maxRecDepth 100000 in
set_option maxHeartbeats 4000000 in
theorem act_late {w : World} {M : List Nat} {sb mb : Nat} {av pv ev : Value} {pf : ByteArray → Value} {s : MS} {x : StreamR} {c : Cmd} (h : StAt w M sb mb av pf s) (hx : XOk s x) (hp : Rd M w 1 pv x.places.length (ints x.places))
    (he : Rd M w 4 ev c.events.length (c.events.flatMap EventR.cells)) (hl : s.all.length ≤ 1000000) (hk : c.kind ≠ 2 ∧ c.kind ≠ 3) (hel : 1 ≤ c.events.length ∧ c.events.length ≤ 8) (hv : s.first x (headId c) = -1) (hexp : expected c.expected x.places.length = false) :
    Calls Tryz.prog 23 #[.pointer (some ⟨sb, 0, none⟩), c.val ev, x.val pv] w fun e w' => ∃ pv', e = .returned (.tuple #[(s.act c x).1.val, (s.act c x).2.1.val pv']) ∧ ActLeads w M sb mb av pf (s.act c x).2.1 (s.act c x).2.2 pv' w' := by
  obtain ⟨A, cap, hpv, hn1, hn2, hps⟩ := hp.1.openI
  obtain ⟨A1, cap1, hev, hn3, hn4, hes⟩ := he.1.openE EventR.cells (fun _ => rfl)
  obtain ⟨A2, cap2, hav, hnc2, hcm2, hel2⟩ := h.cell
  unfold maxLen at hn2 hn4 hcm2
  have hfew := hx.few
  have hsb := h.blk.lt
  have h0 : ∀ o1 o2 o3 o4, Only [] w ((((w.alloc o1).alloc o2).alloc o3).alloc o4) := fun o1 o2 o3 o4 => ((((Only.refl [] w).alloc _).alloc _).alloc _).alloc _
  have kC : ∀ cs t o2 o3 o4, Blk ((((w.alloc (.cells cs t)).alloc o2).alloc o3).alloc o4) w.heap.size t cs := fun cs t o2 o3 o4 => ((((Only.refl [] _).alloc o2).alloc o3).alloc o4).blk (Blk.new w t cs) (by simp)
  have kX : ∀ cs t o1 o3 o4, Blk ((((w.alloc o1).alloc (.cells cs t)).alloc o3).alloc o4) (w.heap.size + 1) t cs := fun cs t o1 o3 o4 => by
    have := (((Only.refl [] _).alloc o3).alloc o4).blk (Blk.new (w.alloc o1) t cs) (by simp)
    simpa using this
  have kA : ∀ cs t o1 o2 o4, Blk ((((w.alloc o1).alloc o2).alloc (.cells cs t)).alloc o4) (w.heap.size + 1 + 1) t cs := fun cs t o1 o2 o4 => by
    have := ((Only.refl [] _).alloc o4).blk (Blk.new ((w.alloc o1).alloc o2) t cs) (by simp)
    simpa using this
  have kY : ∀ cs t o1 o2 o3, Blk ((((w.alloc o1).alloc o2).alloc o3).alloc (.cells cs t)) (w.heap.size + 1 + 1 + 1) t cs := fun cs t o1 o2 o3 => by
    have := Blk.new (((w.alloc o1).alloc o2).alloc o3) t cs
    simpa using this
  have c0 : w.cell? ⟨sb, 0, none⟩ = some (.slice A2 s.all.length cap2) := by rw [← hav]; exact h.blk.cell 0
  have F0 := fun o1 o2 o3 o4 => Within.cell (S := []) (((h0 o1 o2 o3 o4).cell hsb (by simp)).trans c0) (by simp)
  have X0 := fun v a b d f g t o1 o3 o4 => Within.cell (S := []) ((kX #[v, a, b, d, f, g] t o1 o3 o4).cell 0) (by simp)
  subst hpv hev
  obtain ⟨R, hR⟩ : ∃ R, R = s.act c x := ⟨_, rfl⟩
  rw [← hR]
  have HR := Lib.hid hR
  clear hR c0
  rw [show c.val (.slice A1 c.events.length cap1) = .agg #[.int .i64 c.kind, .int .i64 c.time, .string c.stream, .int .i64 c.expected, .slice A1 c.events.length cap1, .int .i64 c.mt.maxCount, .int .i64 c.mt.maxAge, .int .i64 c.mt.before] from rfl,
    show x.val (.slice A x.places.length cap) = .agg #[.slice A x.places.length cap, .int .i64 x.mt.maxCount, .int .i64 x.mt.maxAge, .int .i64 x.mt.before, .int .i64 x.floor, .bool x.deleted] from rfl]
  have hk1 : ((c.kind : Int) == 2) = false := by rw [beq_eq_false_iff_ne]; omega
  have hk2 : ((c.kind : Int) == 3) = false := by rw [beq_eq_false_iff_ne]; omega
  obtain ⟨hel1, hel8⟩ := hel
  obtain ⟨be, offe, rfl, hbe, hce⟩ := hes 0 (by omega)
  have e0 : w.cell? ⟨be, offe, none⟩ = some (.int .i64 (headId c)) := by
    rw [headId_at (by omega)]
    have q := hce 0 (by omega)
    simp only [Nat.zero_mul, Nat.add_zero] at q
    rw [q]
    rfl
  have HFi := Lib.hid (fun (W : World) (hw : Only [] w W) => show Calls Tryz.prog 61 #[.pointer (some ⟨sb, 0, none⟩), .agg #[.slice A x.places.length cap, .int .i64 x.mt.maxCount, .int .i64 x.mt.maxAge, .int .i64 x.mt.before, .int .i64 x.floor, .bool x.deleted], .int .i64 (headId c)] W fun e w' => e = .returned (.int .i64 (s.first x (headId c))) ∧ Only [] W w' from first_any (x := x) (headId c) (h.only0 hw) hx (hp.1.only0 hw))
  have HWr := Lib.hid (fun (W : World) (hw : Only [] w W) => show Calls Tryz.prog 60 #[.agg #[.slice A x.places.length cap, .int .i64 x.mt.maxCount, .int .i64 x.mt.maxAge, .int .i64 x.mt.before, .int .i64 x.floor, .bool x.deleted]] W fun e w' => e = .returned (.agg #[.int .i64 22, .int .i64 ((x.places.length : Int) - 1), .int .i64 0, .bool false]) ∧ Only [] W w' from wrong_any (x := x) (hp.1.only0 hw) (by omega))
  have HE := Lib.hid (fun W => (expected_any c.expected x.places.length W ⟨by omega, by omega⟩))
  have HK := Lib.hid hk
  clear hk
  have hd0 : 0 < c.events.length := by omega
  obtain ⟨id0, hid0⟩ : ∃ i, i = headId c := ⟨_, rfl⟩
  obtain ⟨f, hf⟩ : ∃ f, f = s.first x (headId c) := ⟨_, rfl⟩
  have HF := Lib.hid hf
  rw [← hf, ← hid0] at HFi
  rw [← hid0] at e0
  clear hf hid0
  have hfv : f = -1 := by rw [HF.out, hv]
  rw [hfv] at HFi
  rw [hexp] at HE
  have HX := Lib.hid hexp
  clear hexp
  go_enter Tryz.func23, Tryz.ntmps23
  go_wp2_with fail
  refine wp_region_in [] [0, 1, 2, 3, 4, 5, 6, 7, 8] [9] [10] (by kernel_rfl) (by kernel_rfl) (by intro c d u a w h; cases d <;> exact h) ?_
  show wpQuiet _ _ _ _ [_, _, _, _, _, _, _, _, _] _
  repeat (go_big_quiet_step (fail))
  refine wpQuiet_nil ?_
  show wpList _ _ _ [_] _ _
  go_wp2_with fail
  refine check_of (S := []) (((Only.refl [] _).alloc _).drew) ?_
  show wpList _ _ _ [_] _ _
  clear F0 X0
  go_wp2_with fail
  have k5 : ∀ o1 o2 o3 o4 o5, Only [] w (((((w.alloc o1).alloc o2).alloc o3).alloc o4).alloc o5).drew := fun o1 o2 o3 o4 o5 => ((h0 o1 o2 o3 o4).alloc o5).drew
  have kH : ∀ cs t o1 o2 o3 o4, Blk (((((w.alloc o1).alloc o2).alloc o3).alloc o4).alloc (.cells cs t)).drew (w.heap.size + 1 + 1 + 1 + 1) t cs := fun cs t o1 o2 o3 o4 => by
    have := (Only.refl [] _).drew.blk (Blk.new ((((w.alloc o1).alloc o2).alloc o3).alloc o4) t cs) (by simp <;> omega)
    simpa using this
  have kX : ∀ cs t o1 o3 o4 o5, Blk (((((w.alloc o1).alloc (.cells cs t)).alloc o3).alloc o4).alloc o5).drew (w.heap.size + 1) t cs := fun cs t o1 o3 o4 o5 => ((Only.refl [] _).alloc o5).drew.blk (kX cs t o1 o3 o4) (by simp <;> omega)
  have kA : ∀ cs t o1 o2 o4 o5, Blk (((((w.alloc o1).alloc o2).alloc (.cells cs t)).alloc o4).alloc o5).drew (w.heap.size + 1 + 1) t cs := fun cs t o1 o2 o4 o5 => ((Only.refl [] _).alloc o5).drew.blk (kA cs t o1 o2 o4) (by simp <;> omega)
  have kY : ∀ cs t o1 o2 o3 o5, Blk (((((w.alloc o1).alloc o2).alloc o3).alloc (.cells cs t)).alloc o5).drew (w.heap.size + 1 + 1 + 1) t cs := fun cs t o1 o2 o3 o5 => ((Only.refl [] _).alloc o5).drew.blk (kY cs t o1 o2 o3) (by simp <;> omega)
  have kS : ∀ o1 o2 o3 o4 o5, StAt (((((w.alloc o1).alloc o2).alloc o3).alloc o4).alloc o5).drew M sb mb av pf s := fun o1 o2 o3 o4 o5 => h.only0 (k5 o1 o2 o3 o4 o5)
  have kC : ∀ cs t o2 o3 o4 o5, Blk (((((w.alloc (.cells cs t)).alloc o2).alloc o3).alloc o4).alloc o5).drew w.heap.size t cs := fun cs t o2 o3 o4 o5 => ((Only.refl [] _).alloc o5).drew.blk (kC cs t o2 o3 o4) (by simp)
  go_wp2_with fail
  have X0 := fun v a b d f g o1 o3 o4 o5 => Within.cell (S := []) ((kX #[v, a, b, d, f, g] 75 o1 o3 o4 o5).cell 0) (by simp)
  have X1 := fun v a b d f g o1 o3 o4 o5 => Within.cell (S := []) ((kX #[v, a, b, d, f, g] 75 o1 o3 o4 o5).cell 1) (by simp)
  have X2 := fun v a b d f g o1 o3 o4 o5 => Within.cell (S := []) ((kX #[v, a, b, d, f, g] 75 o1 o3 o4 o5).cell 2) (by simp)
  have X3 := fun v a b d f g o1 o3 o4 o5 => Within.cell (S := []) ((kX #[v, a, b, d, f, g] 75 o1 o3 o4 o5).cell 3) (by simp)
  have X4 := fun v a b d f g o1 o3 o4 o5 => Within.cell (S := []) ((kX #[v, a, b, d, f, g] 75 o1 o3 o4 o5).cell 4) (by simp)
  have X5 := fun v a b d f g o1 o3 o4 o5 => Within.cell (S := []) ((kX #[v, a, b, d, f, g] 75 o1 o3 o4 o5).cell 5) (by simp)
  have C4 := fun a b d e f g i j k o2 o3 o4 o5 => Within.cell (S := []) ((kC #[a, b, d, e, f, g, i, j, k] 40 o2 o3 o4 o5).cell 4) (by simp)
  have C4' := fun a b d e f g i j o2 o3 o4 o5 => Within.cell (S := []) ((kC #[a, b, d, e, f, g, i, j] 40 o2 o3 o4 o5).cell 4) (by simp)
  have E0 := fun o1 o2 o3 o4 o5 => Within.cell (S := []) (((k5 o1 o2 o3 o4 o5).cell hbe (by simp)).trans e0) (by simp)
  refine wp_region_in [] [0, 1, 2, 3, 4, 5, 6] [] [7, 8] (by kernel_rfl) (by kernel_rfl) (by intro c d u a w h; cases d <;> exact h) ?_
  show wpQuiet _ _ _ _ [_, _, _, _, _, _, _] _
  repeat (go_big_quiet_step (fail))
  refine wpQuiet_nil ?_
  show wpList _ _ _ [_, _] _ _
  clear X0 X1 X2 X3 X4 X5 C4 C4' E0
  go_wp2_with (first
    | (go_at_call 61; refine (HFi.out _ (k5 _ _ _ _ _).drew).mono ?_; rintro e w1 ⟨rfl, ho1⟩; have rC := fun i => (ho1.blk ((Only.refl [] _).drew.blk (kC _ _ _ _ _ _) (by simp)) (by simp)).cell i; have rX := fun i => (ho1.blk ((Only.refl [] _).drew.blk (kX _ _ _ _ _ _) (by simp)) (by simp)).cell i)
    | (go_at_call 59; refine (HE.out _).mono ?_; rintro e w2 ⟨rfl, hWE⟩; subst hWE))
  have hO1 : Only [] w w1 := (k5 _ _ _ _ _).drew.trans ho1
  have lC := ho1.blk ((Only.refl [] _).drew.blk (kC _ _ _ _ _ _) (by simp)) (by simp)
  have lX := ho1.blk ((Only.refl [] _).drew.blk (kX _ _ _ _ _ _) (by simp)) (by simp)
  have lA := ho1.blk ((Only.refl [] _).drew.blk (kA _ _ _ _ _ _) (by simp)) (by simp)
  have lY := ho1.blk ((Only.refl [] _).drew.blk (kY _ _ _ _ _ _) (by simp)) (by simp)
  have C0 := Within.cell (S := [w.heap.size + 1 + 1]) (lC.cell 0) (by simp <;> omega)
  have C1 := Within.cell (S := [w.heap.size + 1 + 1]) (lC.cell 1) (by simp <;> omega)
  have C2 := Within.cell (S := [w.heap.size + 1 + 1]) (lC.cell 2) (by simp <;> omega)
  have C3 := Within.cell (S := [w.heap.size + 1 + 1]) (lC.cell 3) (by simp <;> omega)
  have C4 := Within.cell (S := [w.heap.size + 1 + 1]) (lC.cell 4) (by simp <;> omega)
  have C5 := Within.cell (S := [w.heap.size + 1 + 1]) (lC.cell 5) (by simp <;> omega)
  have C6 := Within.cell (S := [w.heap.size + 1 + 1]) (lC.cell 6) (by simp <;> omega)
  have C7 := Within.cell (S := [w.heap.size + 1 + 1]) (lC.cell 7) (by simp <;> omega)
  have X0 := Within.cell (S := [w.heap.size + 1 + 1]) (lX.cell 0) (by simp <;> omega)
  have X1 := Within.cell (S := [w.heap.size + 1 + 1]) (lX.cell 1) (by simp <;> omega)
  have X2 := Within.cell (S := [w.heap.size + 1 + 1]) (lX.cell 2) (by simp <;> omega)
  have X3 := Within.cell (S := [w.heap.size + 1 + 1]) (lX.cell 3) (by simp <;> omega)
  have X4 := Within.cell (S := [w.heap.size + 1 + 1]) (lX.cell 4) (by simp <;> omega)
  have X5 := Within.cell (S := [w.heap.size + 1 + 1]) (lX.cell 5) (by simp <;> omega)
  clear rC rX
  refine wp_region_in [w.heap.size + 1 + 1] [0, 2] [1, 3] [4] (by kernel_rfl) (by kernel_rfl) (by intro c d u a w h; cases d <;> exact h) ?_
  show wpQuiet _ _ _ _ [_, _] _
  repeat (go_big_quiet_step (fail))
  refine wpQuiet_nil ?_
  show wpList _ _ _ [_] _ _
  go_wp2_with (go_at_call 60; refine (HWr.out _ hO1.drew).mono ?_; rintro e w2 ⟨rfl, ho2⟩)
  refine check_of (S := [w.heap.size + 1 + 1]) (((Only.refl [] _).drew.trans ho2).of_nil) ?_
  show wpList _ _ _ [_] _ _
  have ho2' := (Only.refl [] w1).drew.trans ho2
  have hA1 := fun i => (ho2'.blk lA (by simp)).cell i
  have hA1f := fun i => (ho2'.blk lA (by simp)).free i
  have hY1 := fun i => (ho2'.blk lY (by simp)).cell i
  have hY1f := fun i => (ho2'.blk lY (by simp)).free i
  go_wp2_with fail
  refine check_of (S := [w.heap.size + 1 + 1]) (by repeat (first | exact ((Only.refl [] _).drew.trans ho2).of_nil | refine Only.drew ?_ | refine Only.setCell ?_ (.inl (by simp)) _)) ?_
  show wpList _ _ _ [_] _ _
  go_wp2
  have hR := HR.out
  subst hR
  clear HR C0 C1 C2 C3 C4 C5 C6 C7 X0 X1 X2 X3 X4 X5
  refine bodyPost_ret (v := .tuple #[.agg #[.int .i64 22, .int .i64 ((x.places.length : Int) - 1), .int .i64 0, .bool false], .agg #[.slice A x.places.length cap, .int .i64 x.mt.maxCount, .int .i64 x.mt.maxAge, .int .i64 x.mt.before, .int .i64 x.floor, .bool x.deleted]]) (by simp [results, Tryz.results23, go_sem, hA1, hY1]) rfl ⟨.slice A x.places.length cap, ?_⟩
  have hE : s.act c x = (wrong x, x, s) := by
    have h1 := HK.out
    unfold MS.act
    rw [if_neg h1.1, if_neg h1.2]
    show (if 0 ≤ s.first x (headId c) then (s.again c x (s.first x (headId c)), x, s) else _) = _
    rw [hv, if_neg (by omega), HX.out, if_neg (by decide)]
  rw [hE]
  refine ⟨rfl, ActLeads.same h hp ?hw⟩
  case hw =>
    iterate 10 (refine Only.setCell ?_ (.inr (by simp <;> omega)) _)
    exact hO1.drew.trans ho2
theorem ActLeads.of_app {w w1 w2 w3 : World} {M S : List Nat} {sb mb : Nat} {av avr pv' : Value} {pf : ByteArray → Value} {s s' : MS} {y : StreamR} (h : StAt w M sb mb av pf s) (hO1 : Only [] w w1) (hst : StAt w2 (avr.ownBlock.toList ++ M) sb mb avr pf s')
    (hrd : Rd (avr.ownBlock.toList ++ M) w2 1 pv' y.places.length (ints y.places)) (ho2 : Only (hM sb mb av) w1 w2) (hav : ∀ g, avr.ownBlock = some g → av.ownBlock = some g ∨ w1.heap.size ≤ g) (hpv : ∀ g, pv'.ownBlock = some g → w1.heap.size ≤ g)
    (hO3 : Only S w2 w3) (hS : ∀ g ∈ S, w.heap.size ≤ g ∧ g < w1.heap.size) (hm : s'.m = s.m) : ActLeads w M sb mb av pf y s' pv' w3 := by
  have hw3 : Only (hM sb mb av) w w3 := (hO1.of_nil.trans ho2).step hO3 (fun i hi => .inr (hS i hi).1)
  have hnS : ∀ g, g < w.heap.size → g ∉ S := fun g hg q => by have := (hS g q).1; omega
  have hnS' : ∀ g, w1.heap.size ≤ g → g ∉ S := fun g hg q => by have := (hS g q).2; omega
  have hs1 := hO1.size
  have hnew : ∀ g ∈ avr.ownBlock.toList ++ M, g ∈ M ∨ w.heap.size ≤ g := fun g hg => by
    rcases List.mem_append.1 hg with q | q
    · rcases hav g (by simpa using q) with r | r
      · exact .inl (h.inM.2.2 g r)
      · exact .inr (by omega)
    · exact .inl q
  refine ⟨avr.ownBlock.toList ++ M, avr, ⟨hO3.blk hst.blk (hnS _ h.blk.lt), own_only hst.own hO3 fun g hg => ?_, hst.map.only hO3 (hnS _ h.map.lt), fun n x hx => ?_, hst.inM, fun g hg => Nat.lt_of_lt_of_le (hst.mlt g hg) hO3.size⟩, ⟨hrd.1.only hO3 fun g hg => hnS' g (hpv g hg), fun g hg => (hrd.2 g hg).imp (fun q => ⟨q.1, Nat.lt_of_lt_of_le q.2 hO3.size⟩) id⟩, hw3, fun g hg => List.mem_append_right _ hg, hnew, fun g hg => (hav g hg).imp id (fun q => by omega)⟩
  · rcases hav g hg with q | q
    · exact hnS g (h.own_lt g q)
    · exact hnS' g q
  · rw [hm] at hx
    exact ((h.pl n x hx).ext hnew).only hw3 (fun g hg => List.mem_append_right _ (h.hMM g hg))
theorem append_lit {q : Ans × StreamR × MS} {w : World} {M : List Nat} {sb mb : Nat} {av pv ev : Value} {pf : ByteArray → Value} {s : MS} {x : StreamR} {c : Cmd} (hq : q = s.append c x) (h : StAt w M sb mb av pf s) (hx : XOk s x) (hp : Rd M w 1 pv x.places.length (ints x.places))
    (he : Rd M w 4 ev c.events.length (c.events.flatMap EventR.cells)) (hl : s.all.length ≤ 1000000) (hel : 1 ≤ c.events.length ∧ c.events.length ≤ 8) (hn : 0 ≤ s.now ∧ s.now ≤ 1099511627776) :
    Calls Tryz.prog 63 #[.pointer (some ⟨sb, 0, none⟩), c.val ev, x.val pv] w fun e w' => ∃ Aq capq avr, e = .returned (.tuple #[.agg #[.int .i64 q.1.err, .int .i64 q.1.version, .int .i64 q.1.position, .bool q.1.again], .agg #[.slice Aq q.2.1.places.length capq, .int .i64 q.2.1.mt.maxCount, .int .i64 q.2.1.mt.maxAge, .int .i64 q.2.1.mt.before, .int .i64 q.2.1.floor, .bool q.2.1.deleted]]) ∧
      StAt w' (avr.ownBlock.toList ++ M) sb mb avr pf q.2.2 ∧ Rd (avr.ownBlock.toList ++ M) w' 1 (.slice Aq q.2.1.places.length capq) q.2.1.places.length (ints q.2.1.places) ∧ Only (hM sb mb av) w w' ∧ (∀ g, avr.ownBlock = some g → av.ownBlock = some g ∨ w.heap.size ≤ g) ∧ (∀ g, (Value.slice Aq q.2.1.places.length capq).ownBlock = some g → w.heap.size ≤ g) := by
  subst hq
  refine (append_any h hx hp he hl hel hn).mono ?_
  rintro e w' ⟨pv', avr, rfl, h1, h2, h3, h4, h5⟩
  obtain ⟨A, cap, rfl, _⟩ := h2.1.openI
  exact ⟨A, cap, avr, rfl, h1, h2, h3, h4, h5⟩
set_option maxRecDepth 100000 in
set_option maxHeartbeats 4000000 in
theorem act_append {w : World} {M : List Nat} {sb mb : Nat} {av pv ev : Value} {pf : ByteArray → Value} {s : MS} {x : StreamR} {c : Cmd} (h : StAt w M sb mb av pf s) (hx : XOk s x) (hp : Rd M w 1 pv x.places.length (ints x.places))
    (he : Rd M w 4 ev c.events.length (c.events.flatMap EventR.cells)) (hl : s.all.length ≤ 1000000) (hk : c.kind ≠ 2 ∧ c.kind ≠ 3) (hel : 1 ≤ c.events.length ∧ c.events.length ≤ 8) (hn : 0 ≤ s.now ∧ s.now ≤ 1099511627776) (hv : s.first x (headId c) = -1) (hexp : expected c.expected x.places.length = true) :
    Calls Tryz.prog 23 #[.pointer (some ⟨sb, 0, none⟩), c.val ev, x.val pv] w fun e w' => ∃ pv', e = .returned (.tuple #[(s.act c x).1.val, (s.act c x).2.1.val pv']) ∧ ActLeads w M sb mb av pf (s.act c x).2.1 (s.act c x).2.2 pv' w' := by
  obtain ⟨A, cap, hpv, hn1, hn2, hps⟩ := hp.1.openI
  obtain ⟨A1, cap1, hev, hn3, hn4, hes⟩ := he.1.openE EventR.cells (fun _ => rfl)
  obtain ⟨A2, cap2, hav, hnc2, hcm2, hel2⟩ := h.cell
  unfold maxLen at hn2 hn4 hcm2
  have hfew := hx.few
  have hsb := h.blk.lt
  have h0 : ∀ o1 o2 o3 o4, Only [] w ((((w.alloc o1).alloc o2).alloc o3).alloc o4) := fun o1 o2 o3 o4 => ((((Only.refl [] w).alloc _).alloc _).alloc _).alloc _
  have kC : ∀ cs t o2 o3 o4, Blk ((((w.alloc (.cells cs t)).alloc o2).alloc o3).alloc o4) w.heap.size t cs := fun cs t o2 o3 o4 => ((((Only.refl [] _).alloc o2).alloc o3).alloc o4).blk (Blk.new w t cs) (by simp)
  have kX : ∀ cs t o1 o3 o4, Blk ((((w.alloc o1).alloc (.cells cs t)).alloc o3).alloc o4) (w.heap.size + 1) t cs := fun cs t o1 o3 o4 => by
    have := (((Only.refl [] _).alloc o3).alloc o4).blk (Blk.new (w.alloc o1) t cs) (by simp)
    simpa using this
  have kA : ∀ cs t o1 o2 o4, Blk ((((w.alloc o1).alloc o2).alloc (.cells cs t)).alloc o4) (w.heap.size + 1 + 1) t cs := fun cs t o1 o2 o4 => by
    have := ((Only.refl [] _).alloc o4).blk (Blk.new ((w.alloc o1).alloc o2) t cs) (by simp)
    simpa using this
  have kY : ∀ cs t o1 o2 o3, Blk ((((w.alloc o1).alloc o2).alloc o3).alloc (.cells cs t)) (w.heap.size + 1 + 1 + 1) t cs := fun cs t o1 o2 o3 => by
    have := Blk.new (((w.alloc o1).alloc o2).alloc o3) t cs
    simpa using this
  have c0 : w.cell? ⟨sb, 0, none⟩ = some (.slice A2 s.all.length cap2) := by rw [← hav]; exact h.blk.cell 0
  have F0 := fun o1 o2 o3 o4 => Within.cell (S := []) (((h0 o1 o2 o3 o4).cell hsb (by simp)).trans c0) (by simp)
  have X0 := fun v a b d f g t o1 o3 o4 => Within.cell (S := []) ((kX #[v, a, b, d, f, g] t o1 o3 o4).cell 0) (by simp)
  subst hpv hev
  obtain ⟨R, hR⟩ : ∃ R, R = s.act c x := ⟨_, rfl⟩
  rw [← hR]
  have HR := Lib.hid hR
  clear hR c0
  rw [show c.val (.slice A1 c.events.length cap1) = .agg #[.int .i64 c.kind, .int .i64 c.time, .string c.stream, .int .i64 c.expected, .slice A1 c.events.length cap1, .int .i64 c.mt.maxCount, .int .i64 c.mt.maxAge, .int .i64 c.mt.before] from rfl,
    show x.val (.slice A x.places.length cap) = .agg #[.slice A x.places.length cap, .int .i64 x.mt.maxCount, .int .i64 x.mt.maxAge, .int .i64 x.mt.before, .int .i64 x.floor, .bool x.deleted] from rfl]
  have hk1 : ((c.kind : Int) == 2) = false := by rw [beq_eq_false_iff_ne]; omega
  have hk2 : ((c.kind : Int) == 3) = false := by rw [beq_eq_false_iff_ne]; omega
  obtain ⟨hel1, hel8⟩ := hel
  obtain ⟨be, offe, rfl, hbe, hce⟩ := hes 0 (by omega)
  have e0 : w.cell? ⟨be, offe, none⟩ = some (.int .i64 (headId c)) := by
    rw [headId_at (by omega)]
    have q := hce 0 (by omega)
    simp only [Nat.zero_mul, Nat.add_zero] at q
    rw [q]
    rfl
  have HFi := Lib.hid (fun (W : World) (hw : Only [] w W) => show Calls Tryz.prog 61 #[.pointer (some ⟨sb, 0, none⟩), .agg #[.slice A x.places.length cap, .int .i64 x.mt.maxCount, .int .i64 x.mt.maxAge, .int .i64 x.mt.before, .int .i64 x.floor, .bool x.deleted], .int .i64 (headId c)] W fun e w' => e = .returned (.int .i64 (s.first x (headId c))) ∧ Only [] W w' from first_any (x := x) (headId c) (h.only0 hw) hx (hp.1.only0 hw))
  have HWr := Lib.hid (fun (W : World) (hw : Only [] w W) => show Calls Tryz.prog 60 #[.agg #[.slice A x.places.length cap, .int .i64 x.mt.maxCount, .int .i64 x.mt.maxAge, .int .i64 x.mt.before, .int .i64 x.floor, .bool x.deleted]] W fun e w' => e = .returned (.agg #[.int .i64 22, .int .i64 ((x.places.length : Int) - 1), .int .i64 0, .bool false]) ∧ Only [] W w' from wrong_any (x := x) (hp.1.only0 hw) (by omega))
  have HE := Lib.hid (fun W => (expected_any c.expected x.places.length W ⟨by omega, by omega⟩))
  have HK := Lib.hid hk
  clear hk
  have hd0 : 0 < c.events.length := by omega
  obtain ⟨id0, hid0⟩ : ∃ i, i = headId c := ⟨_, rfl⟩
  obtain ⟨f, hf⟩ : ∃ f, f = s.first x (headId c) := ⟨_, rfl⟩
  have HF := Lib.hid hf
  rw [← hf, ← hid0] at HFi
  rw [← hid0] at e0
  clear hf hid0
  have hfv : f = -1 := by rw [HF.out, hv]
  rw [hfv] at HFi
  rw [hexp] at HE
  have HX := Lib.hid hexp
  clear hexp
  obtain ⟨q, hq⟩ : ∃ q, q = s.append c x := ⟨_, rfl⟩
  have HAp := Lib.hid (fun (W : World) (hw : Only [] w W) => (append_lit hq (x := x) (c := c) (ev := .slice (some ⟨be, offe, none⟩) c.events.length cap1) (pv := .slice A x.places.length cap) (h.only0 hw) hx (hp.only0 hw) (he.only0 hw) (by omega) ⟨hel1, hel8⟩ hn : Calls Tryz.prog 63 #[.pointer (some ⟨sb, 0, none⟩), .agg #[.int .i64 c.kind, .int .i64 c.time, .string c.stream, .int .i64 c.expected, .slice (some ⟨be, offe, none⟩) c.events.length cap1, .int .i64 c.mt.maxCount, .int .i64 c.mt.maxAge, .int .i64 c.mt.before], .agg #[.slice A x.places.length cap, .int .i64 x.mt.maxCount, .int .i64 x.mt.maxAge, .int .i64 x.mt.before, .int .i64 x.floor, .bool x.deleted]] W _))
  have hML : ∀ g ∈ hM sb mb av, g < w.heap.size := h.lt
  have hMn : ∀ g, w.heap.size ≤ g → g ∉ hM sb mb av := fun g hg q => by have := hML g q; omega
  have HQ := Lib.hid hq
  clear hq
  go_enter Tryz.func23, Tryz.ntmps23
  go_wp2_with fail
  refine wp_region_in [] [0, 1, 2, 3, 4, 5, 6, 7, 8] [9] [10] (by kernel_rfl) (by kernel_rfl) (by intro c d u a w h; cases d <;> exact h) ?_
  show wpQuiet _ _ _ _ [_, _, _, _, _, _, _, _, _] _
  repeat (go_big_quiet_step (fail))
  refine wpQuiet_nil ?_
  show wpList _ _ _ [_] _ _
  go_wp2_with fail
  refine check_of (S := []) (((Only.refl [] _).alloc _).drew) ?_
  show wpList _ _ _ [_] _ _
  clear F0 X0
  go_wp2_with fail
  have k5 : ∀ o1 o2 o3 o4 o5, Only [] w (((((w.alloc o1).alloc o2).alloc o3).alloc o4).alloc o5).drew := fun o1 o2 o3 o4 o5 => ((h0 o1 o2 o3 o4).alloc o5).drew
  have kH : ∀ cs t o1 o2 o3 o4, Blk (((((w.alloc o1).alloc o2).alloc o3).alloc o4).alloc (.cells cs t)).drew (w.heap.size + 1 + 1 + 1 + 1) t cs := fun cs t o1 o2 o3 o4 => by
    have := (Only.refl [] _).drew.blk (Blk.new ((((w.alloc o1).alloc o2).alloc o3).alloc o4) t cs) (by simp <;> omega)
    simpa using this
  have kX : ∀ cs t o1 o3 o4 o5, Blk (((((w.alloc o1).alloc (.cells cs t)).alloc o3).alloc o4).alloc o5).drew (w.heap.size + 1) t cs := fun cs t o1 o3 o4 o5 => ((Only.refl [] _).alloc o5).drew.blk (kX cs t o1 o3 o4) (by simp <;> omega)
  have kA : ∀ cs t o1 o2 o4 o5, Blk (((((w.alloc o1).alloc o2).alloc (.cells cs t)).alloc o4).alloc o5).drew (w.heap.size + 1 + 1) t cs := fun cs t o1 o2 o4 o5 => ((Only.refl [] _).alloc o5).drew.blk (kA cs t o1 o2 o4) (by simp <;> omega)
  have kY : ∀ cs t o1 o2 o3 o5, Blk (((((w.alloc o1).alloc o2).alloc o3).alloc (.cells cs t)).alloc o5).drew (w.heap.size + 1 + 1 + 1) t cs := fun cs t o1 o2 o3 o5 => ((Only.refl [] _).alloc o5).drew.blk (kY cs t o1 o2 o3) (by simp <;> omega)
  have kS : ∀ o1 o2 o3 o4 o5, StAt (((((w.alloc o1).alloc o2).alloc o3).alloc o4).alloc o5).drew M sb mb av pf s := fun o1 o2 o3 o4 o5 => h.only0 (k5 o1 o2 o3 o4 o5)
  have kC : ∀ cs t o2 o3 o4 o5, Blk (((((w.alloc (.cells cs t)).alloc o2).alloc o3).alloc o4).alloc o5).drew w.heap.size t cs := fun cs t o2 o3 o4 o5 => ((Only.refl [] _).alloc o5).drew.blk (kC cs t o2 o3 o4) (by simp)
  go_wp2_with fail
  have X0 := fun v a b d f g o1 o3 o4 o5 => Within.cell (S := []) ((kX #[v, a, b, d, f, g] 75 o1 o3 o4 o5).cell 0) (by simp)
  have X1 := fun v a b d f g o1 o3 o4 o5 => Within.cell (S := []) ((kX #[v, a, b, d, f, g] 75 o1 o3 o4 o5).cell 1) (by simp)
  have X2 := fun v a b d f g o1 o3 o4 o5 => Within.cell (S := []) ((kX #[v, a, b, d, f, g] 75 o1 o3 o4 o5).cell 2) (by simp)
  have X3 := fun v a b d f g o1 o3 o4 o5 => Within.cell (S := []) ((kX #[v, a, b, d, f, g] 75 o1 o3 o4 o5).cell 3) (by simp)
  have X4 := fun v a b d f g o1 o3 o4 o5 => Within.cell (S := []) ((kX #[v, a, b, d, f, g] 75 o1 o3 o4 o5).cell 4) (by simp)
  have X5 := fun v a b d f g o1 o3 o4 o5 => Within.cell (S := []) ((kX #[v, a, b, d, f, g] 75 o1 o3 o4 o5).cell 5) (by simp)
  have C4 := fun a b d e f g i j k o2 o3 o4 o5 => Within.cell (S := []) ((kC #[a, b, d, e, f, g, i, j, k] 40 o2 o3 o4 o5).cell 4) (by simp)
  have C4' := fun a b d e f g i j o2 o3 o4 o5 => Within.cell (S := []) ((kC #[a, b, d, e, f, g, i, j] 40 o2 o3 o4 o5).cell 4) (by simp)
  have E0 := fun o1 o2 o3 o4 o5 => Within.cell (S := []) (((k5 o1 o2 o3 o4 o5).cell hbe (by simp)).trans e0) (by simp)
  refine wp_region_in [] [0, 1, 2, 3, 4, 5, 6] [] [7, 8] (by kernel_rfl) (by kernel_rfl) (by intro c d u a w h; cases d <;> exact h) ?_
  show wpQuiet _ _ _ _ [_, _, _, _, _, _, _] _
  repeat (go_big_quiet_step (fail))
  refine wpQuiet_nil ?_
  show wpList _ _ _ [_, _] _ _
  clear X0 X1 X2 X3 X4 X5 C4 C4' E0
  go_wp2_with (first
    | (go_at_call 61; refine (HFi.out _ (k5 _ _ _ _ _).drew).mono ?_; rintro e w1 ⟨rfl, ho1⟩; have rC := fun i => (ho1.blk ((Only.refl [] _).drew.blk (kC _ _ _ _ _ _) (by simp)) (by simp)).cell i; have rX := fun i => (ho1.blk ((Only.refl [] _).drew.blk (kX _ _ _ _ _ _) (by simp)) (by simp)).cell i)
    | (go_at_call 59; refine (HE.out _).mono ?_; rintro e w2 ⟨rfl, hWE⟩; subst hWE)
    | (go_at_call 63; refine (HAp.out _ ((k5 _ _ _ _ _).drew.trans ho1)).mono ?_; rintro e w2 ⟨Aq, capq, avr, rfl, hst, hrd, ho2, hav, hpq⟩; have bA1 := ho2.blk (ho1.blk ((Only.refl [] _).drew.blk (kA _ _ _ _ _ _) (by simp)) (by simp)) (hMn _ (by omega)); have bY1 := ho2.blk (ho1.blk ((Only.refl [] _).drew.blk (kY _ _ _ _ _ _) (by simp)) (by simp)) (hMn _ (by omega)); have hA1 := fun i => bA1.cell i; have hA1f := fun i => bA1.free i; have hY1 := fun i => bY1.cell i; have hY1f := fun i => bY1.free i))
  have hR := HR.out
  subst hR
  clear HR
  refine bodyPost_ret (v := .tuple #[.agg #[.int .i64 q.1.err, .int .i64 q.1.version, .int .i64 q.1.position, .bool q.1.again], .agg #[.slice Aq q.2.1.places.length capq, .int .i64 q.2.1.mt.maxCount, .int .i64 q.2.1.mt.maxAge, .int .i64 q.2.1.mt.before, .int .i64 q.2.1.floor, .bool q.2.1.deleted]]) (by simp [results, Tryz.results23, go_sem, hA1, hY1]) rfl ⟨.slice Aq q.2.1.places.length capq, ?_⟩
  have hE : s.act c x = q := by
    have h1 := HK.out
    unfold MS.act
    rw [if_neg h1.1, if_neg h1.2]
    show (if 0 ≤ s.first x (headId c) then (s.again c x (s.first x (headId c)), x, s) else _) = _
    rw [hv, if_neg (by omega), HX.out, if_pos rfl, HQ.out]
  have hqm : q.2.2.m = s.m := by rw [HQ.out]; rfl
  rw [hE]
  refine ⟨rfl, ActLeads.of_app (S := [w.heap.size + 1 + 1, w.heap.size + 1 + 1 + 1]) h ((k5 _ _ _ _ _).drew.trans ho1) hst hrd ho2 hav hpq ?hw (fun g hg => ?hs) hqm⟩
  case hs =>
    have := ho1.size
    simp at this hg
    omega
  case hw =>
    iterate 10 (refine Only.setCell ?_ (.inl (by simp)) _)
    exact Only.refl _ _
theorem act_any {w : World} {M : List Nat} {sb mb : Nat} {av pv ev : Value} {pf : ByteArray → Value} {s : MS} {x : StreamR} {c : Cmd} (h : StAt w M sb mb av pf s) (hx : XOk s x) (hp : Rd M w 1 pv x.places.length (ints x.places))
    (he : Rd M w 4 ev c.events.length (c.events.flatMap EventR.cells)) (hl : s.all.length ≤ 1000000) (hn : 0 ≤ s.now ∧ s.now ≤ 1099511627776) (hel : c.kind ≠ 2 ∧ c.kind ≠ 3 → 1 ≤ c.events.length ∧ c.events.length ≤ 8) :
    Calls Tryz.prog 23 #[.pointer (some ⟨sb, 0, none⟩), c.val ev, x.val pv] w fun e w' => ∃ pv', e = .returned (.tuple #[(s.act c x).1.val, (s.act c x).2.1.val pv']) ∧ ActLeads w M sb mb av pf (s.act c x).2.1 (s.act c x).2.2 pv' w' := by
  by_cases h2 : c.kind = 2
  · exact act_meta h hx hp he hl h2
  · by_cases h3 : c.kind = 3
    · cases hq : expected c.expected x.places.length
      · exact act_delNo h hx hp he hl h3 hq
      · exact act_delYes h hx hp he hl h3 hq
    · have hk : c.kind ≠ 2 ∧ c.kind ≠ 3 := ⟨h2, h3⟩
      rcases first_cases s x (headId c) with hf | ⟨v, hv, hvl⟩
      · cases hq : expected c.expected x.places.length
        · exact act_late h hx hp he hl hk (hel hk) hf hq
        · exact act_append h hx hp he hl hk (hel hk) hn hf hq
      · exact act_again h hx hp he hl hk (hel hk) hv hvl
end Go.Proofs.YteinoiicnmemhaaGreatDoor
/- Contract: Do. -/
set_option linter.unusedVariables false
set_option linter.unusedSimpArgs false
namespace Go.Proofs.YteinoiicnmemhaaGreatDoor
open Go.RowKit
/-- Within, with one thing more that stays. -/
structure WithinE (S : List Nat) (E : World → Prop) (w : World) where
  W : World
  h : Only S w W
  e : E W
section
variable {P : Program} {Q : Exit → Act → World → Prop} {l : List Oper} {S : List Nat} {E : World → Prop}
theorem wp_region_inE {id : Nat} {a : Act} {w : World} (S H T1 T2 : List Nat) (E : World → Prop) (hE : E w.drew) (hm : P.follows .mixedOrders = true) (hB : planB .any l.toArray H T1 T2 = true) (hQ : ∀ c d u a w, Q (.panic c) (Act.put a d u) w → Q (.panic c) a w)
    (h : Nonempty (WithinE S E w) → wpQuiet P l.toArray (fun W => ∃ p : WithinE S E w, W = p.W) (fun a' => wpT1 P l.toArray (fun W => ∃ p : WithinE S E w, W = p.W) Q (opsAt l T1) (fun a w => wpList P l.toArray Q (opsAt l T2) a w) a' w.drew) (opsAt l H) a) : (Code.region id l.toArray true).wp P Q a w :=
  wp_region_plan H T1 T2 hm hB hQ ⟨⟨_, (Only.refl S w).drew, hE⟩, rfl⟩ (h ⟨⟨_, (Only.refl S w).drew, hE⟩⟩)
theorem WithinE.cell {w : World} {x : Addr} {v : Value} (hc : w.cell? x = some v) (hn : x.block ∉ S) (p : WithinE S E w) : p.W.cell? x = some v := (p.h.cell (block_lt_of_cell hc) hn).trans hc
theorem check_ofE {w w' : World} {K : Act → World → Prop} {a : Act} (hO : Only S w w') (hE : E w') (h : K a w') : CheckQ (fun W => ∃ p : WithinE S E w, W = p.W) Q K .normal a w' := ⟨⟨⟨w', hO, hE⟩, rfl⟩, h⟩
end
theorem StLeads.same {w w' : World} {M : List Nat} {sb mb : Nat} {av : Value} {pf : ByteArray → Value} {s : MS} (h : StAt w M sb mb av pf s) (k : Only [] w w') : StLeads w M sb mb av s w' :=
  ⟨M, av, pf, h.only0 k, k.of_nil, fun _ q => q, fun _ q => .inl q, fun _ q => .inl q⟩
theorem StAt.ticked {w W : World} {M : List Nat} {sb mb : Nat} {av : Value} {pf : ByteArray → Value} {s : MS} {t n : Int} (h : StAt w M sb mb av pf s) (hO : Only [sb] w W) (hb : Blk W sb 72 #[av, .map (some mb), .int .i64 n, .int .i64 t]) :
    StAt W M sb mb av pf { s with now := t, done := n } :=
  ⟨hb, own_only h.own hO (fun g hg => by simpa using (h.ownne g hg).1), h.map.only hO (by simpa using h.ne), fun k x hx => (h.pl k x hx).only hO (by simpa using h.inM.1), h.inM, fun g hg => Nat.lt_of_lt_of_le (h.mlt g hg) hO.size⟩
set_option maxHeartbeats 4000000 in
theorem do_bad {w : World} {M : List Nat} {sb mb N : Nat} {av ev : Value} {pf : ByteArray → Value} {s : MS} {c : Cmd} (h : StAt w M sb mb av pf s) (hs : s.Ok N) (hN : N ≤ 100000) (hc : CmdOk c)
    (he : Rd M w 4 ev c.events.length (c.events.flatMap EventR.cells)) (hk : c.check ≠ 0) :
    Calls Tryz.prog 9 #[.pointer (some ⟨sb, 0, none⟩), c.val ev] w fun e w' => e = .returned (s.do c).1.val ∧ StLeads w M sb mb av (s.do c).2 w' := by
  obtain ⟨A1, cap1, hev, hn3, hn4, hes⟩ := he.1.openE EventR.cells (fun _ => rfl)
  obtain ⟨A2, cap2, hav, hnc2, hcm2, hel2⟩ := h.cell
  unfold maxLen at hn4 hcm2
  have hsb := h.blk.lt
  subst hev
  have HCk := Lib.hid (fun (W : World) (hw : Only [] w W) => show Calls Tryz.prog 20 #[.agg #[.int .i64 c.kind, .int .i64 c.time, .string c.stream, .int .i64 c.expected, .slice A1 c.events.length cap1, .int .i64 c.mt.maxCount, .int .i64 c.mt.maxAge, .int .i64 c.mt.before]] W fun e w' => e = .returned (.int .i64 c.check) ∧ Only [] W w' from check_any c _ W (he.1.only0 hw) hc)
  have h2 : ∀ o1 o2, Only [] w ((w.alloc o1).alloc o2) := fun o1 o2 => ((Only.refl [] w).alloc o1).alloc o2
  have kC : ∀ cs t o2, Blk ((w.alloc (.cells cs t)).alloc o2) w.heap.size t cs := fun cs t o2 => ((Only.refl [] _).alloc o2).blk (Blk.new w t cs) (by simp)
  have kA : ∀ cs t o1, Blk ((w.alloc o1).alloc (.cells cs t)) (w.heap.size + 1) t cs := fun cs t o1 => by
    have := Blk.new (w.alloc o1) t cs
    simpa using this
  obtain ⟨R, hR⟩ : ∃ R, R = s.do c := ⟨_, rfl⟩
  rw [← hR]
  have HR := Lib.hid hR
  clear hR
  rw [show c.val (.slice A1 c.events.length cap1) = .agg #[.int .i64 c.kind, .int .i64 c.time, .string c.stream, .int .i64 c.expected, .slice A1 c.events.length cap1, .int .i64 c.mt.maxCount, .int .i64 c.mt.maxAge, .int .i64 c.mt.before] from rfl]
  have hk1 : (c.check != 0) = true := by rw [bne_iff_ne]; exact hk
  have HK := Lib.hid hk
  obtain ⟨ck, hck⟩ : ∃ ck, ck = c.check := ⟨_, rfl⟩
  rw [← hck] at HCk hk1
  have HC := Lib.hid hck
  clear hk hck
  go_enter Tryz.func9, Tryz.ntmps9
  go_wp2_with (go_at_call 20; refine (HCk.out _ (h2 _ _)).mono ?_; rintro e w1 ⟨rfl, ho1⟩; have hA1 := fun i => (ho1.blk (kA _ _ _) (by simp)).cell i; have hA1f := fun i => (ho1.blk (kA _ _ _) (by simp)).free i)
  have hR := HR.out
  subst hR
  have hE : s.do c = (⟨ck, 0, 0, false⟩, s) := by
    unfold MS.do
    rw [HC.out, if_pos HK.out]
  refine bodyPost_ret (v := .agg #[.int .i64 ck, .int .i64 0, .int .i64 0, .bool false]) (by simp [results, Tryz.results9, go_sem, hA1]) rfl ?_
  rw [hE]
  refine ⟨rfl, StLeads.same h ?hw⟩
  case hw =>
    iterate 4 (refine Only.setCell ?_ (.inr (by simp <;> omega)) _)
    exact (h2 _ _).trans ho1
set_option maxRecDepth 100000 in
set_option maxHeartbeats 4000000 in
theorem do_mark {w : World} {M : List Nat} {sb mb N : Nat} {av ev : Value} {pf : ByteArray → Value} {s : MS} {c : Cmd} (h : StAt w M sb mb av pf s) (hs : s.Ok N) (hN : N ≤ 100000) (hc : CmdOk c)
    (he : Rd M w 4 ev c.events.length (c.events.flatMap EventR.cells)) (hk : c.check = 0) (hm : c.kind = 4 ∨ c.kind = 5) :
    Calls Tryz.prog 9 #[.pointer (some ⟨sb, 0, none⟩), c.val ev] w fun e w' => e = .returned (s.do c).1.val ∧ StLeads w M sb mb av (s.do c).2 w' := by
  obtain ⟨A1, cap1, hev, hn3, hn4, hes⟩ := he.1.openE EventR.cells (fun _ => rfl)
  obtain ⟨A2, cap2, hav, hnc2, hcm2, hel2⟩ := h.cell
  unfold maxLen at hn4 hcm2
  have hsb := h.blk.lt
  subst hev
  have HCk := Lib.hid (fun (W : World) (hw : Only [] w W) => show Calls Tryz.prog 20 #[.agg #[.int .i64 c.kind, .int .i64 c.time, .string c.stream, .int .i64 c.expected, .slice A1 c.events.length cap1, .int .i64 c.mt.maxCount, .int .i64 c.mt.maxAge, .int .i64 c.mt.before]] W fun e w' => e = .returned (.int .i64 c.check) ∧ Only [] W w' from check_any c _ W (he.1.only0 hw) hc)
  have h2 : ∀ o1 o2, Only [] w ((w.alloc o1).alloc o2) := fun o1 o2 => ((Only.refl [] w).alloc o1).alloc o2
  have kC : ∀ cs t o2, Blk ((w.alloc (.cells cs t)).alloc o2) w.heap.size t cs := fun cs t o2 => ((Only.refl [] _).alloc o2).blk (Blk.new w t cs) (by simp)
  have kA : ∀ cs t o1, Blk ((w.alloc o1).alloc (.cells cs t)) (w.heap.size + 1) t cs := fun cs t o1 => by
    have := Blk.new (w.alloc o1) t cs
    simpa using this
  obtain ⟨R, hR⟩ : ∃ R, R = s.do c := ⟨_, rfl⟩
  rw [← hR]
  have HR := Lib.hid hR
  clear hR
  rw [show c.val (.slice A1 c.events.length cap1) = .agg #[.int .i64 c.kind, .int .i64 c.time, .string c.stream, .int .i64 c.expected, .slice A1 c.events.length cap1, .int .i64 c.mt.maxCount, .int .i64 c.mt.maxAge, .int .i64 c.mt.before] from rfl]
  have HK := Lib.hid hk
  rw [hk] at HCk
  clear hk
  go_enter Tryz.func9, Tryz.ntmps9
  go_wp2_with (go_at_call 20; refine (HCk.out _ (h2 _ _)).mono ?_; rintro e w1 ⟨rfl, ho1⟩)
  have hdn := IntWalk.i64_in (s.done + 1) ⟨by have := hs.done; omega, by have := hs.done; omega⟩
  have hne0 : w.heap.size ≠ sb := by omega
  obtain ⟨t, ht⟩ : ∃ t, t = max s.now c.time := ⟨_, rfl⟩
  have hmx : (if s.now < c.time then c.time else s.now) = t := by rw [ht]; split <;> omega
  have hmy : (if c.time > s.now then c.time else s.now) = t := hmx
  have HT := Lib.hid ht
  clear ht
  have bC1 := ho1.blk (kC _ _ _) (by simp)
  have bA1 := ho1.blk (kA _ _ _) (by simp)
  have hO1 : Only [] w w1 := (h2 _ _).trans ho1
  have bS1 := hO1.blk h.blk (by simp)
  have C1 := WithinE.cell (E := fun W => W.cell? ⟨sb, 2, none⟩ = some (.int .i64 s.done)) (S := [sb]) (bC1.cell 1) (by simp; omega)
  have D2 := fun p : WithinE [sb] (fun W => W.cell? ⟨sb, 2, none⟩ = some (.int .i64 s.done)) w1 => p.e
  refine wp_region_inE [sb] [0, 1, 2, 3, 4, 6, 7, 9, 10, 11, 12, 13] [5, 8, 14, 15, 16] [17, 18, 19] (fun W => W.cell? ⟨sb, 2, none⟩ = some (.int .i64 s.done)) (bS1.cell 2) (by kernel_rfl) (by kernel_rfl) (by intro c d u a w h; cases d <;> exact h) ?_
  intro hne
  show wpQuiet _ _ _ _ [_, _, _, _, _, _, _, _, _, _, _, _] _
  repeat (go_big_quiet_step (fail))
  refine wpQuiet_nil ?_
  show wpList _ _ _ [_] _ _
  have hSf := fun i => bS1.free i
  have hSc := fun i => bS1.cell i
  have N3 : w1.drew.cell? ⟨sb, 3, none⟩ = some (.int .i64 s.now) := bS1.cell 3
  go_wp2_with fail
  refine check_ofE (S := [sb]) (Only.refl _ _).drew (bS1.cell 2) ?_
  show wpList _ _ _ [_] _ _
  go_wp2_with fail
  refine check_ofE (S := [sb]) (Only.refl _ _).drew (bS1.cell 2) ?_
  show wpList _ _ _ [_] _ _
  go_wp2_with fail
  refine check_ofE (S := [sb]) (Only.refl _ _).drew (bS1.cell 2) ?_
  show wpList _ _ _ [_] _ _
  go_wp2_with fail
  refine check_ofE (S := [sb]) (Only.refl _ _).drew (bS1.cell 2) ?_
  show wpList _ _ _ [_] _ _
  go_wp2_with fail
  refine check_ofE (S := [sb]) (((Only.refl _ _).setCell (.inl (by simp)) _).drew) ((bS1.set 3 _).cell 2) ?_
  show wpList _ _ _ [_, _, _] _ _
  have hO2 := fun u v => ((Only.refl [sb] w1).setCell (p := ⟨sb, 3, none⟩) (.inl (by simp)) u).setCell (p := ⟨sb, 2, none⟩) (.inl (by simp)) v
  have hC2 := fun u v i => ((hO2 u v).blk bC1 (by simp; omega)).cell i
  have hC2' := fun u v i => ((hO2 u v).drew.blk bC1 (by simp; omega)).cell i
  have hA2 := fun u v i => ((hO2 u v).blk bA1 (by simp; omega)).cell i
  have hA2f := fun u v i => ((hO2 u v).blk bA1 (by simp; omega)).free i
  have hS2 := fun u v => ((bS1.set 3 u).set 2 v).cell 0
  rw [hav] at hS2
  rcases hm with hm | hm
  · have hk4 : ((c.kind : Int) == 4) = true := by rw [beq_iff_eq]; omega
    have hk5 : ((c.kind : Int) == 5) = false := by rw [beq_eq_false_iff_ne]; omega
    have HM : Hid (c.kind = 4 ∨ c.kind = 5) := .inl hm
    clear hm
    go_wp2
    have hR := HR.out
    subst hR
    refine bodyPost_ret (v := .agg #[.int .i64 0, .int .i64 0, .int .i64 s.all.length, .bool false]) (by simp [results, Tryz.results9, go_sem, hA2]) rfl ?_
    have hE : s.do c = (⟨0, 0, s.all.length, false⟩, { s with now := t, done := s.done + 1 }) := by
      unfold MS.do
      rw [if_neg (by rw [HK.out]; decide), HT.out]
      dsimp only
      rw [if_pos HM.out]
      rfl
    rw [hE]
    have hb0 := (bS1.set 3 (.int .i64 t)).set 2 (.int .i64 (s.done + 1))
    refine ⟨rfl, M, av, pf, StAt.ticked h ?hw (Only.blk (S := [w.heap.size + 1]) ?ho hb0 (by simp; omega)), Only.mono ?hw (by simp [hM]), fun _ q => q, fun _ q => .inl q, fun _ q => .inl q⟩
    case hw =>
      refine Only.drew ?_
      iterate 4 (refine Only.setCell ?_ (.inr (by simp <;> omega)) _)
      iterate 2 (refine Only.setCell ?_ (.inl (by simp)) _)
      exact hO1.of_nil
    case ho =>
      refine Only.drew ?_
      iterate 4 (refine Only.setCell ?_ (.inl (by simp)) _)
      exact Only.refl _ _
  · have hk4 : ((c.kind : Int) == 4) = false := by rw [beq_eq_false_iff_ne]; omega
    have hk5 : ((c.kind : Int) == 5) = true := by rw [beq_iff_eq]; omega
    have HM : Hid (c.kind = 4 ∨ c.kind = 5) := .inr hm
    clear hm
    go_wp2
    have hR := HR.out
    subst hR
    refine bodyPost_ret (v := .agg #[.int .i64 0, .int .i64 0, .int .i64 s.all.length, .bool false]) (by simp [results, Tryz.results9, go_sem, hA2]) rfl ?_
    have hE : s.do c = (⟨0, 0, s.all.length, false⟩, { s with now := t, done := s.done + 1 }) := by
      unfold MS.do
      rw [if_neg (by rw [HK.out]; decide), HT.out]
      dsimp only
      rw [if_pos HM.out]
      rfl
    rw [hE]
    have hb0 := (bS1.set 3 (.int .i64 t)).set 2 (.int .i64 (s.done + 1))
    refine ⟨rfl, M, av, pf, StAt.ticked h ?hw (Only.blk (S := [w.heap.size + 1]) ?ho hb0 (by simp; omega)), Only.mono ?hw (by simp [hM]), fun _ q => q, fun _ q => .inl q, fun _ q => .inl q⟩
    case hw =>
      refine Only.drew ?_
      iterate 4 (refine Only.setCell ?_ (.inr (by simp <;> omega)) _)
      iterate 2 (refine Only.setCell ?_ (.inl (by simp)) _)
      exact hO1.of_nil
    case ho =>
      refine Only.drew ?_
      iterate 4 (refine Only.setCell ?_ (.inl (by simp)) _)
      exact Only.refl _ _
end Go.Proofs.YteinoiicnmemhaaGreatDoor
/- Contract: Do on a stream. -/
set_option linter.unusedVariables false
set_option linter.unusedSimpArgs false
namespace Go.Proofs.YteinoiicnmemhaaGreatDoor
open Go.RowKit
set_option maxRecDepth 100000 in
set_option maxHeartbeats 4000000 in
theorem do_gone {w : World} {M : List Nat} {sb mb N : Nat} {av ev : Value} {pf : ByteArray → Value} {s : MS} {c : Cmd} (h : StAt w M sb mb av pf s) (hs : s.Ok N) (hN : N ≤ 100000) (hc : CmdOk c)
    (he : Rd M w 4 ev c.events.length (c.events.flatMap EventR.cells)) (hk : c.check = 0) (hm : ¬ (c.kind = 4 ∨ c.kind = 5)) (hd : (s.find c.stream).deleted = true) :
    Calls Tryz.prog 9 #[.pointer (some ⟨sb, 0, none⟩), c.val ev] w fun e w' => e = .returned (s.do c).1.val ∧ StLeads w M sb mb av (s.do c).2 w' := by
  obtain ⟨A1, cap1, hev, hn3, hn4, hes⟩ := he.1.openE EventR.cells (fun _ => rfl)
  obtain ⟨A2, cap2, hav, hnc2, hcm2, hel2⟩ := h.cell
  unfold maxLen at hn4 hcm2
  have hsb := h.blk.lt
  subst hev
  have HCk := Lib.hid (fun (W : World) (hw : Only [] w W) => show Calls Tryz.prog 20 #[.agg #[.int .i64 c.kind, .int .i64 c.time, .string c.stream, .int .i64 c.expected, .slice A1 c.events.length cap1, .int .i64 c.mt.maxCount, .int .i64 c.mt.maxAge, .int .i64 c.mt.before]] W fun e w' => e = .returned (.int .i64 c.check) ∧ Only [] W w' from check_any c _ W (he.1.only0 hw) hc)
  have h2 : ∀ o1 o2, Only [] w ((w.alloc o1).alloc o2) := fun o1 o2 => ((Only.refl [] w).alloc o1).alloc o2
  have kC : ∀ cs t o2, Blk ((w.alloc (.cells cs t)).alloc o2) w.heap.size t cs := fun cs t o2 => ((Only.refl [] _).alloc o2).blk (Blk.new w t cs) (by simp)
  have kA : ∀ cs t o1, Blk ((w.alloc o1).alloc (.cells cs t)) (w.heap.size + 1) t cs := fun cs t o1 => by
    have := Blk.new (w.alloc o1) t cs
    simpa using this
  obtain ⟨R, hR⟩ : ∃ R, R = s.do c := ⟨_, rfl⟩
  rw [← hR]
  have HR := Lib.hid hR
  clear hR
  rw [show c.val (.slice A1 c.events.length cap1) = .agg #[.int .i64 c.kind, .int .i64 c.time, .string c.stream, .int .i64 c.expected, .slice A1 c.events.length cap1, .int .i64 c.mt.maxCount, .int .i64 c.mt.maxAge, .int .i64 c.mt.before] from rfl]
  have HK := Lib.hid hk
  rw [hk] at HCk
  have hk4 : ((c.kind : Int) == 4) = false := by rw [beq_eq_false_iff_ne]; omega
  have hk5 : ((c.kind : Int) == 5) = false := by rw [beq_eq_false_iff_ne]; omega
  have HM := Lib.hid hm
  clear hk hm
  obtain ⟨A3, cap3, hpv3, hn5, hn6, hps⟩ := (h.rd c.stream).1.openI
  have hfd : ∀ (W : World) (t : Int), StAt W M sb mb av pf { s with now := t, done := s.done + 1 } → Calls Tryz.prog 21 #[.pointer (some ⟨sb, 0, none⟩), .string c.stream] W fun e w' => e = .returned (.agg #[.slice A3 (s.find c.stream).places.length cap3, .int .i64 (s.find c.stream).mt.maxCount, .int .i64 (s.find c.stream).mt.maxAge, .int .i64 (s.find c.stream).mt.before, .int .i64 (s.find c.stream).floor, .bool (s.find c.stream).deleted]) ∧ Only [] W w' := fun W t hst => by
    have q := find_any hst c.stream
    rw [show pvOf { s with now := t, done := s.done + 1 } pf c.stream = pvOf s pf c.stream from rfl, hpv3] at q
    exact q
  have HFd := Lib.hid hfd
  clear hfd
  obtain ⟨x, hx⟩ : ∃ x, x = s.find c.stream := ⟨_, rfl⟩
  rw [← hx] at HFd
  have HXf := Lib.hid hx
  have hdn := IntWalk.i64_in (s.done + 1) ⟨by have := hs.done; omega, by have := hs.done; omega⟩
  have hne0 : w.heap.size ≠ sb := by omega
  rw [← hx] at hd
  rw [hd] at HFd
  have HD := Lib.hid hd
  clear hd hx
  go_enter Tryz.func9, Tryz.ntmps9
  go_wp2_with (go_at_call 20; refine (HCk.out _ (h2 _ _)).mono ?_; rintro e w1 ⟨rfl, ho1⟩)
  obtain ⟨t, ht⟩ : ∃ t, t = max s.now c.time := ⟨_, rfl⟩
  have hmx : (if s.now < c.time then c.time else s.now) = t := by rw [ht]; split <;> omega
  have hmy : (if c.time > s.now then c.time else s.now) = t := hmx
  have HT := Lib.hid ht
  clear ht
  have bC1 := ho1.blk (kC _ _ _) (by simp)
  have bA1 := ho1.blk (kA _ _ _) (by simp)
  have hO1 : Only [] w w1 := (h2 _ _).trans ho1
  have bS1 := hO1.blk h.blk (by simp)
  have C1 := WithinE.cell (E := fun W => W.cell? ⟨sb, 2, none⟩ = some (.int .i64 s.done)) (S := [sb]) (bC1.cell 1) (by simp; omega)
  have D2 := fun p : WithinE [sb] (fun W => W.cell? ⟨sb, 2, none⟩ = some (.int .i64 s.done)) w1 => p.e
  refine wp_region_inE [sb] [0, 1, 2, 3, 4, 6, 7, 9, 10, 11, 12, 13] [5, 8, 14, 15, 16] [17, 18, 19] (fun W => W.cell? ⟨sb, 2, none⟩ = some (.int .i64 s.done)) (bS1.cell 2) (by kernel_rfl) (by kernel_rfl) (by intro c d u a w h; cases d <;> exact h) ?_
  intro hne
  show wpQuiet _ _ _ _ [_, _, _, _, _, _, _, _, _, _, _, _] _
  repeat (go_big_quiet_step (fail))
  refine wpQuiet_nil ?_
  show wpList _ _ _ [_] _ _
  have hSf := fun i => bS1.free i
  have hSc := fun i => bS1.cell i
  have N3 : w1.drew.cell? ⟨sb, 3, none⟩ = some (.int .i64 s.now) := bS1.cell 3
  go_wp2_with fail
  refine check_ofE (S := [sb]) (Only.refl _ _).drew (bS1.cell 2) ?_
  show wpList _ _ _ [_] _ _
  go_wp2_with fail
  refine check_ofE (S := [sb]) (Only.refl _ _).drew (bS1.cell 2) ?_
  show wpList _ _ _ [_] _ _
  go_wp2_with fail
  refine check_ofE (S := [sb]) (Only.refl _ _).drew (bS1.cell 2) ?_
  show wpList _ _ _ [_] _ _
  go_wp2_with fail
  refine check_ofE (S := [sb]) (Only.refl _ _).drew (bS1.cell 2) ?_
  show wpList _ _ _ [_] _ _
  go_wp2_with fail
  refine check_ofE (S := [sb]) (((Only.refl _ _).setCell (.inl (by simp)) _).drew) ((bS1.set 3 _).cell 2) ?_
  show wpList _ _ _ [_, _, _] _ _
  have hO2 := fun u v => ((Only.refl [sb] w1).setCell (p := ⟨sb, 3, none⟩) (.inl (by simp)) u).setCell (p := ⟨sb, 2, none⟩) (.inl (by simp)) v
  have hC2 := fun u v i => ((hO2 u v).blk bC1 (by simp; omega)).cell i
  have hC2' := fun u v i => ((hO2 u v).drew.blk bC1 (by simp; omega)).cell i
  have hb0 := (bS1.set 3 (.int .i64 t)).set 2 (.int .i64 (s.done + 1))
  have hT2 := StAt.ticked h (hO1.of_nil.trans (hO2 (.int .i64 t) (.int .i64 (s.done + 1)))) hb0
  have hT3 := hT2.only0 (Only.refl [] _).drew
  have kA2 := fun u v => (hO2 u v).drew.blk bA1 (by simp; omega)
  go_wp2_with (go_at_call 21; refine (HFd.out _ _ (by first | exact hT3 | exact hT2)).mono ?_; rintro e w2 ⟨rfl, ho2⟩; have hA3 := fun o : Obj => fun i => (((Only.refl [] w2).alloc o).blk (ho2.blk (kA2 _ _) (by simp)) (by simp)).cell i; have hA3f := fun o : Obj => fun i => (((Only.refl [] w2).alloc o).blk (ho2.blk (kA2 _ _) (by simp)) (by simp)).free i)
  have hR := HR.out
  subst hR
  refine bodyPost_ret (v := .agg #[.int .i64 23, .int .i64 0, .int .i64 0, .bool false]) (by simp [results, Tryz.results9, go_sem, hA3]) rfl ?_
  have hE : s.do c = (⟨23, 0, 0, false⟩, { s with now := t, done := s.done + 1 }) := by
    unfold MS.do
    rw [if_neg (by rw [HK.out]; decide), HT.out]
    dsimp only
    rw [if_neg HM.out]
    show (if (s.find c.stream).deleted = true then _ else _) = _
    rw [← HXf.out, if_pos HD.out]
    rfl
  rw [hE]
  have hb2 := ho2.blk ((Only.refl [] _).drew.blk hb0 (by simp)) (by simp)
  refine ⟨rfl, M, av, pf, StAt.ticked h ?hw (Only.blk (S := [w.heap.size + 1]) ?ho hb2 (by simp; omega)), Only.mono ?hw (by simp [hM]), fun _ q => q, fun _ q => .inl q, fun _ q => .inl q⟩
  case hw =>
    iterate 4 (refine Only.setCell ?_ (.inr (by simp <;> omega)) _)
    refine Only.alloc ?_ _
    exact (hO1.of_nil.trans (hO2 _ _)).drew.trans ho2.of_nil
  case ho =>
    iterate 4 (refine Only.setCell ?_ (.inl (by simp)) _)
    exact (Only.refl _ _).alloc _
end Go.Proofs.YteinoiicnmemhaaGreatDoor
/- What act leaves may be kept. -/
set_option linter.unusedVariables false
set_option linter.unusedSimpArgs false
namespace Go.Proofs.YteinoiicnmemhaaGreatDoor
open Go.RowKit
theorem rangeFrom_mem : ∀ (k : Nat) (a p : Int), p ∈ rangeFrom k a → a ≤ p ∧ p < a + k
  | 0, a, p, h => by simp [rangeFrom] at h
  | k + 1, a, p, h => by
    simp only [rangeFrom, List.mem_cons] at h
    rcases h with rfl | h
    · omega
    · have := rangeFrom_mem k (a + 1) p h
      omega
theorem act_xok {s : MS} {x : StreamR} {c : Cmd} (hx : XOk s x) (hm : c.kind = 2 → c.mt.ok = true) :
    XOk (s.act c x).2.2 (s.act c x).2.1 ∧ (s.act c x).2.2.now = s.now ∧ (s.act c x).2.2.m = s.m ∧ (s.act c x).2.2.done = s.done ∧ s.all.length ≤ (s.act c x).2.2.all.length ∧ (s.act c x).2.2.all.length ≤ s.all.length + c.events.length := by
  have hx' := hx
  obtain ⟨h1, h2, h3, h4⟩ := hx
  unfold MS.act
  dsimp only
  split
  · rename_i hk
    exact ⟨⟨hm hk, h2, h3, h4⟩, rfl, rfl, rfl, Nat.le_refl _, Nat.le_add_right _ _⟩
  · split
    · split
      · exact ⟨⟨h1, h2, h3, h4⟩, rfl, rfl, rfl, Nat.le_refl _, Nat.le_add_right _ _⟩
      · exact ⟨hx', rfl, rfl, rfl, Nat.le_refl _, Nat.le_add_right _ _⟩
    · split
      · exact ⟨hx', rfl, rfl, rfl, Nat.le_refl _, Nat.le_add_right _ _⟩
      · split
        · unfold MS.append
          dsimp only
          refine ⟨⟨h1, ⟨h2.1, ?_⟩, fun p hp => ?_, ?_⟩, rfl, rfl, rfl, ?_, ?_⟩
          · simp only [List.length_append]
            omega
          · simp only [List.mem_append, List.length_append, storedOf_len] at hp ⊢
            rcases hp with hp | hp
            · have := h3 p hp
              omega
            · have := rangeFrom_mem _ _ p hp
              omega
          · simp only [List.length_append, storedOf_len, rangeFrom_len]
            omega
          · simp only [List.length_append]
            omega
          · simp only [List.length_append, storedOf_len]
            omega
        · exact ⟨hx', rfl, rfl, rfl, Nat.le_refl _, Nat.le_add_right _ _⟩
/-- What a command that is in order says. -/
theorem check_zero {c : Cmd} (h : c.check = 0) : 1 ≤ c.kind ∧ c.kind ≤ 5 ∧ (0 ≤ c.time ∧ c.time ≤ 1099511627776) ∧ (c.kind = 2 → c.mt.ok = true) ∧ (c.kind = 1 → 1 ≤ c.events.length ∧ c.events.length ≤ 8) := by
  unfold Cmd.check at h
  split at h
  · omega
  · rename_i q1
    have ht : within c.time = true := by
      cases hw : within c.time
      · exact absurd (.inr (.inr hw)) q1
      · rfl
    simp only [within, Bool.and_eq_true, decide_eq_true_eq] at ht
    refine ⟨by omega, by omega, ht, fun hk => ?_, fun hk => ?_⟩
    · split at h
      · omega
      · split at h
        · omega
        · split at h
          · omega
          · split at h
            · omega
            · rename_i q2
              cases hw : c.mt.ok
              · exact absurd ⟨hk, hw⟩ q2
              · rfl
    · split at h
      · omega
      · split at h
        · rename_i q2
          exact absurd h q2.2
        · rename_i q2
          have he : eventsE c.events = 0 := by
            by_cases hz : eventsE c.events = 0
            · exact hz
            · exact absurd ⟨hk, hz⟩ q2
          unfold eventsE at he
          split at he
          · omega
          · split at he
            · omega
            · omega
end Go.Proofs.YteinoiicnmemhaaGreatDoor
/- Contract: Do on a stream that is there. -/
set_option linter.unusedVariables false
set_option linter.unusedSimpArgs false
namespace Go.Proofs.YteinoiicnmemhaaGreatDoor
open Go.RowKit
theorem StAt.tickedMore {w W : World} {M : List Nat} {sb mb : Nat} {av : Value} {pf : ByteArray → Value} {s : MS} {t n : Int} (h : StAt w M sb mb av pf s) (hO : Only [sb] w W) (hb : Blk W sb 72 #[av, .map (some mb), .int .i64 n, .int .i64 t]) (g : Nat) (h1 : w.heap.size ≤ g) (h2 : g < W.heap.size) :
    StAt W (g :: M) sb mb av pf { s with now := t, done := n } :=
  ⟨hb, own_only h.own hO (fun g hg => by simpa using (h.ownne g hg).1), h.map.only hO (by simpa using h.ne),
    fun k x hx => ((h.pl k x hx).ext (M' := g :: M) (fun i hi => by simp at hi; rcases hi with rfl | hi; exact .inr h1; exact .inl hi)).only hO (by simpa using .inr h.inM.1),
    ⟨List.mem_cons_of_mem _ h.inM.1, List.mem_cons_of_mem _ h.inM.2.1, fun i hi => List.mem_cons_of_mem _ (h.inM.2.2 i hi)⟩,
    fun i hi => by simp at hi; rcases hi with rfl | hi; exact h2; exact Nat.lt_of_lt_of_le (h.mlt i hi) hO.size⟩
theorem check_few {c : Cmd} (h : c.check = 0) : c.events.length ≤ 8 := by
  have hz := check_zero h
  by_cases hk : c.kind = 1
  · exact (hz.2.2.2.2 hk).2
  · unfold Cmd.check at h
    have hsp : c.spare = false := by
      cases hs : c.spare with
      | false => rfl
      | true =>
        rw [hs] at h
        simp only [if_true] at h
        repeat (split at h; first | omega | skip)
        all_goals omega
    unfold Cmd.spare at hsp
    simp only [Bool.or_eq_false_iff, Bool.and_eq_false_iff, decide_eq_false_iff_not] at hsp
    have := hsp.1.2
    omega
set_option maxRecDepth 100000 in
set_option maxHeartbeats 4000000 in
theorem do_act {w : World} {M : List Nat} {sb mb N : Nat} {av ev : Value} {pf : ByteArray → Value} {s : MS} {c : Cmd} (h : StAt w M sb mb av pf s) (hs : s.Ok N) (hN : N ≤ 100000) (hc : CmdOk c)
    (he : Rd M w 4 ev c.events.length (c.events.flatMap EventR.cells)) (hk : c.check = 0) (hm : ¬ (c.kind = 4 ∨ c.kind = 5)) (hd : (s.find c.stream).deleted = false) :
    Calls Tryz.prog 9 #[.pointer (some ⟨sb, 0, none⟩), c.val ev] w fun e w' => e = .returned (s.do c).1.val ∧ StLeads w M sb mb av (s.do c).2 w' := by
  obtain ⟨A1, cap1, hev, hn3, hn4, hes⟩ := he.1.openE EventR.cells (fun _ => rfl)
  obtain ⟨A2, cap2, hav, hnc2, hcm2, hel2⟩ := h.cell
  unfold maxLen at hn4 hcm2
  have hsb := h.blk.lt
  subst hev
  have HCk := Lib.hid (fun (W : World) (hw : Only [] w W) => show Calls Tryz.prog 20 #[.agg #[.int .i64 c.kind, .int .i64 c.time, .string c.stream, .int .i64 c.expected, .slice A1 c.events.length cap1, .int .i64 c.mt.maxCount, .int .i64 c.mt.maxAge, .int .i64 c.mt.before]] W fun e w' => e = .returned (.int .i64 c.check) ∧ Only [] W w' from check_any c _ W (he.1.only0 hw) hc)
  have h2 : ∀ o1 o2, Only [] w ((w.alloc o1).alloc o2) := fun o1 o2 => ((Only.refl [] w).alloc o1).alloc o2
  have kC : ∀ cs t o2, Blk ((w.alloc (.cells cs t)).alloc o2) w.heap.size t cs := fun cs t o2 => ((Only.refl [] _).alloc o2).blk (Blk.new w t cs) (by simp)
  have kA : ∀ cs t o1, Blk ((w.alloc o1).alloc (.cells cs t)) (w.heap.size + 1) t cs := fun cs t o1 => by
    have := Blk.new (w.alloc o1) t cs
    simpa using this
  obtain ⟨R, hR⟩ : ∃ R, R = s.do c := ⟨_, rfl⟩
  rw [← hR]
  have HR := Lib.hid hR
  clear hR
  rw [show c.val (.slice A1 c.events.length cap1) = .agg #[.int .i64 c.kind, .int .i64 c.time, .string c.stream, .int .i64 c.expected, .slice A1 c.events.length cap1, .int .i64 c.mt.maxCount, .int .i64 c.mt.maxAge, .int .i64 c.mt.before] from rfl]
  have HZ := Lib.hid (check_zero hk)
  have HFew := Lib.hid (check_few hk)
  have hxo := hs.xok c.stream
  have HK := Lib.hid hk
  rw [hk] at HCk
  have hk4 : ((c.kind : Int) == 4) = false := by rw [beq_eq_false_iff_ne]; omega
  have hk5 : ((c.kind : Int) == 5) = false := by rw [beq_eq_false_iff_ne]; omega
  have HM := Lib.hid hm
  clear hk hm
  obtain ⟨A3, cap3, hpv3, hn5, hn6, hps⟩ := (h.rd c.stream).1.openI
  have hfd : ∀ (W : World) (t : Int), StAt W M sb mb av pf { s with now := t, done := s.done + 1 } → Calls Tryz.prog 21 #[.pointer (some ⟨sb, 0, none⟩), .string c.stream] W fun e w' => e = .returned (.agg #[.slice A3 (s.find c.stream).places.length cap3, .int .i64 (s.find c.stream).mt.maxCount, .int .i64 (s.find c.stream).mt.maxAge, .int .i64 (s.find c.stream).mt.before, .int .i64 (s.find c.stream).floor, .bool (s.find c.stream).deleted]) ∧ Only [] W w' := fun W t hst => by
    have q := find_any hst c.stream
    rw [show pvOf { s with now := t, done := s.done + 1 } pf c.stream = pvOf s pf c.stream from rfl, hpv3] at q
    exact q
  have HFd := Lib.hid hfd
  clear hfd
  obtain ⟨x, hx⟩ : ∃ x, x = s.find c.stream := ⟨_, rfl⟩
  rw [← hx] at HFd
  have HXf := Lib.hid hx
  have hdn := IntWalk.i64_in (s.done + 1) ⟨by have := hs.done; omega, by have := hs.done; omega⟩
  have hne0 : w.heap.size ≠ sb := by omega
  rw [← hx] at hd hxo
  rw [hd] at HFd
  have HD := Lib.hid hd
  have hal : s.all.length ≤ 800000 := by have := hs.all; omega
  obtain ⟨t0, ht0⟩ : ∃ t0, t0 = max s.now c.time := ⟨_, rfl⟩
  have htb : 0 ≤ t0 ∧ t0 ≤ 1099511627776 := by
    have h1 := hs.now
    have h2 := HZ.out.2.2.1
    omega
  obtain ⟨s1, hs1⟩ : ∃ s1 : MS, s1 = { s with now := t0, done := s.done + 1 } := ⟨_, rfl⟩
  obtain ⟨M1, hM1⟩ : ∃ M1, M1 = (w.heap.size + 1) :: M := ⟨_, rfl⟩
  have hM1i : ∀ g ∈ M, g ∈ M1 := fun g hg => by rw [hM1]; exact List.mem_cons_of_mem _ hg
  have hM1o : ∀ g ∈ M1, g ∈ M ∨ w.heap.size ≤ g := fun g hg => by rw [hM1] at hg; simp at hg; rcases hg with rfl | hg; exact .inr (by omega); exact .inl hg
  have hxo1 : XOk s1 x := by rw [hs1]; exact ⟨hxo.mt, hxo.fl, hxo.pl, hxo.few⟩
  obtain ⟨fo, hfo⟩ : ∃ fo, fo = s1.floorOf x := ⟨_, rfl⟩
  have hfb := floorOf_bd s1 x
  rw [← hfo] at hfb
  have hpl3 : ∀ W, StAt W M1 sb mb av pf s1 → Rd M1 W 1 (.slice A3 x.places.length cap3) x.places.length (ints x.places) := fun W hW => by
    have q := hW.rd c.stream
    rw [hs1] at q
    rw [show pvOf { s with now := t0, done := s.done + 1 } pf c.stream = pvOf s pf c.stream from rfl, hpv3] at q
    rw [hx]
    exact q
  have hfl : ∀ W, StAt W M1 sb mb av pf s1 → Calls Tryz.prog 22 #[.pointer (some ⟨sb, 0, none⟩), .agg #[.slice A3 x.places.length cap3, .int .i64 x.mt.maxCount, .int .i64 x.mt.maxAge, .int .i64 x.mt.before, .int .i64 x.floor, .bool false]] W fun e w' => e = .returned (.int .i64 fo) ∧ Only [] W w' := fun W hW => by
    have q := floorOf_any (x := x) hW (by rw [hs1]; exact htb) (hpl3 W hW).1 hxo1.pl (by have := hxo.few; omega) hxo1.mt hxo1.fl
    rw [← hfo] at q
    unfold StreamR.val at q
    rw [HD.out] at q
    exact q
  have hxo2 : XOk s1 { x with floor := fo } := ⟨hxo1.mt, hfb, hxo1.pl, hxo1.few⟩
  obtain ⟨q, hq⟩ : ∃ q, q = s1.act c { x with floor := fo } := ⟨_, rfl⟩
  have hac : ∀ W, StAt W M1 sb mb av pf s1 → Only [sb] w W → Calls Tryz.prog 23 #[.pointer (some ⟨sb, 0, none⟩), .agg #[.int .i64 c.kind, .int .i64 c.time, .string c.stream, .int .i64 c.expected, .slice A1 c.events.length cap1, .int .i64 c.mt.maxCount, .int .i64 c.mt.maxAge, .int .i64 c.mt.before], .agg #[.slice A3 x.places.length cap3, .int .i64 x.mt.maxCount, .int .i64 x.mt.maxAge, .int .i64 x.mt.before, .int .i64 fo, .bool false]] W fun e w' => ∃ Aq capq, e = .returned (.tuple #[.agg #[.int .i64 q.1.err, .int .i64 q.1.version, .int .i64 q.1.position, .bool q.1.again], .agg #[.slice Aq q.2.1.places.length capq, .int .i64 q.2.1.mt.maxCount, .int .i64 q.2.1.mt.maxAge, .int .i64 q.2.1.mt.before, .int .i64 q.2.1.floor, .bool q.2.1.deleted]]) ∧ ActLeads W M1 sb mb av pf q.2.1 q.2.2 (.slice Aq q.2.1.places.length capq) w' := fun W hW hO => by
    have r := act_any (x := { x with floor := fo }) (c := c) hW hxo2 (hpl3 W hW) ((he.ext hM1o).only hO (by simpa using hM1i _ h.inM.1)) (by rw [hs1]; show s.all.length ≤ 1000000; omega) (by rw [hs1]; exact htb) (fun hk => HZ.out.2.2.2.2 (by have := HZ.out; have := HM.out; omega))
    rw [← hq] at r
    unfold StreamR.val at r
    rw [HD.out] at r
    refine r.mono ?_
    rintro e w' ⟨pv', rfl, hA⟩
    obtain ⟨M', av', hst, hrd, hr⟩ := hA
    obtain ⟨Aq, capq, rfl, _⟩ := hrd.1.openI
    exact ⟨Aq, capq, rfl, M', av', hst, hrd, hr⟩
  have hqx := act_xok hxo2 HZ.out.2.2.2.1
  rw [← hq] at hqx
  have hq10 : q.2.2.all.length ≤ 1000000000 := by
    have q1 := hqx.2.2.2.2.2
    have q2 : s1.all.length = s.all.length := by rw [hs1]
    have := HFew.out
    omega
  have hkp : ∀ W M' av' Aq capq, StAt W M' sb mb av' pf q.2.2 → Rd M' W 1 (.slice Aq q.2.1.places.length capq) q.2.1.places.length (ints q.2.1.places) → Calls Tryz.prog 24 #[.pointer (some ⟨sb, 0, none⟩), .string c.stream, .agg #[.slice Aq q.2.1.places.length capq, .int .i64 q.2.1.mt.maxCount, .int .i64 q.2.1.mt.maxAge, .int .i64 q.2.1.mt.before, .int .i64 q.2.1.floor, .bool q.2.1.deleted]] W fun e w' => e = .returned (.tuple #[]) ∧ (∃ pf', StAt w' M' sb mb av' pf' (q.2.2.keep c.stream q.2.1)) ∧ Only [mb] W w' := fun W M' av' Aq capq hW hR => by
    have r := keep_any (N := 0) hW (by rw [hqx.2.1, hs1]; exact htb) (hq10) hqx.1 c.stream hR
    refine r.mono ?_
    rintro e w' ⟨rfl, h1, h2⟩
    exact ⟨rfl, ⟨_, h1⟩, h2⟩
  have HKp := Lib.hid hkp
  have HFl := Lib.hid hfl
  have HAc := Lib.hid hac
  have HQ := Lib.hid hq
  have HQX := Lib.hid hqx
  have HFo := Lib.hid hfo
  have HM1 := Lib.hid hM1
  have HM1i := Lib.hid hM1i
  have HM1o := Lib.hid hM1o
  have HS1 := Lib.hid hs1
  have HT0 := Lib.hid ht0
  clear hM1i hM1o hq10 hfl hkp hac hq hqx hfo hd hx hfb hxo hxo1 hxo2
  go_enter Tryz.func9, Tryz.ntmps9
  go_wp2_with (go_at_call 20; refine (HCk.out _ (h2 _ _)).mono ?_; rintro e w1 ⟨rfl, ho1⟩)
  clear hs1 ht0 hM1
  obtain ⟨t, ht⟩ : ∃ t, t = max s.now c.time := ⟨_, rfl⟩
  have hmx : (if s.now < c.time then c.time else s.now) = t := by rw [ht]; split <;> omega
  have hmy : (if c.time > s.now then c.time else s.now) = t := hmx
  have HT := Lib.hid ht
  clear ht
  have bC1 := ho1.blk (kC _ _ _) (by simp)
  have bA1 := ho1.blk (kA _ _ _) (by simp)
  have hO1 : Only [] w w1 := (h2 _ _).trans ho1
  have bS1 := hO1.blk h.blk (by simp)
  have C1 := WithinE.cell (E := fun W => W.cell? ⟨sb, 2, none⟩ = some (.int .i64 s.done)) (S := [sb]) (bC1.cell 1) (by simp; omega)
  have D2 := fun p : WithinE [sb] (fun W => W.cell? ⟨sb, 2, none⟩ = some (.int .i64 s.done)) w1 => p.e
  refine wp_region_inE [sb] [0, 1, 2, 3, 4, 6, 7, 9, 10, 11, 12, 13] [5, 8, 14, 15, 16] [17, 18, 19] (fun W => W.cell? ⟨sb, 2, none⟩ = some (.int .i64 s.done)) (bS1.cell 2) (by kernel_rfl) (by kernel_rfl) (by intro c d u a w h; cases d <;> exact h) ?_
  intro hne
  show wpQuiet _ _ _ _ [_, _, _, _, _, _, _, _, _, _, _, _] _
  repeat (go_big_quiet_step (fail))
  refine wpQuiet_nil ?_
  show wpList _ _ _ [_] _ _
  have hSf := fun i => bS1.free i
  have hSc := fun i => bS1.cell i
  have N3 : w1.drew.cell? ⟨sb, 3, none⟩ = some (.int .i64 s.now) := bS1.cell 3
  go_wp2_with fail
  refine check_ofE (S := [sb]) (Only.refl _ _).drew (bS1.cell 2) ?_
  show wpList _ _ _ [_] _ _
  go_wp2_with fail
  refine check_ofE (S := [sb]) (Only.refl _ _).drew (bS1.cell 2) ?_
  show wpList _ _ _ [_] _ _
  go_wp2_with fail
  refine check_ofE (S := [sb]) (Only.refl _ _).drew (bS1.cell 2) ?_
  show wpList _ _ _ [_] _ _
  go_wp2_with fail
  refine check_ofE (S := [sb]) (Only.refl _ _).drew (bS1.cell 2) ?_
  show wpList _ _ _ [_] _ _
  go_wp2_with fail
  refine check_ofE (S := [sb]) (((Only.refl _ _).setCell (.inl (by simp)) _).drew) ((bS1.set 3 _).cell 2) ?_
  show wpList _ _ _ [_, _, _] _ _
  have htt : t = t0 := by rw [HT.out, HT0.out]
  have hO2 := fun u v => ((Only.refl [sb] w1).setCell (p := ⟨sb, 3, none⟩) (.inl (by simp)) u).setCell (p := ⟨sb, 2, none⟩) (.inl (by simp)) v
  have hC2 := fun u v i => ((hO2 u v).blk bC1 (by simp; omega)).cell i
  have hC2' := fun u v i => ((hO2 u v).drew.blk bC1 (by simp; omega)).cell i
  have hb0 := (bS1.set 3 (.int .i64 t)).set 2 (.int .i64 (s.done + 1))
  have hT2 := StAt.ticked h (hO1.of_nil.trans (hO2 (.int .i64 t) (.int .i64 (s.done + 1)))) hb0
  have hT3 := hT2.only0 (Only.refl [] _).drew
  have kA2 := fun u v => (hO2 u v).drew.blk bA1 (by simp; omega)
  subst htt
  have hT4 := StAt.tickedMore h (hO1.of_nil.trans (hO2 (.int .i64 t) (.int .i64 (s.done + 1)))) hb0 (w.heap.size + 1) (by omega) (by have q1 := ho1.size; simp [World.setCell] at q1 ⊢; omega)
  rw [← HM1.out] at hT4
  have hT5 := hT4.only0 (Only.refl [] _).drew
  rw [← HS1.out] at hT4 hT5
  go_wp2_with (first
    | (go_at_call 21; refine (HFd.out _ _ (by first | exact hT3 | exact hT2)).mono ?_; rintro e w2 ⟨rfl, ho2⟩; have hb2 := fun o : Obj => ((Only.refl [] w2).alloc o)
       have hX2 := fun cs t i => (Blk.new w2 t cs).cell i; have hX2f := fun cs t i => (Blk.new w2 t cs).free i)
    | (go_at_call 22; refine (HFl.out _ ((hT5.only0 ho2).only0 (hb2 _))).mono ?_; rintro e w3 ⟨rfl, ho3⟩; have hX3 := fun i => (ho3.blk (Blk.new w2 _ _) (by simp)).cell i; have hX3f := fun i => (ho3.blk (Blk.new w2 _ _) (by simp)).free i
       have hC3 := fun i => (ho3.blk (((Only.refl [] w2).alloc _).blk (ho2.blk ((hO2 _ _).drew.blk bC1 (by simp; omega)) (by simp)) (by simp)) (by simp)).cell i
       have hn3 : w.heap.size ≠ w2.heap.size := by have q1 := ho1.size; have q2 := ho2.size; simp at q1 q2; omega
       have hO3 := fun u => ((((Only.refl [] w2).alloc _).trans ho3).setCell (p := ⟨w2.heap.size, 4, none⟩) (.inr (Nat.le_refl _)) u)
       have hC3' := fun u i => ((((Only.refl [w2.heap.size] w3).setCell (p := ⟨w2.heap.size, 4, none⟩) (.inl (by simp)) u).blk (ho3.blk (((Only.refl [] w2).alloc _).blk (ho2.blk ((hO2 _ _).drew.blk bC1 (by simp; omega)) (by simp)) (by simp)) (by simp)) (by simpa using hn3))).cell i)
    | (go_at_call 23; refine (HAc.out _ ((hT5.only0 ho2).only0 (hO3 _)) (((hO1.of_nil.trans (hO2 _ _)).drew.trans ho2.of_nil).trans (hO3 _).of_nil)).mono ?_; rintro e w4 ⟨Aq, capq, rfl, M', av', hst, hrd, hO4, hin, hnew, hav'⟩
       have hnM : w.heap.size ∉ hM sb mb av := fun q => by have := h.lt _ q; omega
       have hC4 := fun o1 o2 i => ((((Only.refl [] w4).alloc o1).alloc o2).blk (hO4.blk ((((Only.refl [w2.heap.size] w3).setCell (p := ⟨w2.heap.size, 4, none⟩) (.inl (by simp)) _).blk (ho3.blk (((Only.refl [] w2).alloc _).blk (ho2.blk ((hO2 _ _).drew.blk bC1 (by simp; omega)) (by simp)) (by simp)) (by simp)) (by simpa using hn3))) hnM) (by simp)).cell i
       have hY4 := fun o1 cs i => by
         have := (Blk.new (w4.alloc o1) 75 cs).cell i
         rw [World.size_alloc] at this
         exact this)
    | (go_at_call 24; refine (HKp.out _ _ _ _ _ (hst.only0 (((Only.refl [] w4).alloc _).alloc _)) (hrd.only0 (((Only.refl [] w4).alloc _).alloc _))).mono ?_; rintro e w5 ⟨rfl, ⟨pf', hs5⟩, ho5⟩
       have hm4 : w4.heap.size ≠ mb := by have q1 := h.map.lt; have q2 := hO4.size; have q3 := ho3.size; have q4 := ho2.size; have q5 := hO1.size; simp [World.setCell] at q1 q2 q3 q4 q5; omega
       have hnA : w.heap.size + 1 ≠ w2.heap.size := by have q1 := ho1.size; have q2 := ho2.size; simp [World.setCell] at q1 q2; omega
       have hnA2 : w.heap.size + 1 ∉ hM sb mb av := fun q => by have := h.lt _ q; omega
       have hnA3 : w.heap.size + 1 ≠ mb := by have := h.map.lt; omega
       have hB5 := ho5.blk ((((Only.refl [] w4).alloc _).alloc _).blk (hO4.blk ((((Only.refl [w2.heap.size] w3).setCell (p := ⟨w2.heap.size, 4, none⟩) (.inl (by simp)) _).blk (ho3.blk (((Only.refl [] w2).alloc _).blk (ho2.blk (kA2 _ _) (by simp)) (by simp)) (by simp)) (by simpa using hnA))) hnA2) (by simp)) (by simpa using hnA3)
       have hB5c := fun i => hB5.cell i
       have hB5f := fun i => hB5.free i
       have hA5 := fun i => (ho5.blk (((Only.refl [] _).alloc _).blk (Blk.new w4 34 _) (by simp)) (by simpa using hm4)).cell i))
  have hR := HR.out
  subst hR
  have hE : s.do c = (q.1, q.2.2.keep c.stream q.2.1) := by
    unfold MS.do
    rw [if_neg (by rw [HK.out]; decide)]
    dsimp only
    rw [if_neg HM.out]
    have e1 : s.tick c.time = s1 := by
      rw [HS1.out, HT.out]
      rfl
    have e2 : s1.find c.stream = x := by
      rw [HS1.out, HXf.out]
      rfl
    rw [e1, e2, if_neg (by rw [HD.out]; decide), ← HFo.out, ← HQ.out]
  refine bodyPost_ret (v := .agg #[.int .i64 q.1.err, .int .i64 q.1.version, .int .i64 q.1.position, .bool q.1.again]) (by simp [results, Tryz.results9, go_sem, hB5c]) rfl ?_
  rw [hE]
  have hMw : w.heap.size + 1 ∈ M' := hin _ (by rw [HM1.out]; simp)
  have hall := fun u => ((hO1.of_nil.trans (hO2 (.int .i64 t) (.int .i64 (s.done + 1)))).drew.trans ho2.of_nil).trans (S := [sb]) (hO3 u).of_nil
  have hbig : w.heap.size + 1 < w2.heap.size := by have q1 := ho1.size; have q2 := ho2.size; simp [World.setCell] at q1 q2; omega
  have hbig3 : w2.heap.size + 1 ≤ w3.heap.size := by have q1 := ho3.size; simpa using q1
  have hvn : ∀ g, av'.ownBlock = some g → av.ownBlock = some g ∨ w.heap.size + 1 < g := fun g hg => by
    rcases hav' g hg with q | q
    · exact .inl q
    · simp [World.setCell] at q
      exact .inr (by omega)
  refine ⟨rfl, M', av', pf', hs5.only (S := [w.heap.size + 1]) ?ho (by simpa using hMw) (fun g hg => ?hg), ?hw, fun g hg => hin _ (HM1i.out g hg), fun g hg => ?hn, fun g hg => ?hv⟩
  case ho =>
    iterate 4 (refine Only.setCell ?_ (.inl (by simp)) _)
    exact Only.refl _ _
  case hw =>
    iterate 4 (refine Only.setCell ?_ (.inr (by simp <;> omega)) _)
    exact (((((hall _).mono (by simp [hM])).trans hO4).alloc _).alloc _).trans (ho5.mono (by simp [hM]))
  case hg =>
    simp only [hM, List.mem_cons, Option.mem_toList] at hg
    simp only [List.mem_singleton]
    rcases hg with rfl | rfl | hg
    · omega
    · exact fun e => hnA3 e.symm
    · rcases hvn g hg with q | q
      · have := h.own_lt g q
        omega
      · omega
  case hn =>
    rcases hnew g hg with q | q
    · exact HM1o.out g q
    · simp [World.setCell] at q
      exact .inr (by omega)
  case hv =>
    rcases hvn g hg with q | q
    · exact .inl q
    · exact .inr (by omega)
/-- Do, of whatever state and command. -/
theorem do_any {w : World} {M : List Nat} {sb mb N : Nat} {av ev : Value} {pf : ByteArray → Value} {s : MS} {c : Cmd} (h : StAt w M sb mb av pf s) (hs : s.Ok N) (hN : N ≤ 100000) (hc : CmdOk c)
    (he : Rd M w 4 ev c.events.length (c.events.flatMap EventR.cells)) :
    Calls Tryz.prog 9 #[.pointer (some ⟨sb, 0, none⟩), c.val ev] w fun e w' => e = .returned (s.do c).1.val ∧ StLeads w M sb mb av (s.do c).2 w' := by
  by_cases hk : c.check = 0
  · by_cases hm : c.kind = 4 ∨ c.kind = 5
    · exact do_mark h hs hN hc he hk hm
    · cases hd : (s.find c.stream).deleted
      · exact do_act h hs hN hc he hk hm hd
      · exact do_gone h hs hN hc he hk hm hd
  · exact do_bad h hs hN hc he hk
end Go.Proofs.YteinoiicnmemhaaGreatDoor
/- What Do keeps of a state's numbers. -/
set_option linter.unusedVariables false
set_option linter.unusedSimpArgs false
namespace Go.Proofs.YteinoiicnmemhaaGreatDoor
open Go.RowKit
theorem aput_mem {κ ν : Type} [DecidableEq κ] {l : List (κ × ν)} {k : κ} {v : ν} {p : κ × ν} (h : p ∈ aput l k v) : p = (k, v) ∨ p ∈ l := by
  induction l with
  | nil => simp [aput] at h; exact .inl h
  | cons q l ih =>
    obtain ⟨a, b⟩ := q
    simp only [aput] at h
    split at h
    · simp only [List.mem_cons] at h ⊢
      rcases h with h | h
      · exact .inl h
      · exact .inr (.inr h)
    · simp only [List.mem_cons] at h ⊢
      rcases h with h | h
      · exact .inr (.inl h)
      · exact (ih h).imp id .inr
namespace MS
variable {s : MS} {N : Nat} {c : Cmd}
theorem Ok.more (h : s.Ok N) {N' : Nat} (hn : N ≤ N') : s.Ok N' :=
  ⟨h.now, ⟨h.done.1, by have := h.done.2; omega⟩, by have := h.all; omega, h.st⟩
theorem Ok.tick (h : s.Ok N) {t : Int} (ht : 0 ≤ t ∧ t ≤ 1099511627776) : (s.tick t).Ok (N + 1) :=
  ⟨by show 0 ≤ max s.now t ∧ max s.now t ≤ _; have := h.now; omega, by show 0 ≤ s.done + 1 ∧ s.done + 1 ≤ _; have := h.done; omega, by show s.all.length ≤ _; have := h.all; omega, h.st⟩
theorem new_ok : MS.new.Ok 0 := ⟨by decide, by decide, by decide, fun n x hx => by cases hx⟩
theorem do_ok (h : s.Ok N) (c : Cmd) : (s.do c).2.Ok (N + 1) := by
  unfold MS.do
  split
  · exact h.more (Nat.le_succ _)
  · rename_i hk
    have hk : c.check = 0 := by simpa using hk
    have hz := check_zero hk
    have hf := check_few hk
    have ht := h.tick (t := c.time) hz.2.2.1
    have hal : (s.tick c.time).all.length = s.all.length := rfl
    dsimp only
    split
    · exact ht
    · split
      · exact ht
      · have hx := ht.xok c.stream
        have hb := floorOf_bd (s.tick c.time) ((s.tick c.time).find c.stream)
        have hx2 : XOk (s.tick c.time) { (s.tick c.time).find c.stream with floor := (s.tick c.time).floorOf ((s.tick c.time).find c.stream) } := ⟨hx.mt, hb, hx.pl, hx.few⟩
        have ha := act_xok (c := c) hx2 hz.2.2.2.1
        generalize (s.tick c.time).act c { (s.tick c.time).find c.stream with floor := (s.tick c.time).floorOf ((s.tick c.time).find c.stream) } = r at ha
        obtain ⟨a, y, s2⟩ := r
        obtain ⟨h1, h2, h3, h4, h5, h6⟩ := ha
        dsimp only at h1 h2 h3 h4 h5 h6 ⊢
        refine ⟨?_, ?_, ?_, fun n x hx => ?_⟩
        · show 0 ≤ s2.now ∧ s2.now ≤ _
          rw [h2]
          exact ht.now
        · show 0 ≤ s2.done ∧ s2.done ≤ _
          rw [h4]
          exact ht.done
        · show s2.all.length ≤ _
          have := h.all
          omega
        · have hx' : (n, x) ∈ aput s2.m c.stream { y with floor := s2.floorOf y } := hx
          show _ ∧ _ ∧ _ ∧ x.places.length ≤ s2.all.length ∧ ∀ p ∈ x.places, 0 ≤ p ∧ p < s2.all.length
          rcases aput_mem hx' with q | q
          · cases q
            have hb2 := floorOf_bd s2 y
            exact ⟨h1.mt, hb2.1, hb2.2, h1.few, h1.pl⟩
          · rw [h3] at q
            obtain ⟨e1, e2, e3, e4, e5⟩ := ht.st n x q
            refine ⟨e1, e2, e3, by omega, fun p hp => ?_⟩
            have := e5 p hp
            omega
end MS
end Go.Proofs.YteinoiicnmemhaaGreatDoor
/- Contracts of what only looks: New, Len, Done, Now, Count, Floor, Deleted, MetaOf. -/
set_option linter.unusedVariables false
set_option linter.unusedSimpArgs false
namespace Go.Proofs.YteinoiicnmemhaaGreatDoor
open Go.RowKit
def MS.floorS (s : MS) (n : ByteArray) : Int := s.floorOf (s.find n)
theorem fld1 (W : World) (a b c d e f : Value) : Sem.run Tryz.prog (Instr.field 75 (.agg #[a, b, c, d, e, f]) 1) W = .ok (.agg #[b, c, d]) W := by kernel_rfl
theorem fld3 (W : World) (a b c d e f : Value) : Sem.run Tryz.prog (Instr.field 75 (.agg #[a, b, c, d, e, f]) 3) W = .ok f W := by kernel_rfl
set_option maxRecDepth 100000 in
theorem newS_any (w : World) (pf : ByteArray → Value) : Calls Tryz.prog 8 #[] w fun e w' => e = .returned (.pointer (some ⟨w.heap.size + 1, 0, none⟩)) ∧ StAt w' [w.heap.size + 1, w.heap.size] (w.heap.size + 1) w.heap.size (.slice none 0 0) pf MS.new ∧ Only [] w w' := by
  have hmm := @run_makeMap Tryz.prog
  go_enter Tryz.func8, Tryz.ntmps8
  go_wp2
  go_ret
  refine ⟨rfl, ⟨?_, World.ownsRow_nil _ _ _ _, (MapIs.new Value.string w).alloc _, (fun n x hx => by simp [MS.new] at hx), ⟨by simp, by simp, (fun g hg => by cases hg)⟩, (fun g hg => ?_)⟩, ((Only.refl [] w).alloc _).alloc _⟩
  · have := Blk.new (w.alloc (.map #[] 0)) 72 #[.slice none 0 0, .map (some w.heap.size), .int .i64 0, .int .i64 0]
    simpa [MS.new] using this
  · simp at hg ⊢
    omega
section
variable {w : World} {M : List Nat} {sb mb N : Nat} {av : Value} {pf : ByteArray → Value} {s : MS}
set_option maxRecDepth 100000 in
theorem lenS_any (h : StAt w M sb mb av pf s) : Calls Tryz.prog 142 #[.pointer (some ⟨sb, 0, none⟩)] w fun e w' => e = .returned (.int .i64 s.all.length) ∧ w = w' := by
  obtain ⟨A2, cap2, rfl, hnc2, hcm2, hel2⟩ := h.cell
  unfold maxLen at hcm2
  have c0 : w.cell? ⟨sb, 0, none⟩ = some (.slice A2 s.all.length cap2) := h.blk.cell 0
  clear hel2
  go_enter Tryz.func142, Tryz.ntmps142
  go_wp2
  go_ret
  exact ⟨rfl, rfl⟩
set_option maxRecDepth 100000 in
theorem findv (h : StAt w M sb mb av pf s) (n : ByteArray) : ∃ A cap, pvOf s pf n = .slice A (s.find n).places.length cap ∧ cap ≤ maxLen ∧ ∀ W, Only [] w W → Calls Tryz.prog 21 #[.pointer (some ⟨sb, 0, none⟩), .string n] W fun e w' => e = .returned (.agg #[.slice A (s.find n).places.length cap, .int .i64 (s.find n).mt.maxCount, .int .i64 (s.find n).mt.maxAge, .int .i64 (s.find n).mt.before, .int .i64 (s.find n).floor, .bool (s.find n).deleted]) ∧ Only [] W w' := by
  obtain ⟨A, cap, hpv, h1, h2, _⟩ := (h.rd n).1.openI
  refine ⟨A, cap, hpv, h2, fun W hW => ?_⟩
  have := find_any (h.only0 hW) n
  rw [hpv] at this
  exact this
set_option maxRecDepth 100000 in
theorem deletedS_any (h : StAt w M sb mb av pf s) (n : ByteArray) : Calls Tryz.prog 38 #[.pointer (some ⟨sb, 0, none⟩), .string n] w fun e w' => e = .returned (.bool (s.find n).deleted) ∧ Only [] w w' := by
  obtain ⟨A, cap, _, hcm, hf⟩ := findv h n
  have HF := Lib.hid hf
  clear hf
  have hq := fld3
  go_enter Tryz.func38, Tryz.ntmps38
  go_wp2_with (go_at_call 21; refine (HF.out _ (Only.refl _ _)).mono ?_; rintro e w1 ⟨rfl, ho1⟩)
  go_ret
  exact ⟨rfl, ho1⟩
set_option maxRecDepth 100000 in
theorem metaOfS_any (h : StAt w M sb mb av pf s) (n : ByteArray) : Calls Tryz.prog 39 #[.pointer (some ⟨sb, 0, none⟩), .string n] w fun e w' => e = .returned (s.find n).mt.val ∧ Only [] w w' := by
  obtain ⟨A, cap, _, hcm, hf⟩ := findv h n
  have HF := Lib.hid hf
  unfold MetaR.val
  clear hf
  have hq := fld1
  go_enter Tryz.func39, Tryz.ntmps39
  go_wp2_with (go_at_call 21; refine (HF.out _ ((Only.refl _ _).alloc _)).mono ?_; rintro e w1 ⟨rfl, ho1⟩
               have hf := fun i => (ho1.blk (Blk.new w 38 _) (by simp)).free i
               have hc := fun i => (ho1.blk (Blk.new w 38 _) (by simp)).cell i)
  refine bodyPost_ret (v := .agg #[.int .i64 (s.find n).mt.maxCount, .int .i64 (s.find n).mt.maxAge, .int .i64 (s.find n).mt.before]) (by simp [results, Tryz.results39, go_sem, hc]) rfl ⟨rfl, ?hw⟩
  case hw =>
    iterate 3 (refine Only.setCell ?_ (.inr (Nat.le_refl _)) _)
    exact ((Only.refl [] w).alloc _).trans ho1
set_option maxRecDepth 100000 in
theorem floorS_any (h : StAt w M sb mb av pf s) (hs : s.Ok N) (hN : N ≤ 100000) (n : ByteArray) : Calls Tryz.prog 37 #[.pointer (some ⟨sb, 0, none⟩), .string n] w fun e w' => e = .returned (.int .i64 (s.floorS n)) ∧ Only [] w w' := by
  obtain ⟨A, cap, hpv, hcm, hf⟩ := findv h n
  have hx := hs.xok n
  have hal := hs.all
  have hfl : ∀ W, Only [] w W → Calls Tryz.prog 22 #[.pointer (some ⟨sb, 0, none⟩), .agg #[.slice A (s.find n).places.length cap, .int .i64 (s.find n).mt.maxCount, .int .i64 (s.find n).mt.maxAge, .int .i64 (s.find n).mt.before, .int .i64 (s.find n).floor, .bool (s.find n).deleted]] W fun e w' => e = .returned (.int .i64 (s.floorS n)) ∧ Only [] W w' := fun W hW => by
    have hW' := h.only0 hW
    have hr := (hW'.rd n).1
    rw [hpv] at hr
    exact floorOf_any (x := s.find n) hW' hs.now hr hx.pl (by have := hx.few; omega) hx.mt hx.fl
  have HF := Lib.hid hf
  have HG := Lib.hid hfl
  clear hf hfl hpv hx hal hcm
  go_enter Tryz.func37, Tryz.ntmps37
  go_wp2_with (first
    | (go_at_call 21; refine (HF.out _ (Only.refl _ _)).mono ?_; rintro e w1 ⟨rfl, ho1⟩)
    | (go_at_call 22; go_loud (refine (HG.out _ ho1).mono ?_; rintro e w2 ⟨rfl, ho2⟩)))
  go_ret
  exact ⟨rfl, ho1.trans ho2⟩
end
/-! ## of a nil state -/
end Go.Proofs.YteinoiicnmemhaaGreatDoor
/- Contracts: pages forward. -/
set_option linter.unusedVariables false
set_option linter.unusedSimpArgs false
namespace Go.Proofs.YteinoiicnmemhaaGreatDoor
open Go.RowKit
structure PageR where
  events : List StoredR
  next : Int
  isEnd : Bool
def PageR.zero : PageR := ⟨[], 0, false⟩
def wrongP (f n : Int) : Bool := decide (f < 0) || decide (n < 1) || decide (n > 100)
def fwdGo (key : StoredR → Int) (f n : Int) : List StoredR → List StoredR → Int → PageR
  | [], acc, nx => ⟨acc, nx, true⟩
  | s :: l, acc, nx => if key s < f then fwdGo key f n l acc nx else if (acc.length : Int) = n then ⟨acc, nx, false⟩ else fwdGo key f n l (acc ++ [s]) (key s + 1)
def forwardBy (key : StoredR → Int) (l : List StoredR) (f n : Int) : PageR × Int := if wrongP f n then (PageR.zero, 1) else (fwdGo key f n l [] f, 0)
theorem fwdGo_drop (key : StoredR → Int) (f n : Int) (l : List StoredR) (k : Nat) (h : k < l.length) (acc : List StoredR) (nx : Int) :
    fwdGo key f n (l.drop k) acc nx = if key l[k] < f then fwdGo key f n (l.drop (k + 1)) acc nx else if (acc.length : Int) = n then ⟨acc, nx, false⟩ else fwdGo key f n (l.drop (k + 1)) (acc ++ [l[k]]) (key l[k] + 1) := by
  rw [List.drop_eq_getElem_cons h]
  rfl
def StoredR.val (s : StoredR) : Value := .agg #[.int .i64 s.ev.id, .string s.ev.type, .string s.ev.data, .float .f64 s.ev.value, .string s.stream, .int .i64 s.version, .int .i64 s.position, .int .i64 s.time]
set_option maxRecDepth 100000 in
theorem version_any (s : StoredR) (w : World) : Calls Tryz.prog 115 #[.agg #[.int .i64 s.ev.id, .string s.ev.type, .string s.ev.data, .float .f64 s.ev.value, .string s.stream, .int .i64 s.version, .int .i64 s.position, .int .i64 s.time]] w fun e w' => e = .returned (.int .i64 s.version) ∧ Only [] w w' := by
  go_enter Tryz.func115, Tryz.ntmps115
  go_wp2
  go_ret
  exact ⟨rfl, (Only.refl [] w).alloc _⟩
set_option maxRecDepth 100000 in
theorem position_any (s : StoredR) (w : World) : Calls Tryz.prog 143 #[.agg #[.int .i64 s.ev.id, .string s.ev.type, .string s.ev.data, .float .f64 s.ev.value, .string s.stream, .int .i64 s.version, .int .i64 s.position, .int .i64 s.time]] w fun e w' => e = .returned (.int .i64 s.position) ∧ Only [] w w' := by
  go_enter Tryz.func143, Tryz.ntmps143
  go_wp2
  go_ret
  exact ⟨rfl, (Only.refl [] w).alloc _⟩
theorem vwrong_any (f n : Int) (w : World) : Calls Tryz.prog 144 #[.int .i64 f, .int .i64 n] w fun e w' => e = .returned (.bool (wrongP f n)) ∧ w = w' := by
  by_cases h1 : f < 0
  · go_enter Tryz.func144, Tryz.ntmps144
    go_wp2
    go_ret
    exact ⟨ret_b (by simp [wrongP, h1]), rfl⟩
  · by_cases h2 : n < 1
    · go_enter Tryz.func144, Tryz.ntmps144
      go_wp2
      go_ret
      exact ⟨ret_b (by simp [wrongP]; omega), rfl⟩
    · go_enter Tryz.func144, Tryz.ntmps144
      go_wp2
      go_ret
      exact ⟨ret_b (by simp [wrongP]; omega), rfl⟩
theorem vnext_any (n : Int) (hn : 0 ≤ n ∧ n ≤ 1000000000000) (w : World) : Calls Tryz.prog 146 #[.int .i64 n] w fun e w' => e = .returned (.int .i64 (n + 1)) ∧ w = w' := by
  have h1 : (n == 9223372036854775807) = false := by rw [beq_eq_false_iff_ne]; omega
  go_enter Tryz.func146, Tryz.ntmps146
  go_wp2
  go_ret
  exact ⟨rfl, rfl⟩
/-- What stands at the head of a round of a page. -/
structure PgAt (w wr : World) (pb : Nat) (pv : Value) (acc : List StoredR) (nx : Int) : Prop where
  only : Only [] w wr
  blkR : Blk wr w.heap.size 57 #[.slice none 0 0, .int .i64 0, .bool false]
  blkP : Blk wr pb 57 #[pv, .int .i64 nx, .bool true]
  own : wr.ownsRow w.heap.size 92 8 pv acc.length (acc.flatMap StoredR.cells)
theorem PgAt.only0 {w wr w' : World} {pb : Nat} {pv : Value} {acc : List StoredR} {nx : Int} (h : PgAt w wr pb pv acc nx) (k : Only [] wr w') : PgAt w w' pb pv acc nx :=
  ⟨h.only.trans k, k.blk h.blkR (by simp), k.blk h.blkP (by simp), own_only h.own k (by simp)⟩
theorem PgAt.nown {w wr : World} {pb : Nat} {pv : Value} {acc : List StoredR} {nx : Int} (h : PgAt w wr pb pv acc nx) : ∀ g, pv.ownBlock = some g → g ≠ w.heap.size ∧ g ≠ pb := fun g hg => by
  obtain ⟨cur, hcur⟩ := own_type h.own hg
  exact ⟨hcur.other h.blkR (by decide), hcur.other h.blkP (by decide)⟩
theorem flat_snoc {E : Type} (cells : E → List Value) (l : List E) (x : E) : (l ++ [x]).flatMap cells = l.flatMap cells ++ cells x := by simp
/-- What a page's call leaves. -/
def PageOut (w : World) (key : StoredR → Int) (l : List StoredR) (f n : Int) (r : PageR × Int) (e : Ending) (w' : World) : Prop :=
  ∃ pv, e = .returned (.tuple #[.agg #[pv, .int .i64 r.1.next, .bool r.1.isEnd], .int .i64 r.2]) ∧ w'.ownsRow w.heap.size 92 8 pv r.1.events.length (r.1.events.flatMap StoredR.cells) ∧ Only [] w w'
set_option maxRecDepth 100000 in
set_option maxHeartbeats 4000000 in
theorem forwardV_any {w : World} {v : Value} {l : List StoredR} {f n : Int} (hl : Slc w 8 v l.length (l.flatMap StoredR.cells)) (hb : l.length ≤ 1000000) (hk : ∀ s ∈ l, 0 ≤ StoredR.version s ∧ StoredR.version s ≤ 1000000000) :
    Calls Tryz.prog 117 #[.func (.func 115) #[] #[], v, .int .i64 f, .int .i64 n] w (PageOut w StoredR.version l f n (forwardBy StoredR.version l f n)) := by
  obtain ⟨A, cap, rfl, hnc, hcm, hel⟩ := hl.openE StoredR.cells (fun _ => rfl)
  obtain ⟨j0, hj, hy0, hy1, hy2⟩ := info_parts infoSt
  unfold maxLen at hcm
  cases hw : wrongP f n with
  | true =>
    have HW := Lib.hid hw
    have HV := Lib.hid (fun W => vwrong_any f n W)
    rw [hw] at HV
    clear hel hw
    have hR : forwardBy StoredR.version l f n = (PageR.zero, 1) := by unfold forwardBy; rw [HW.out]; rfl
    rw [hR]
    clear hR
    go_enter Tryz.func117, Tryz.ntmps117
    go_wp2_with (go_at_call 144; refine (HV.out _).mono ?_; rintro e w1 ⟨rfl, rfl⟩)
    exact bodyPost_ret (v := .tuple #[.agg #[.slice none 0 0, .int .i64 0, .bool false], .int .i64 1]) (by simp [results, Tryz.results117, go_sem]) rfl ⟨_, rfl, World.ownsRow_nil _ _ _ _, (Only.refl [] w).alloc _⟩
  | false =>
    have HW := Lib.hid hw
    have HV := Lib.hid (fun W => vwrong_any f n W)
    rw [hw] at HV
    have hn : 1 ≤ n ∧ n ≤ 100 := by simp [wrongP] at hw; omega
    clear hw
    have hR : forwardBy StoredR.version l f n = (fwdGo StoredR.version f n l [] f, 0) := by unfold forwardBy; rw [HW.out]; rfl
    rw [hR]
    clear hR
    obtain ⟨R, hR⟩ : ∃ R, R = fwdGo StoredR.version f n l [] f := ⟨_, rfl⟩
    rw [← hR]
    have HR := Lib.hid hR
    clear hR
    go_enter Tryz.func117, Tryz.ntmps117
    go_wp2_with (go_at_call 144; refine (HV.out _).mono ?_; rintro e w1 ⟨rfl, rfl⟩)
    go_loopw [21] (fun i wr => ∃ (k : Nat) (pv : Value) (acc : List StoredR) (nx : Int), k ≤ l.length ∧ acc.length ≤ k ∧ i = .int .i64 k ∧ Hid (R = fwdGo StoredR.version f n (l.drop k) acc nx) ∧ PgAt w wr (w.heap.size + 1) pv acc nx) (fun i _ => l.length - (intOf i).toNat)
    case atStart =>
      refine ⟨0, .slice none 0 0, [], f, Nat.zero_le _, Nat.le_refl _, rfl, HR, ((Only.refl [] w).alloc _).alloc _, ((Only.refl [] _).alloc _).blk (Blk.new w _ _) (by simp), ?_, World.ownsRow_nil _ _ _ _⟩
      have := Blk.new (w.alloc (.cells #[.slice none 0 0, .int .i64 0, .bool false] 57)) 57 #[.slice none 0 0, .int .i64 f, .bool true]
      simpa using this
    case round =>
      obtain ⟨k, pv, acc, nx, hkl, hak, rfl, HR, hP⟩ := hrel
      obtain ⟨Ap, capp, rfl, hap1, hap2⟩ := own_form hP.own
      have hbR := fun i => hP.blkR.cell i
      have hbRf := fun i => hP.blkR.free i
      have hbP := fun i => hP.blkP.cell i
      have hbPf := fun i => hP.blkP.free i
      by_cases hlt : k < l.length
      · obtain ⟨b, off, rfl, hbb, hcc⟩ := hel k hlt
        have hd := fwdGo_drop StoredR.version f n l k hlt acc nx
        have hks := hk _ (List.getElem_mem hlt)
        obtain ⟨s, hs⟩ : ∃ s, s = l[k] := ⟨_, rfl⟩
        rw [← hs] at hd hcc hks
        have c0 : wr.cell? ⟨b, off + k * 8, none⟩ = some (.int .i64 s.ev.id) := (hP.only.cell hbb (by simp)).trans (hcc 0 (by omega))
        have c1 : wr.cell? ⟨b, off + k * 8 + 1, none⟩ = some (.string s.ev.type) := (hP.only.cell hbb (by simp)).trans (hcc 1 (by omega))
        have c2 : wr.cell? ⟨b, off + k * 8 + 2, none⟩ = some (.string s.ev.data) := (hP.only.cell hbb (by simp)).trans (hcc 2 (by omega))
        have c3 : wr.cell? ⟨b, off + k * 8 + 3, none⟩ = some (.float .f64 s.ev.value) := (hP.only.cell hbb (by simp)).trans (hcc 3 (by omega))
        have c4 : wr.cell? ⟨b, off + k * 8 + 4, none⟩ = some (.string s.stream) := (hP.only.cell hbb (by simp)).trans (hcc 4 (by omega))
        have c5 : wr.cell? ⟨b, off + k * 8 + 5, none⟩ = some (.int .i64 s.version) := (hP.only.cell hbb (by simp)).trans (hcc 5 (by omega))
        have c6 : wr.cell? ⟨b, off + k * 8 + 6, none⟩ = some (.int .i64 s.position) := (hP.only.cell hbb (by simp)).trans (hcc 6 (by omega))
        have c7 : wr.cell? ⟨b, off + k * 8 + 7, none⟩ = some (.int .i64 s.time) := (hP.only.cell hbb (by simp)).trans (hcc 7 (by omega))
        have hKC := Lib.hid (fun W => version_any s W)
        obtain ⟨ky, hky⟩ : ∃ ky, ky = StoredR.version s := ⟨_, rfl⟩
        have HKY := Lib.hid hky
        have hsf := stF
        clear hcc
        by_cases h1 : StoredR.version s < f
        · have HN : Hid (R = fwdGo StoredR.version f n (l.drop (k + 1)) acc nx) := by
            unfold Hid
            rw [HR.out, hd, if_pos h1]
          have HP := Lib.hid hP
          clear hd hP HR hs hel
          go_wp2_with (go_at_call 115; refine (hKC.out _).mono ?_; rintro e w2 ⟨rfl, ho2⟩)
          exact ⟨⟨k + 1, _, acc, nx, hlt, by omega, by simp, HN, HP.out.only0 (((Only.refl [] _).alloc _).trans ho2)⟩, by simp [intOf]; omega⟩
        · by_cases h2 : (acc.length : Int) = n
          · have HN : R = ⟨acc, nx, false⟩ := by
              rw [HR.out, hd, if_neg h1, if_pos h2]
            have h2b : ((acc.length : Int) == n) = true := by rw [beq_iff_eq]; exact h2
            subst HN
            have HP := Lib.hid hP
            clear hd hP HR hs hel
            go_wp2_with (go_at_call 115; refine (hKC.out _).mono ?_; rintro e w2 ⟨rfl, ho2⟩
                         have hP2 := HP.out.only0 (((Only.refl [] _).alloc _).trans ho2)
                         have d1 := fun i => hP2.blkP.cell i
                         have d2 := fun i => hP2.blkP.free i
                         have d3 := fun u v i => (((Only.refl [w.heap.size + 1] w2).setCell (p := ⟨w.heap.size + 1, u, none⟩) (.inl (by simp)) v).blk hP2.blkR (by simp)).cell i
                         have d4 := fun u v i => (((Only.refl [w.heap.size + 1] w2).setCell (p := ⟨w.heap.size + 1, u, none⟩) (.inl (by simp)) v).blk hP2.blkR (by simp)).free i)
            refine bodyPost_ret (v := .tuple #[.agg #[.slice Ap acc.length capp, .int .i64 nx, .bool false], .int .i64 0]) (by simp [results, Tryz.results117, go_sem, d3]) rfl ⟨_, rfl, ?own, ?only⟩
            case own =>
              refine own_only hP2.own (S := [w.heap.size, w.heap.size + 1]) ?_ (fun g hg => by have := hP2.nown g hg; simp; omega)
              iterate 4 (refine Only.setCell ?_ (.inl (by simp)) _)
              exact Only.refl _ _
            case only =>
              iterate 4 (refine Only.setCell ?_ (.inr (by simp)) _)
              exact hP2.only
          · have h2b : ((acc.length : Int) == n) = false := by rw [beq_eq_false_iff_ne]; exact h2
            have HN : Hid (R = fwdGo StoredR.version f n (l.drop (k + 1)) (acc ++ [s]) (StoredR.version s + 1)) := by
              unfold Hid
              rw [HR.out, hd, if_neg h1, if_neg h2]
            have HNX := Lib.hid (fun W => vnext_any (StoredR.version s) ⟨by omega, by omega⟩ W)
            have hakb : acc.length + 1 ≤ 1000001 := by omega
            have HP := Lib.hid hP
            clear hd hP HR hs hel
            go_wp2_with (go_at_call 115; refine (hKC.out _).mono ?_; rintro e w2 ⟨rfl, ho2⟩
                         have hP2 := HP.out.only0 (((Only.refl [] _).alloc _).trans ho2)
                         have d1 := fun i => hP2.blkP.cell i
                         have d2 := fun i => hP2.blkP.free i
                         have hB := ho2.blk (Blk.new wr _ _) (by simp))
            have hlw : wr.heap.size < w2.heap.size := by have := ho2.size; simp at this; omega
            have hrw := HP.out.only.size
            obtain ⟨So, hSo⟩ : ∃ So, So = (Value.slice Ap acc.length capp).ownBlock.toList := ⟨_, rfl⟩
            have hSn : ∀ g ∈ So, w.heap.size ≤ g ∧ g ≠ w.heap.size ∧ g ≠ w.heap.size + 1 ∧ g < wr.heap.size := by
              intro g hg
              rw [hSo] at hg
              have hg' : (Value.slice Ap acc.length capp).ownBlock = some g := by simpa using hg
              have h3 := HP.out.nown g hg'
              have h4 := HP.out.own.lt g hg'
              exact ⟨h4.1, h3.1, h3.2, h4.2⟩
            have nP : w.heap.size + 1 ∉ So := fun q => (hSn _ q).2.2.1 rfl
            have nR : w.heap.size ∉ So := fun q => (hSn _ q).2.1 rfl
            have nB : wr.heap.size ∉ So := fun q => Nat.lt_irrefl _ (hSn _ q).2.2.2
            have F0 := Within.cell (S := So) (hP2.blkP.cell 0) nP
            have G0 := Within.cell (S := So) (hB.cell 0) nB
            have G1 := Within.cell (S := So) (hB.cell 1) nB
            have G2 := Within.cell (S := So) (hB.cell 2) nB
            have G3 := Within.cell (S := So) (hB.cell 3) nB
            have G4 := Within.cell (S := So) (hB.cell 4) nB
            have G5 := Within.cell (S := So) (hB.cell 5) nB
            have G6 := Within.cell (S := So) (hB.cell 6) nB
            have G7 := Within.cell (S := So) (hB.cell 7) nB
            refine wp_region_in2 So [0, 1, 2, 5, 6] [3, 4] [9] [7, 8] [10, 11, 12] (by kernel_rfl) (by kernel_rfl) (by intro c d u a w h; cases d <;> exact h) ?_
            show wpQuiet _ _ _ _ [_, _, _, _, _] _
            repeat (go_big_quiet_step (fail))
            refine wpQuiet_nil ?_
            show wpList _ _ _ [_] _ _
            go_wp2_with fail
            refine check_of (S := So) (((Only.refl So w2).alloc _).drew) ?_
            show wpList _ _ _ [_] _ _
            have hOw : ∀ o, Only [] w2 (w2.alloc o).drew := fun o => ((Only.refl [] w2).alloc o).drew
            have hown0 := fun o => own_only hP2.own (hOw o) (by simp)
            have hnb := Blk.new w2 92 #[.int .i64 s.ev.id, .string s.ev.type, .string s.ev.data, .float .f64 s.ev.value, .string s.stream, .int .i64 s.version, .int .i64 s.position, .int .i64 s.time]
            have hnb' : Blk (w2.alloc (.cells #[.int .i64 s.ev.id, .string s.ev.type, .string s.ev.data, .float .f64 s.ev.value, .string s.stream, .int .i64 s.version, .int .i64 s.position, .int .i64 s.time] 92)).drew w2.heap.size 92 #[.int .i64 s.ev.id, .string s.ev.type, .string s.ev.data, .float .f64 s.ev.value, .string s.stream, .int .i64 s.version, .int .i64 s.position, .int .i64 s.time] := hnb
            refine wpList_append_lies rfl (.tmp 26) (.tmp 28) 28 rfl w.heap.size 92 j0 (.agg #[.int .i64 0, .string ⟨#[]⟩, .string ⟨#[]⟩, .float .f64 0, .string ⟨#[]⟩, .int .i64 0, .int .i64 0, .int .i64 0]) 8 88 Tryz.underlying28 hj hy0 hy1 hy2 rfl (by decide) (.slice Ap acc.length capp) acc.length _ rfl (hown0 _) ⟨w2.heap.size, 0, none⟩ 1 1 [.int .i64 s.ev.id, .string s.ev.type, .string s.ev.data, .float .f64 s.ev.value, .string s.stream, .int .i64 s.version, .int .i64 s.position, .int .i64 s.time] rfl rfl (news_blk hnb') ?c2 (by decide) ?c3 ?c4 ?c5 ?_
            case c2 => simp [Value.oneCell']
            case c3 => unfold maxLen; omega
            case c4 => omega
            case c5 => have := hP2.only.size; simp; omega
            intro g4 cap4 w4 hown4 hgrow4 hlie4 hg4
            have ho24 : Only So w2 w4 := (((Only.refl So w2).alloc _).drew).grown hgrow4 (fun g hg => .inl (by rw [hSo, hg]; simp))
            have hP4 : Blk w4 (w.heap.size + 1) 57 #[.slice Ap acc.length capp, .int .i64 nx, .bool true] := ho24.blk hP2.blkP nP
            have hR4 : Blk w4 w.heap.size 57 #[.slice none 0 0, .int .i64 0, .bool false] := ho24.blk hP2.blkR nR
            clear hgrow4 hlie4 F0 G0 G1 G2 G3 G4 G5 G6 G7 hnb hnb' hown0
            refine wpList_nil ?_
            refine check_of ho24 ?_
            show wpQuiet _ _ _ _ [_] _
            go_frame
            repeat (go_big_quiet_step (fail))
            refine wpQuiet_nil ?_
            show wpList _ _ _ [_] _ _
            go_wp2_with (go_at_call 115; refine (hKC.out _).mono ?_; rintro e w5 ⟨rfl, ho5⟩)
            refine check_of (ho24.trans ho5.of_nil) ?_
            show wpList _ _ _ [_] _ _
            go_wp2_with (go_at_call 146; refine (HNX.out _).mono ?_; rintro e w6 ⟨rfl, rfl⟩)
            refine check_of (ho24.trans ho5.of_nil) ?_
            show wpList _ _ _ [_, _, _] _ _
            have hP5 := ho5.blk hP4 (by simp)
            have e1 := fun i => hP5.cell i
            have e2 := fun i => hP5.free i
            have hOs : ∀ u v, Only [w.heap.size + 1] w5 ((w5.setCell ⟨w.heap.size + 1, 0, none⟩ u).setCell ⟨w.heap.size + 1, 1, none⟩ v) := fun u v => ((Only.refl _ w5).setCell (.inl (by simp)) u).setCell (.inl (by simp)) v
            have hNext : ∀ v, PgAt w ((w5.setCell ⟨w.heap.size + 1, 0, none⟩ (.slice (some ⟨g4, 0, none⟩) (acc.length + 1) cap4)).setCell ⟨w.heap.size + 1, 1, none⟩ (.int .i64 v)) (w.heap.size + 1) (.slice (some ⟨g4, 0, none⟩) (acc.length + 1) cap4) (acc ++ [s]) v := fun v => by
              refine ⟨(hP2.only.step (ho24.trans ho5.of_nil) (fun g hg => .inr (hSn g hg).1)).step (hOs _ _) (fun g hg => by simp at hg; right; omega), (hOs _ _).blk (ho5.blk hR4 (by simp)) (by simp), (hP5.set 0 _).set 1 _, ?_⟩
              have q := own_only (own_only hown4 ho5 (by simp)) (hOs (.slice (some ⟨g4, 0, none⟩) (acc.length + 1) cap4) (.int .i64 v)) (fun g hg => by
                cases hg
                obtain ⟨cur, hcur⟩ := own_type hown4 (g := g4) rfl
                simp
                exact hcur.other hP4 (by decide))
              rw [flat_snoc, List.length_append]
              exact q
            have HNext := Lib.hid hNext
            clear hNext
            go_wp2
            exact ⟨⟨k + 1, _, acc ++ [s], _, hlt, by simp; omega, by simp, HN, HNext.out _⟩, by simp [intOf]; omega⟩
      · have hkn : R = ⟨acc, nx, true⟩ := by
          rw [HR.out, List.drop_of_length_le (by omega)]
          rfl
        subst hkn
        have HP := Lib.hid hP
        clear hP HR hel
        go_wp2
        refine bodyPost_ret (v := .tuple #[.agg #[.slice Ap acc.length capp, .int .i64 nx, .bool true], .int .i64 0]) (by simp [results, Tryz.results117, go_sem, hbR]) rfl ⟨_, rfl, ?own, ?only⟩
        case own =>
          refine own_only HP.out.own (S := [w.heap.size]) ?_ (fun g hg => by simpa using (HP.out.nown g hg).1)
          iterate 3 (refine Only.setCell ?_ (.inl (by simp)) _)
          exact Only.refl _ _
        case only =>
          iterate 3 (refine Only.setCell ?_ (.inr (Nat.le_refl _)) _)
          exact HP.out.only
set_option maxRecDepth 100000 in
set_option maxHeartbeats 4000000 in
theorem forwardP_any {w : World} {v : Value} {l : List StoredR} {f n : Int} (hl : Slc w 8 v l.length (l.flatMap StoredR.cells)) (hb : l.length ≤ 1000000) (hk : ∀ s ∈ l, 0 ≤ StoredR.position s ∧ StoredR.position s ≤ 1000000000) :
    Calls Tryz.prog 117 #[.func (.func 143) #[] #[], v, .int .i64 f, .int .i64 n] w (PageOut w StoredR.position l f n (forwardBy StoredR.position l f n)) := by
  obtain ⟨A, cap, rfl, hnc, hcm, hel⟩ := hl.openE StoredR.cells (fun _ => rfl)
  obtain ⟨j0, hj, hy0, hy1, hy2⟩ := info_parts infoSt
  unfold maxLen at hcm
  cases hw : wrongP f n with
  | true =>
    have HW := Lib.hid hw
    have HV := Lib.hid (fun W => vwrong_any f n W)
    rw [hw] at HV
    clear hel hw
    have hR : forwardBy StoredR.position l f n = (PageR.zero, 1) := by unfold forwardBy; rw [HW.out]; rfl
    rw [hR]
    clear hR
    go_enter Tryz.func117, Tryz.ntmps117
    go_wp2_with (go_at_call 144; refine (HV.out _).mono ?_; rintro e w1 ⟨rfl, rfl⟩)
    exact bodyPost_ret (v := .tuple #[.agg #[.slice none 0 0, .int .i64 0, .bool false], .int .i64 1]) (by simp [results, Tryz.results117, go_sem]) rfl ⟨_, rfl, World.ownsRow_nil _ _ _ _, (Only.refl [] w).alloc _⟩
  | false =>
    have HW := Lib.hid hw
    have HV := Lib.hid (fun W => vwrong_any f n W)
    rw [hw] at HV
    have hn : 1 ≤ n ∧ n ≤ 100 := by simp [wrongP] at hw; omega
    clear hw
    have hR : forwardBy StoredR.position l f n = (fwdGo StoredR.position f n l [] f, 0) := by unfold forwardBy; rw [HW.out]; rfl
    rw [hR]
    clear hR
    obtain ⟨R, hR⟩ : ∃ R, R = fwdGo StoredR.position f n l [] f := ⟨_, rfl⟩
    rw [← hR]
    have HR := Lib.hid hR
    clear hR
    go_enter Tryz.func117, Tryz.ntmps117
    go_wp2_with (go_at_call 144; refine (HV.out _).mono ?_; rintro e w1 ⟨rfl, rfl⟩)
    go_loopw [21] (fun i wr => ∃ (k : Nat) (pv : Value) (acc : List StoredR) (nx : Int), k ≤ l.length ∧ acc.length ≤ k ∧ i = .int .i64 k ∧ Hid (R = fwdGo StoredR.position f n (l.drop k) acc nx) ∧ PgAt w wr (w.heap.size + 1) pv acc nx) (fun i _ => l.length - (intOf i).toNat)
    case atStart =>
      refine ⟨0, .slice none 0 0, [], f, Nat.zero_le _, Nat.le_refl _, rfl, HR, ((Only.refl [] w).alloc _).alloc _, ((Only.refl [] _).alloc _).blk (Blk.new w _ _) (by simp), ?_, World.ownsRow_nil _ _ _ _⟩
      have := Blk.new (w.alloc (.cells #[.slice none 0 0, .int .i64 0, .bool false] 57)) 57 #[.slice none 0 0, .int .i64 f, .bool true]
      simpa using this
    case round =>
      obtain ⟨k, pv, acc, nx, hkl, hak, rfl, HR, hP⟩ := hrel
      obtain ⟨Ap, capp, rfl, hap1, hap2⟩ := own_form hP.own
      have hbR := fun i => hP.blkR.cell i
      have hbRf := fun i => hP.blkR.free i
      have hbP := fun i => hP.blkP.cell i
      have hbPf := fun i => hP.blkP.free i
      by_cases hlt : k < l.length
      · obtain ⟨b, off, rfl, hbb, hcc⟩ := hel k hlt
        have hd := fwdGo_drop StoredR.position f n l k hlt acc nx
        have hks := hk _ (List.getElem_mem hlt)
        obtain ⟨s, hs⟩ : ∃ s, s = l[k] := ⟨_, rfl⟩
        rw [← hs] at hd hcc hks
        have c0 : wr.cell? ⟨b, off + k * 8, none⟩ = some (.int .i64 s.ev.id) := (hP.only.cell hbb (by simp)).trans (hcc 0 (by omega))
        have c1 : wr.cell? ⟨b, off + k * 8 + 1, none⟩ = some (.string s.ev.type) := (hP.only.cell hbb (by simp)).trans (hcc 1 (by omega))
        have c2 : wr.cell? ⟨b, off + k * 8 + 2, none⟩ = some (.string s.ev.data) := (hP.only.cell hbb (by simp)).trans (hcc 2 (by omega))
        have c3 : wr.cell? ⟨b, off + k * 8 + 3, none⟩ = some (.float .f64 s.ev.value) := (hP.only.cell hbb (by simp)).trans (hcc 3 (by omega))
        have c4 : wr.cell? ⟨b, off + k * 8 + 4, none⟩ = some (.string s.stream) := (hP.only.cell hbb (by simp)).trans (hcc 4 (by omega))
        have c5 : wr.cell? ⟨b, off + k * 8 + 5, none⟩ = some (.int .i64 s.version) := (hP.only.cell hbb (by simp)).trans (hcc 5 (by omega))
        have c6 : wr.cell? ⟨b, off + k * 8 + 6, none⟩ = some (.int .i64 s.position) := (hP.only.cell hbb (by simp)).trans (hcc 6 (by omega))
        have c7 : wr.cell? ⟨b, off + k * 8 + 7, none⟩ = some (.int .i64 s.time) := (hP.only.cell hbb (by simp)).trans (hcc 7 (by omega))
        have hKC := Lib.hid (fun W => position_any s W)
        obtain ⟨ky, hky⟩ : ∃ ky, ky = StoredR.position s := ⟨_, rfl⟩
        have HKY := Lib.hid hky
        have hsf := stF
        clear hcc
        by_cases h1 : StoredR.position s < f
        · have HN : Hid (R = fwdGo StoredR.position f n (l.drop (k + 1)) acc nx) := by
            unfold Hid
            rw [HR.out, hd, if_pos h1]
          have HP := Lib.hid hP
          clear hd hP HR hs hel
          go_wp2_with (go_at_call 143; refine (hKC.out _).mono ?_; rintro e w2 ⟨rfl, ho2⟩)
          exact ⟨⟨k + 1, _, acc, nx, hlt, by omega, by simp, HN, HP.out.only0 (((Only.refl [] _).alloc _).trans ho2)⟩, by simp [intOf]; omega⟩
        · by_cases h2 : (acc.length : Int) = n
          · have HN : R = ⟨acc, nx, false⟩ := by
              rw [HR.out, hd, if_neg h1, if_pos h2]
            have h2b : ((acc.length : Int) == n) = true := by rw [beq_iff_eq]; exact h2
            subst HN
            have HP := Lib.hid hP
            clear hd hP HR hs hel
            go_wp2_with (go_at_call 143; refine (hKC.out _).mono ?_; rintro e w2 ⟨rfl, ho2⟩
                         have hP2 := HP.out.only0 (((Only.refl [] _).alloc _).trans ho2)
                         have d1 := fun i => hP2.blkP.cell i
                         have d2 := fun i => hP2.blkP.free i
                         have d3 := fun u v i => (((Only.refl [w.heap.size + 1] w2).setCell (p := ⟨w.heap.size + 1, u, none⟩) (.inl (by simp)) v).blk hP2.blkR (by simp)).cell i
                         have d4 := fun u v i => (((Only.refl [w.heap.size + 1] w2).setCell (p := ⟨w.heap.size + 1, u, none⟩) (.inl (by simp)) v).blk hP2.blkR (by simp)).free i)
            refine bodyPost_ret (v := .tuple #[.agg #[.slice Ap acc.length capp, .int .i64 nx, .bool false], .int .i64 0]) (by simp [results, Tryz.results117, go_sem, d3]) rfl ⟨_, rfl, ?own, ?only⟩
            case own =>
              refine own_only hP2.own (S := [w.heap.size, w.heap.size + 1]) ?_ (fun g hg => by have := hP2.nown g hg; simp; omega)
              iterate 4 (refine Only.setCell ?_ (.inl (by simp)) _)
              exact Only.refl _ _
            case only =>
              iterate 4 (refine Only.setCell ?_ (.inr (by simp)) _)
              exact hP2.only
          · have h2b : ((acc.length : Int) == n) = false := by rw [beq_eq_false_iff_ne]; exact h2
            have HN : Hid (R = fwdGo StoredR.position f n (l.drop (k + 1)) (acc ++ [s]) (StoredR.position s + 1)) := by
              unfold Hid
              rw [HR.out, hd, if_neg h1, if_neg h2]
            have HNX := Lib.hid (fun W => vnext_any (StoredR.position s) ⟨by omega, by omega⟩ W)
            have hakb : acc.length + 1 ≤ 1000001 := by omega
            have HP := Lib.hid hP
            clear hd hP HR hs hel
            go_wp2_with (go_at_call 143; refine (hKC.out _).mono ?_; rintro e w2 ⟨rfl, ho2⟩
                         have hP2 := HP.out.only0 (((Only.refl [] _).alloc _).trans ho2)
                         have d1 := fun i => hP2.blkP.cell i
                         have d2 := fun i => hP2.blkP.free i
                         have hB := ho2.blk (Blk.new wr _ _) (by simp))
            have hlw : wr.heap.size < w2.heap.size := by have := ho2.size; simp at this; omega
            have hrw := HP.out.only.size
            obtain ⟨So, hSo⟩ : ∃ So, So = (Value.slice Ap acc.length capp).ownBlock.toList := ⟨_, rfl⟩
            have hSn : ∀ g ∈ So, w.heap.size ≤ g ∧ g ≠ w.heap.size ∧ g ≠ w.heap.size + 1 ∧ g < wr.heap.size := by
              intro g hg
              rw [hSo] at hg
              have hg' : (Value.slice Ap acc.length capp).ownBlock = some g := by simpa using hg
              have h3 := HP.out.nown g hg'
              have h4 := HP.out.own.lt g hg'
              exact ⟨h4.1, h3.1, h3.2, h4.2⟩
            have nP : w.heap.size + 1 ∉ So := fun q => (hSn _ q).2.2.1 rfl
            have nR : w.heap.size ∉ So := fun q => (hSn _ q).2.1 rfl
            have nB : wr.heap.size ∉ So := fun q => Nat.lt_irrefl _ (hSn _ q).2.2.2
            have F0 := Within.cell (S := So) (hP2.blkP.cell 0) nP
            have G0 := Within.cell (S := So) (hB.cell 0) nB
            have G1 := Within.cell (S := So) (hB.cell 1) nB
            have G2 := Within.cell (S := So) (hB.cell 2) nB
            have G3 := Within.cell (S := So) (hB.cell 3) nB
            have G4 := Within.cell (S := So) (hB.cell 4) nB
            have G5 := Within.cell (S := So) (hB.cell 5) nB
            have G6 := Within.cell (S := So) (hB.cell 6) nB
            have G7 := Within.cell (S := So) (hB.cell 7) nB
            refine wp_region_in2 So [0, 1, 2, 5, 6] [3, 4] [9] [7, 8] [10, 11, 12] (by kernel_rfl) (by kernel_rfl) (by intro c d u a w h; cases d <;> exact h) ?_
            show wpQuiet _ _ _ _ [_, _, _, _, _] _
            repeat (go_big_quiet_step (fail))
            refine wpQuiet_nil ?_
            show wpList _ _ _ [_] _ _
            go_wp2_with fail
            refine check_of (S := So) (((Only.refl So w2).alloc _).drew) ?_
            show wpList _ _ _ [_] _ _
            have hOw : ∀ o, Only [] w2 (w2.alloc o).drew := fun o => ((Only.refl [] w2).alloc o).drew
            have hown0 := fun o => own_only hP2.own (hOw o) (by simp)
            have hnb := Blk.new w2 92 #[.int .i64 s.ev.id, .string s.ev.type, .string s.ev.data, .float .f64 s.ev.value, .string s.stream, .int .i64 s.version, .int .i64 s.position, .int .i64 s.time]
            have hnb' : Blk (w2.alloc (.cells #[.int .i64 s.ev.id, .string s.ev.type, .string s.ev.data, .float .f64 s.ev.value, .string s.stream, .int .i64 s.version, .int .i64 s.position, .int .i64 s.time] 92)).drew w2.heap.size 92 #[.int .i64 s.ev.id, .string s.ev.type, .string s.ev.data, .float .f64 s.ev.value, .string s.stream, .int .i64 s.version, .int .i64 s.position, .int .i64 s.time] := hnb
            refine wpList_append_lies rfl (.tmp 26) (.tmp 28) 28 rfl w.heap.size 92 j0 (.agg #[.int .i64 0, .string ⟨#[]⟩, .string ⟨#[]⟩, .float .f64 0, .string ⟨#[]⟩, .int .i64 0, .int .i64 0, .int .i64 0]) 8 88 Tryz.underlying28 hj hy0 hy1 hy2 rfl (by decide) (.slice Ap acc.length capp) acc.length _ rfl (hown0 _) ⟨w2.heap.size, 0, none⟩ 1 1 [.int .i64 s.ev.id, .string s.ev.type, .string s.ev.data, .float .f64 s.ev.value, .string s.stream, .int .i64 s.version, .int .i64 s.position, .int .i64 s.time] rfl rfl (news_blk hnb') ?c2 (by decide) ?c3 ?c4 ?c5 ?_
            case c2 => simp [Value.oneCell']
            case c3 => unfold maxLen; omega
            case c4 => omega
            case c5 => have := hP2.only.size; simp; omega
            intro g4 cap4 w4 hown4 hgrow4 hlie4 hg4
            have ho24 : Only So w2 w4 := (((Only.refl So w2).alloc _).drew).grown hgrow4 (fun g hg => .inl (by rw [hSo, hg]; simp))
            have hP4 : Blk w4 (w.heap.size + 1) 57 #[.slice Ap acc.length capp, .int .i64 nx, .bool true] := ho24.blk hP2.blkP nP
            have hR4 : Blk w4 w.heap.size 57 #[.slice none 0 0, .int .i64 0, .bool false] := ho24.blk hP2.blkR nR
            clear hgrow4 hlie4 F0 G0 G1 G2 G3 G4 G5 G6 G7 hnb hnb' hown0
            refine wpList_nil ?_
            refine check_of ho24 ?_
            show wpQuiet _ _ _ _ [_] _
            go_frame
            repeat (go_big_quiet_step (fail))
            refine wpQuiet_nil ?_
            show wpList _ _ _ [_] _ _
            go_wp2_with (go_at_call 143; refine (hKC.out _).mono ?_; rintro e w5 ⟨rfl, ho5⟩)
            refine check_of (ho24.trans ho5.of_nil) ?_
            show wpList _ _ _ [_] _ _
            go_wp2_with (go_at_call 146; refine (HNX.out _).mono ?_; rintro e w6 ⟨rfl, rfl⟩)
            refine check_of (ho24.trans ho5.of_nil) ?_
            show wpList _ _ _ [_, _, _] _ _
            have hP5 := ho5.blk hP4 (by simp)
            have e1 := fun i => hP5.cell i
            have e2 := fun i => hP5.free i
            have hOs : ∀ u v, Only [w.heap.size + 1] w5 ((w5.setCell ⟨w.heap.size + 1, 0, none⟩ u).setCell ⟨w.heap.size + 1, 1, none⟩ v) := fun u v => ((Only.refl _ w5).setCell (.inl (by simp)) u).setCell (.inl (by simp)) v
            have hNext : ∀ v, PgAt w ((w5.setCell ⟨w.heap.size + 1, 0, none⟩ (.slice (some ⟨g4, 0, none⟩) (acc.length + 1) cap4)).setCell ⟨w.heap.size + 1, 1, none⟩ (.int .i64 v)) (w.heap.size + 1) (.slice (some ⟨g4, 0, none⟩) (acc.length + 1) cap4) (acc ++ [s]) v := fun v => by
              refine ⟨(hP2.only.step (ho24.trans ho5.of_nil) (fun g hg => .inr (hSn g hg).1)).step (hOs _ _) (fun g hg => by simp at hg; right; omega), (hOs _ _).blk (ho5.blk hR4 (by simp)) (by simp), (hP5.set 0 _).set 1 _, ?_⟩
              have q := own_only (own_only hown4 ho5 (by simp)) (hOs (.slice (some ⟨g4, 0, none⟩) (acc.length + 1) cap4) (.int .i64 v)) (fun g hg => by
                cases hg
                obtain ⟨cur, hcur⟩ := own_type hown4 (g := g4) rfl
                simp
                exact hcur.other hP4 (by decide))
              rw [flat_snoc, List.length_append]
              exact q
            have HNext := Lib.hid hNext
            clear hNext
            go_wp2
            exact ⟨⟨k + 1, _, acc ++ [s], _, hlt, by simp; omega, by simp, HN, HNext.out _⟩, by simp [intOf]; omega⟩
      · have hkn : R = ⟨acc, nx, true⟩ := by
          rw [HR.out, List.drop_of_length_le (by omega)]
          rfl
        subst hkn
        have HP := Lib.hid hP
        clear hP HR hel
        go_wp2
        refine bodyPost_ret (v := .tuple #[.agg #[.slice Ap acc.length capp, .int .i64 nx, .bool true], .int .i64 0]) (by simp [results, Tryz.results117, go_sem, hbR]) rfl ⟨_, rfl, ?own, ?only⟩
        case own =>
          refine own_only HP.out.own (S := [w.heap.size]) ?_ (fun g hg => by simpa using (HP.out.nown g hg).1)
          iterate 3 (refine Only.setCell ?_ (.inl (by simp)) _)
          exact Only.refl _ _
        case only =>
          iterate 3 (refine Only.setCell ?_ (.inr (Nat.le_refl _)) _)
          exact HP.out.only
end Go.Proofs.YteinoiicnmemhaaGreatDoor
/- Contracts: seen, Read. -/
set_option linter.unusedVariables false
set_option linter.unusedSimpArgs false
namespace Go.Proofs.YteinoiicnmemhaaGreatDoor
open Go.RowKit
def StoredR.zero : StoredR := ⟨⟨0, ⟨#[]⟩, ⟨#[]⟩, 0⟩, ⟨#[]⟩, 0, 0, 0⟩
def evAt (all : List StoredR) (p : Int) : StoredR := (all[p.toNat]?).getD StoredR.zero
def MS.seenL (s : MS) (n : ByteArray) : List StoredR := if (s.find n).deleted then [] else ((s.find n).places.drop (s.floorS n).toNat).map (evAt s.all)
theorem evAt_nat {all : List StoredR} {q : Nat} (h : q < all.length) : evAt all (q : Int) = all[q] := by simp [evAt, h]
section
variable {w : World} {M : List Nat} {sb mb N : Nat} {av : Value} {pf : ByteArray → Value} {s : MS}
set_option maxRecDepth 100000 in
set_option maxHeartbeats 4000000 in
theorem seenL_any (h : StAt w M sb mb av pf s) (hs : s.Ok N) (hN : N ≤ 100000) (n : ByteArray) :
    Calls Tryz.prog 116 #[.pointer (some ⟨sb, 0, none⟩), .string n] w fun e w' => ∃ pv, e = .returned pv ∧ w'.ownsRow w.heap.size 92 8 pv (s.seenL n).length ((s.seenL n).flatMap StoredR.cells) ∧ Only [] w w' := by
  obtain ⟨A, cap, hpv, hcm, hf⟩ := findv h n
  obtain ⟨A2, cap2, hav, hnc2, hcm2, hel2⟩ := h.cell
  obtain ⟨j0, hj, hy0, hy1, hy2⟩ := info_parts infoSt
  have hx := hs.xok n
  have hal := hs.all
  have hfb : 0 ≤ s.floorS n ∧ s.floorS n ≤ (s.find n).places.length := floorOf_bd s (s.find n)
  have hrd := (h.rd n).1
  rw [hpv] at hrd
  obtain ⟨_, _, e0, hnc1, _, hel⟩ := hrd.openI
  injection e0 with e1 _ e3
  subst e1 e3
  have hfl := Lib.hid (fun (W : World) (hw : Only [] w W) => floorS_any (h.only0 hw) hs hN n)
  have HF := Lib.hid hf
  have hsq : s.seenL n = if (s.find n).deleted then [] else ((s.find n).places.drop (s.floorS n).toNat).map (evAt s.all) := rfl
  have hxp := hx.pl
  have hfew := hx.few
  obtain ⟨x, hxe⟩ : ∃ x, x = s.find n := ⟨_, rfl⟩
  rw [← hxe] at HF hfb hel hnc1 hsq hxp hfew
  clear hf hpv hx hrd hxe
  unfold maxLen at hcm hcm2
  rw [hsq]
  clear hsq
  obtain ⟨fo, hfo⟩ : ∃ fo, fo = s.floorS n := ⟨_, rfl⟩
  rw [← hfo] at hfl hfb ⊢
  clear hfo
  cases hd : x.deleted with
  | true =>
    rw [hd] at HF
    simp only [if_true]
    clear hel hel2 hd
    go_enter Tryz.func116, Tryz.ntmps116
    go_wp2_with (go_at_call 21; refine (HF.out _ (Only.refl _ _)).mono ?_; rintro e w1 ⟨rfl, ho1⟩)
    go_ret
    exact ⟨_, rfl, World.ownsRow_nil _ _ _ _, ho1.alloc _⟩
  | false =>
    rw [hd] at HF
    simp only [Bool.false_eq_true, if_false]
    clear hd
    obtain ⟨fn, rfl⟩ := Int.eq_ofNat_of_zero_le hfb.1
    have hfn : fn ≤ x.places.length := by omega
    simp only [Int.toNat_natCast]
    go_enter Tryz.func116, Tryz.ntmps116
    go_wp2_with (go_at_call 21; refine (HF.out _ (Only.refl _ _)).mono ?_; rintro e w1 ⟨rfl, ho1⟩)
    have hb1 := Blk.new w1 75 #[.slice A x.places.length cap, .int .i64 x.mt.maxCount, .int .i64 x.mt.maxAge, .int .i64 x.mt.before, .int .i64 x.floor, .bool false]
    have F0 := Within.cell (S := []) (hb1.cell 0) (by simp)
    refine wp_region_in [] [0, 1, 2, 3, 7] [4, 5, 6] [] (by kernel_rfl) (by kernel_rfl) (by intro c d u a w h; cases d <;> exact h) ?_
    show wpQuiet _ _ _ _ [_, _, _, _, _] _
    repeat (go_big_quiet_step (fail))
    refine wpQuiet_nil ?_
    show wpList _ _ _ [_] _ _
    go_wp2_with (go_at_call 37; refine (hfl.out _ ((ho1.alloc _).drew)).mono ?_; rintro e w2 ⟨rfl, ho2⟩)
    refine check_of (S := []) ((Only.refl [] _).drew.trans ho2) ?_
    show wpList _ _ _ [_] _ _
    have hO2 : Only [] w w2 := ((ho1.alloc _).drew).trans ho2
    clear F0
    by_cases hlt : fn < x.places.length
    · obtain ⟨b, off, rfl, hb, hc00⟩ := hel 0 (by omega)
      have hcf : ¬ cap = fn := by omega
      have hel' : ∀ j (hj : fn + j < x.places.length), w.cell? ⟨b, off + fn + j, none⟩ = some (.int .i64 x.places[fn + j]) := fun j hj => by
        obtain ⟨_, _, q1, _, q2⟩ := hel (fn + j) hj
        cases q1
        rw [Nat.add_assoc]
        exact q2
      obtain ⟨L, hL⟩ : ∃ L, L = x.places.length - fn := ⟨_, rfl⟩
      have hLs : x.places.length = fn + L := by omega
      obtain ⟨T, hT⟩ : ∃ T : Nat → List StoredR, T = fun j => ((x.places.drop fn).take j).map (evAt s.all) := ⟨_, rfl⟩
      have hdrop : ∀ j (hj : fn + j < x.places.length), T (j + 1) = T j ++ [evAt s.all x.places[fn + j]] := fun j hj => by
        rw [hT]
        dsimp only
        rw [List.take_succ_eq_append_getElem (by simp; omega), List.map_append]
        simp
      have ht0 : T 0 = [] := by rw [hT]; rfl
      have hlen : (x.places.drop fn).map (evAt s.all) = T L ∧ (T L).length = L := by
        rw [hT]
        dsimp only
        rw [List.take_of_length_le (by simp; omega)]
        exact ⟨rfl, by simp; omega⟩
      have HDr := Lib.hid hdrop
      have HLn := Lib.hid hlen
      have HT0 := Lib.hid ht0
      have HEl := Lib.hid hel'
      have HLs := Lib.hid hLs
      have hLb : L ≤ 800000 := by omega
      have HL0 := Lib.hid hL
      clear hdrop hlen ht0 hT hel' hel hL hLs
      go_wp2_with fail
      rw [← HL0.out]
      clear hc00 hlt
      refine check_of (S := []) ((Only.refl [] _).drew.trans ho2) ?_
      show wpList _ _ _ [_] _ _
      go_wp2_with fail
      refine check_last (S := []) ((Only.refl [] _).drew.trans ho2) (fun _ _ q => q) ?_
      have c0 : w.cell? ⟨sb, 0, none⟩ = some (.slice A2 s.all.length cap2) := by rw [← hav]; exact h.blk.cell 0
      have hbb := h.blk.lt
      have C0 := Lib.hid c0
      clear c0
      go_wp2
      go_loopw [6, 21] (fun u i wr => ∃ k : Nat, k ≤ L ∧ i = .int .i64 k ∧ wr.ownsRow w.heap.size 92 8 u k ((T k).flatMap StoredR.cells) ∧ Only [] w wr) (fun _ i _ => L - (intOf i).toNat)
      case atStart => exact ⟨0, Nat.zero_le _, rfl, by rw [HT0.out]; exact World.ownsRow_nil _ _ _ _, hO2⟩
      case round =>
        obtain ⟨k, hk, rfl, hown, hO⟩ := hrel
        by_cases hkl : k < L
        · have hlt : fn + k < x.places.length := by have := HLs.out; omega
          have hc1 := HEl.out k hlt
          have ht := HDr.out k hlt
          obtain ⟨hp0, hp1⟩ := hxp _ (List.getElem_mem hlt)
          obtain ⟨q, hq⟩ := Int.eq_ofNat_of_zero_le hp0
          have hqa : q < s.all.length := by omega
          obtain ⟨b2, rfl, hb2, hc2⟩ := hel2 q hqa
          rw [hq, ← hO.cell hb (by simp)] at hc1
          rw [hq, evAt_nat hqa] at ht
          obtain ⟨z, hz⟩ : ∃ z, z = s.all[q] := ⟨_, rfl⟩
          rw [← hz] at hc2 ht
          have d0 : wr.cell? ⟨b2, q * 8, none⟩ = some (.int .i64 z.ev.id) := (hO.cell hb2 (by simp)).trans (hc2 0 (by omega))
          have d1 : wr.cell? ⟨b2, q * 8 + 1, none⟩ = some (.string z.ev.type) := (hO.cell hb2 (by simp)).trans (hc2 1 (by omega))
          have d2 : wr.cell? ⟨b2, q * 8 + 2, none⟩ = some (.string z.ev.data) := (hO.cell hb2 (by simp)).trans (hc2 2 (by omega))
          have d3 : wr.cell? ⟨b2, q * 8 + 3, none⟩ = some (.float .f64 z.ev.value) := (hO.cell hb2 (by simp)).trans (hc2 3 (by omega))
          have d4 : wr.cell? ⟨b2, q * 8 + 4, none⟩ = some (.string z.stream) := (hO.cell hb2 (by simp)).trans (hc2 4 (by omega))
          have d5 : wr.cell? ⟨b2, q * 8 + 5, none⟩ = some (.int .i64 z.version) := (hO.cell hb2 (by simp)).trans (hc2 5 (by omega))
          have d6 : wr.cell? ⟨b2, q * 8 + 6, none⟩ = some (.int .i64 z.position) := (hO.cell hb2 (by simp)).trans (hc2 6 (by omega))
          have d7 : wr.cell? ⟨b2, q * 8 + 7, none⟩ = some (.int .i64 z.time) := (hO.cell hb2 (by simp)).trans (hc2 7 (by omega))
          have c0 : wr.cell? ⟨sb, 0, none⟩ = some (.slice (some ⟨b2, 0, none⟩) s.all.length cap2) := (hO.cell hbb (by simp)).trans C0.out
          have hqi : (q : Int) < s.all.length := by omega
          have HT := Lib.hid ht
          have hsf := stF
          clear hel2 hc2 hz ht hq hlt hp0 hp1
          go_wp2_with (at_builtin; refine wpList_append_own _ rfl (.tmp 25) (.tmp 33) 28 rfl w.heap.size 92 j0 (.agg #[.int .i64 0, .string ⟨#[]⟩, .string ⟨#[]⟩, .float .f64 0, .string ⟨#[]⟩, .int .i64 0, .int .i64 0, .int .i64 0]) 8 88 Tryz.underlying28 hj hy0 hy1 hy2 rfl (by decide) _ _ _ rfl (World.ownsRow.alloc hown _) ⟨wr.heap.size, 0, none⟩ 1 1 [.int .i64 z.ev.id, .string z.ev.type, .string z.ev.data, .float .f64 z.ev.value, .string z.stream, .int .i64 z.version, .int .i64 z.position, .int .i64 z.time] rfl rfl (news_blk (Blk.new wr 92 _)) ?c2 ?c3 ?c4 ?c5 ?_)
          case c2 => simp [Value.oneCell']
          case c3 => unfold maxLen; omega
          case c4 => omega
          case c5 => have := hO.size; simp; omega
          intro v' w4 hown' hgrow _
          have hown2 : w4.ownsRow w.heap.size 92 8 v' (k + 1) ((T (k + 1)).flatMap StoredR.cells) := by
            rw [HT.out, flat_snoc]
            exact hown'
          have ho4 : Only [] w w4 := (hO.alloc _).grown hgrow (fun k hk => .inr (hown.lt k hk).1)
          have HO2 := Lib.hid hown2
          clear hgrow hown' hown2
          go_wp2
          exact ⟨⟨k + 1, hkl, by simp, HO2.out, ho4⟩, by simp [intOf]; omega⟩
        · have hkn : k = L := by omega
          have hfin : wr.ownsRow w.heap.size 92 8 u6 ((x.places.drop fn).map (evAt s.all)).length (((x.places.drop fn).map (evAt s.all)).flatMap StoredR.cells) := by
            rw [HLn.out.1, HLn.out.2]
            rw [hkn] at hown
            exact hown
          have HF2 := Lib.hid hfin
          clear hfin hkn hown
          go_wp2
          go_ret
          exact ⟨_, rfl, HF2.out, hO⟩
    · have h0 : (x.places.drop fn).map (evAt s.all) = [] := by rw [List.drop_of_length_le (by omega)]; rfl
      obtain rfl : fn = x.places.length := by omega
      have H0 := Lib.hid h0
      clear h0 hel hel2
      cases A with
      | none => 
        go_wp2_with fail
        refine check_of (S := []) ((Only.refl [] _).drew.trans ho2) ?_
        show wpList _ _ _ [_] _ _
        go_wp2_with fail
        refine check_last (S := []) ((Only.refl [] _).drew.trans ho2) (fun _ _ q => q) ?_
        go_wp2
        go_loopw [6, 21] (fun u i wr => u = .slice none 0 0 ∧ i = .int .i64 0 ∧ Only [] w wr) (fun _ _ _ => 0)
        case atStart => exact ⟨rfl, rfl, hO2⟩
        case round =>
          obtain ⟨rfl, rfl, hO⟩ := hrel
          go_wp2
          go_ret
          exact ⟨_, rfl, by rw [H0.out]; exact World.ownsRow_nil _ _ _ _, hO⟩
      | some ad =>
        by_cases hcf : cap = x.places.length
        · go_wp2_with fail
          refine check_of (S := []) ((Only.refl [] _).drew.trans ho2) ?_
          show wpList _ _ _ [_] _ _
          go_wp2_with fail
          refine check_last (S := []) ((Only.refl [] _).drew.trans ho2) (fun _ _ q => q) ?_
          go_wp2
          go_loopw [6, 21] (fun u i wr => u = .slice none 0 0 ∧ i = .int .i64 0 ∧ Only [] w wr) (fun _ _ _ => 0)
          case atStart => exact ⟨rfl, rfl, hO2⟩
          case round =>
            obtain ⟨rfl, rfl, hO⟩ := hrel
            go_wp2
            go_ret
            exact ⟨_, rfl, by rw [H0.out]; exact World.ownsRow_nil _ _ _ _, hO⟩
        · go_wp2_with fail
          refine check_of (S := []) ((Only.refl [] _).drew.trans ho2) ?_
          show wpList _ _ _ [_] _ _
          go_wp2_with fail
          refine check_last (S := []) ((Only.refl [] _).drew.trans ho2) (fun _ _ q => q) ?_
          go_wp2
          go_loopw [6, 21] (fun u i wr => u = .slice none 0 0 ∧ i = .int .i64 0 ∧ Only [] w wr) (fun _ _ _ => 0)
          case atStart => exact ⟨rfl, rfl, hO2⟩
          case round =>
            obtain ⟨rfl, rfl, hO⟩ := hrel
            go_wp2
            go_ret
            exact ⟨_, rfl, by rw [H0.out]; exact World.ownsRow_nil _ _ _ _, hO⟩
end
end Go.Proofs.YteinoiicnmemhaaGreatDoor
/- Contract: Read, forward. -/
set_option linter.unusedVariables false
set_option linter.unusedSimpArgs false
namespace Go.Proofs.YteinoiicnmemhaaGreatDoor
open Go.RowKit
def PageRet (w : World) (r : PageR × Int) (e : Ending) (w' : World) : Prop :=
  ∃ pv, e = .returned (.tuple #[.agg #[pv, .int .i64 r.1.next, .bool r.1.isEnd], .int .i64 r.2]) ∧ w'.ownsRow w.heap.size 92 8 pv r.1.events.length (r.1.events.flatMap StoredR.cells) ∧ Only [] w w'
def MS.readOk (n : ByteArray) (f k : Int) : Bool := nameOk n && decide (0 ≤ f) && decide (1 ≤ k) && decide (k ≤ 100)
def MS.readF (s : MS) (n : ByteArray) (f k : Int) : PageR × Int :=
  if MS.readOk n f k = false then (PageR.zero, 1) else if (s.find n).deleted then (PageR.zero, 23) else if (s.find n).places.length = 0 then (PageR.zero, 8) else forwardBy StoredR.version (s.seenL n) f k
section
variable {w : World} {M : List Nat} {sb mb N : Nat} {av : Value} {pf : ByteArray → Value} {s : MS}
set_option maxRecDepth 100000 in
set_option maxHeartbeats 4000000 in
theorem readF_any (h : StAt w M sb mb av pf s) (hs : s.Ok N) (hN : N ≤ 100000) (n : ByteArray) (hn : n.size ≤ maxLen) (f k : Int) (hv : ∀ e ∈ s.seenL n, 0 ≤ e.version ∧ e.version ≤ 1000000000) :
    Calls Tryz.prog 80 #[.pointer (some ⟨sb, 0, none⟩), .string n, .int .i64 f, .int .i64 k, .bool false] w (PageRet w (s.readF n f k)) := by
  obtain ⟨A, cap, hpv, hcm, hf⟩ := findv h n
  have HF := Lib.hid hf
  have HS := Lib.hid (fun W => stream_any n W hn)
  have hx := hs.xok n
  have hal := hs.all
  have hlb : (s.seenL n).length ≤ 1000000 := by
    unfold MS.seenL
    have := hx.few
    split
    · simp
    · simp; omega
  unfold maxLen at hcm
  have hfew := hx.few
  clear hf hpv hx
  cases hok : MS.readOk n f k with
  | false =>
    have hR : s.readF n f k = (PageR.zero, 1) := by unfold MS.readF; rw [if_pos hok]
    rw [hR]
    clear hR
    cases hnm : nameOk n with
    | false =>
      rw [hnm] at HS
      clear hok hnm
      go_enter Tryz.func80, Tryz.ntmps80
      go_wp2_with (go_at_call 52; refine (HS.out _).mono ?_; rintro e w' ⟨rfl, rfl⟩)
      exact bodyPost_ret (v := .tuple #[.agg #[.slice none 0 0, .int .i64 0, .bool false], .int .i64 1]) (by simp [results, Tryz.results80, go_sem]) rfl ⟨_, rfl, World.ownsRow_nil _ _ _ _, (Only.refl [] w).alloc _⟩
    | true =>
      rw [hnm] at HS
      simp only [MS.readOk, hnm, Bool.true_and, Bool.and_eq_false_iff, decide_eq_false_iff_not] at hok
      clear hnm
      by_cases h1 : f < 0
      · clear hok
        go_enter Tryz.func80, Tryz.ntmps80
        go_wp2_with (go_at_call 52; refine (HS.out _).mono ?_; rintro e w' ⟨rfl, rfl⟩)
        exact bodyPost_ret (v := .tuple #[.agg #[.slice none 0 0, .int .i64 0, .bool false], .int .i64 1]) (by simp [results, Tryz.results80, go_sem]) rfl ⟨_, rfl, World.ownsRow_nil _ _ _ _, (Only.refl [] w).alloc _⟩
      · by_cases h2 : k < 1
        · clear hok
          go_enter Tryz.func80, Tryz.ntmps80
          go_wp2_with (go_at_call 52; refine (HS.out _).mono ?_; rintro e w' ⟨rfl, rfl⟩)
          exact bodyPost_ret (v := .tuple #[.agg #[.slice none 0 0, .int .i64 0, .bool false], .int .i64 1]) (by simp [results, Tryz.results80, go_sem]) rfl ⟨_, rfl, World.ownsRow_nil _ _ _ _, (Only.refl [] w).alloc _⟩
        · have h3 : k > 100 := by omega
          clear hok
          go_enter Tryz.func80, Tryz.ntmps80
          go_wp2_with (go_at_call 52; refine (HS.out _).mono ?_; rintro e w' ⟨rfl, rfl⟩)
          exact bodyPost_ret (v := .tuple #[.agg #[.slice none 0 0, .int .i64 0, .bool false], .int .i64 1]) (by simp [results, Tryz.results80, go_sem]) rfl ⟨_, rfl, World.ownsRow_nil _ _ _ _, (Only.refl [] w).alloc _⟩
  | true =>
    simp only [MS.readOk, Bool.and_eq_true, decide_eq_true_eq] at hok
    obtain ⟨⟨⟨hnm, h1⟩, h2⟩, h3⟩ := hok
    rw [hnm] at HS
    have hok : MS.readOk n f k = true := by simp [MS.readOk, hnm, h1, h2, h3]
    cases hd : (s.find n).deleted with
    | true =>
      have hR : s.readF n f k = (PageR.zero, 23) := by unfold MS.readF; rw [if_neg (by rw [hok]; decide), if_pos hd]
      rw [hR]
      rw [hd] at HF
      clear hR hok hnm hd
      go_enter Tryz.func80, Tryz.ntmps80
      go_wp2_with (first
        | (go_at_call 52; refine (HS.out _).mono ?_; rintro e w' ⟨rfl, rfl⟩)
        | (go_at_call 21; refine (HF.out _ ((Only.refl _ _).alloc _)).mono ?_; rintro e w1 ⟨rfl, ho1⟩
           have hf1 := fun o i => (((Only.refl [] w1).alloc o).blk (ho1.blk (Blk.new w 57 _) (by simp)) (by simp)).free i
           have hc1 := fun o i => (((Only.refl [] w1).alloc o).blk (ho1.blk (Blk.new w 57 _) (by simp)) (by simp)).cell i))
      refine bodyPost_ret (v := .tuple #[.agg #[.slice none 0 0, .int .i64 0, .bool false], .int .i64 23]) (by simp [results, Tryz.results80, go_sem, hc1]) rfl ⟨_, rfl, World.ownsRow_nil _ _ _ _, ?hw⟩
      case hw =>
        iterate 3 (refine Only.setCell ?_ (.inr (Nat.le_refl _)) _)
        exact (((Only.refl [] w).alloc _).trans ho1).alloc _
    | false =>
      rw [hd] at HF
      by_cases h0 : (s.find n).places.length = 0
      · have hR : s.readF n f k = (PageR.zero, 8) := by unfold MS.readF; rw [if_neg (by rw [hok]; decide), if_neg (by rw [hd]; decide), if_pos h0]
        rw [hR]
        rw [h0] at HF
        clear hR hok hnm hd h0
        go_enter Tryz.func80, Tryz.ntmps80
        go_wp2_with (first
          | (go_at_call 52; refine (HS.out _).mono ?_; rintro e w' ⟨rfl, rfl⟩)
          | (go_at_call 21; refine (HF.out _ ((Only.refl _ _).alloc _)).mono ?_; rintro e w1 ⟨rfl, ho1⟩
             have hf1 := fun o i => (((Only.refl [] w1).alloc o).blk (ho1.blk (Blk.new w 57 _) (by simp)) (by simp)).free i
             have hc1 := fun o i => (((Only.refl [] w1).alloc o).blk (ho1.blk (Blk.new w 57 _) (by simp)) (by simp)).cell i))
        refine bodyPost_ret (v := .tuple #[.agg #[.slice none 0 0, .int .i64 0, .bool false], .int .i64 8]) (by simp [results, Tryz.results80, go_sem, hc1]) rfl ⟨_, rfl, World.ownsRow_nil _ _ _ _, ?hw⟩
        case hw =>
          iterate 3 (refine Only.setCell ?_ (.inr (Nat.le_refl _)) _)
          exact (((Only.refl [] w).alloc _).trans ho1).alloc _
      · have hR : s.readF n f k = forwardBy StoredR.version (s.seenL n) f k := by unfold MS.readF; rw [if_neg (by rw [hok]; decide), if_neg (by rw [hd]; decide), if_neg h0]
        rw [hR]
        have h0b : (((s.find n).places.length : Int) == 0) = false := by rw [beq_eq_false_iff_ne]; omega
        have HSn := Lib.hid (fun (W : World) (hw : Only [] w W) => seenL_any (h.only0 hw) hs hN n)
        have HFw := Lib.hid (fun (W : World) (v : Value) (hl : Slc W 8 v (s.seenL n).length ((s.seenL n).flatMap StoredR.cells)) => forwardV_any (f := f) (n := k) hl hlb hv)
        obtain ⟨r, hr⟩ : ∃ r, r = forwardBy StoredR.version (s.seenL n) f k := ⟨_, rfl⟩
        rw [← hr] at HFw ⊢
        obtain ⟨⟨revs, rnx, rend⟩, rerr⟩ := r
        clear hR hok hnm hd h0 hlb hv hr
        go_enter Tryz.func80, Tryz.ntmps80
        go_wp2_with (first
          | (go_at_call 52; refine (HS.out _).mono ?_; rintro e w' ⟨rfl, rfl⟩)
          | (go_at_call 21; refine (HF.out _ ((Only.refl _ _).alloc _)).mono ?_; rintro e w1 ⟨rfl, ho1⟩)
          | (go_at_call 116; refine (HSn.out _ ((((Only.refl _ _).alloc _).trans ho1).alloc _)).mono ?_; rintro e w2 ⟨v2, rfl, hown2, ho2⟩)
          | (go_at_call 117; refine (HFw.out _ _ (Slc.of_own hown2).1).mono ?_; rintro e w3 ⟨v3, rfl, hown3, ho3⟩; obtain ⟨A3, cap3, rfl, _, _⟩ := own_form hown3
             have hp := ho3.blk (ho2.blk (((Only.refl [] w1).alloc _).blk (ho1.blk (Blk.new w 57 _) (by simp)) (by simp)) (by simp)) (by simp)
             have hpc := fun i => hp.cell i
             have hpf := fun i => hp.free i))
        have hsz : w.heap.size < w2.heap.size := by have q1 := ho1.size; have q2 := ho2.size; simp at q1 q2; omega
        refine bodyPost_ret (v := .tuple #[.agg #[.slice A3 revs.length cap3, .int .i64 rnx, .bool rend], .int .i64 rerr]) (by simp [results, Tryz.results80, go_sem, hpc]) rfl ⟨_, rfl, ?own, ?hw⟩
        case own =>
          refine own_only (own_base hown3 (by omega)) (S := [w.heap.size]) ?_ (fun g hg => by have := (hown3.lt g hg).1; simp; omega)
          iterate 3 (refine Only.setCell ?_ (.inl (by simp)) _)
          exact Only.refl _ _
        case hw =>
          iterate 3 (refine Only.setCell ?_ (.inr (Nat.le_refl _)) _)
          exact (((((Only.refl [] w).alloc _).trans ho1).alloc _).trans ho2).trans ho3
end
end Go.Proofs.YteinoiicnmemhaaGreatDoor
/- What holds of every state that commands made. -/
set_option linter.unusedVariables false
set_option linter.unusedSimpArgs false
namespace Go.Proofs.YteinoiicnmemhaaGreatDoor
open Go.RowKit
structure MS.Inv (s : MS) : Prop where
  pos : ∀ i (h : i < s.all.length), s.all[i].position = i
  plc : ∀ n k (h : k < (s.find n).places.length), ∃ p : Nat, ∃ hp : p < s.all.length, (s.find n).places[k] = p ∧ s.all[p].stream = n ∧ s.all[p].version = k
  ver : ∀ i (h : i < s.all.length), ∃ k : Nat, s.all[i].version = k ∧ (s.find s.all[i].stream).places[k]? = some (i : Int)
theorem find_put (s : MS) (n m : ByteArray) (x : StreamR) : (s.put n x).find m = if n = m then x else s.find m := by
  unfold MS.put MS.find
  dsimp only
  rw [aget_aput]
  split <;> rfl
theorem find_m {s t : MS} (h : s.m = t.m) (n : ByteArray) : s.find n = t.find n := by unfold MS.find; rw [h]
theorem storedOf_get (stream : ByteArray) (now : Int) : ∀ (l : List EventR) (v at_ : Int) (i : Nat) (h : i < l.length), (storedOf stream now l v at_)[i]? = some (stOne stream now l[i] (v + i) (at_ + i))
  | [], _, _, _, h => absurd h (Nat.not_lt_zero _)
  | e :: l, v, at_, 0, _ => by simp [storedOf, stOne]
  | e :: l, v, at_, i + 1, h => by
    have := storedOf_get stream now l (v + 1) (at_ + 1) i (by simpa using h)
    simp only [storedOf, List.getElem?_cons_succ, List.getElem_cons_succ]
    rw [this]
    simp only [stOne, Option.some.injEq, StoredR.mk.injEq, true_and, and_true]
    constructor <;> omega
theorem rangeFrom_get : ∀ (k : Nat) (a : Int) (i : Nat), i < k → (rangeFrom k a)[i]? = some (a + i)
  | 0, _, _, h => absurd h (Nat.not_lt_zero _)
  | k + 1, a, 0, _ => by simp [rangeFrom]
  | k + 1, a, i + 1, h => by
    simp only [rangeFrom, List.getElem?_cons_succ]
    rw [rangeFrom_get k (a + 1) i (by omega)]
    congr 1
    omega
/-- What act may do to the stream's places and to all events. -/
theorem act_places (s : MS) (c : Cmd) (x : StreamR) : (s.act c x).2.2.m = s.m ∧
    ((s.act c x).2.1.places = x.places ∧ (s.act c x).2.2.all = s.all ∨
      (s.act c x).2.1.places = x.places ++ rangeFrom c.events.length s.all.length ∧ (s.act c x).2.2.all = s.all ++ storedOf c.stream s.now c.events x.places.length s.all.length) := by
  unfold MS.act
  dsimp only
  split
  · exact ⟨rfl, .inl ⟨rfl, rfl⟩⟩
  split
  · split <;> exact ⟨rfl, .inl ⟨rfl, rfl⟩⟩
  split
  · exact ⟨rfl, .inl ⟨rfl, rfl⟩⟩
  split
  · exact ⟨rfl, .inr ⟨rfl, rfl⟩⟩
  · exact ⟨rfl, .inl ⟨rfl, rfl⟩⟩
/-- What Do leaves, in the shape that all proofs use: nothing turned but time and count; or the stream kept, its places as they were; or events behind. -/
theorem do_shape (s : MS) (c : Cmd) : ((s.do c).2.m = s.m ∧ (s.do c).2.all = s.all) ∨
    ∃ y : StreamR, (s.do c).2.m = aput s.m c.stream y ∧ (y.places = (s.find c.stream).places ∧ (s.do c).2.all = s.all ∨
      y.places = (s.find c.stream).places ++ rangeFrom c.events.length s.all.length ∧ (s.do c).2.all = s.all ++ storedOf c.stream (max s.now c.time) c.events (s.find c.stream).places.length s.all.length) := by
  unfold MS.do
  split
  · exact .inl ⟨rfl, rfl⟩
  dsimp only
  split
  · exact .inl ⟨rfl, rfl⟩
  split
  · exact .inl ⟨rfl, rfl⟩
  · right
    obtain ⟨h1, h2⟩ := act_places (s.tick c.time) c { (s.tick c.time).find c.stream with floor := (s.tick c.time).floorOf ((s.tick c.time).find c.stream) }
    generalize hr : (s.tick c.time).act c { (s.tick c.time).find c.stream with floor := (s.tick c.time).floorOf ((s.tick c.time).find c.stream) } = r at h1 h2
    refine ⟨{ r.2.1 with floor := r.2.2.floorOf r.2.1 }, ?_, ?_⟩
    · show aput r.2.2.m _ _ = _
      rw [h1]
      rfl
    · exact h2
theorem inv_new : MS.new.Inv := ⟨fun i h => absurd h (Nat.not_lt_zero _), fun n k h => absurd h (Nat.not_lt_zero _), fun i h => absurd h (Nat.not_lt_zero _)⟩
theorem MS.Inv.same {s t : MS} (h : s.Inv) (hm : ∀ n, (t.find n).places = (s.find n).places) (ha : t.all = s.all) : t.Inv := by
  refine ⟨fun i hi => ?_, fun n k hk => ?_, fun i hi => ?_⟩
  · simp only [ha] at hi ⊢
    exact h.pos i hi
  · simp only [hm, ha] at hk ⊢
    exact h.plc n k hk
  · simp only [ha] at hi ⊢
    rw [hm]
    exact h.ver i hi
theorem inv_do {s : MS} (h : s.Inv) (c : Cmd) : (s.do c).2.Inv := by
  rcases do_shape s c with ⟨h1, h2⟩ | ⟨y, h1, ⟨h2, h3⟩ | ⟨h2, h3⟩⟩
  · exact h.same (fun n => by rw [find_m h1]) h2
  · refine h.same (fun n => ?_) h3
    have e : (s.do c).2.find n = (s.put c.stream y).find n := find_m h1 n
    rw [e, find_put]
    split
    · rename_i q; subst q; exact h2
    · rfl
  · have hfi : ∀ n, ((s.do c).2.find n).places = if c.stream = n then y.places else (s.find n).places := fun n => by
      have e : (s.do c).2.find n = (s.put c.stream y).find n := find_m h1 n
      rw [e, find_put]
      split <;> rfl
    generalize (s.do c).2 = t at *
    obtain ⟨x, hx⟩ : ∃ x, x = s.find c.stream := ⟨_, rfl⟩
    rw [← hx] at h2 h3
    have hpre : ∀ i, i < s.all.length → t.all[i]? = s.all[i]? := fun i hi => by rw [h3, List.getElem?_append_left hi]
    have hsuf : ∀ i (hi : i < c.events.length), t.all[s.all.length + i]? = some (stOne c.stream (max s.now c.time) c.events[i] (x.places.length + i) (s.all.length + i)) := fun i hi => by
      rw [h3, List.getElem?_append_right (by omega), show s.all.length + i - s.all.length = i by omega]
      exact storedOf_get _ _ _ _ _ i hi
    have hlen : t.all.length = s.all.length + c.events.length := by rw [h3, List.length_append, storedOf_len]
    refine ⟨fun i hi => ?_, fun n k hk => ?_, fun i hi => ?_⟩
    · by_cases q : i < s.all.length
      · have e := hpre i q
        rw [List.getElem?_eq_getElem hi, List.getElem?_eq_getElem q] at e
        injection e with e
        rw [e]
        exact h.pos i q
      · have e := hsuf (i - s.all.length) (by omega)
        rw [show s.all.length + (i - s.all.length) = i by omega, List.getElem?_eq_getElem hi] at e
        injection e with e
        rw [e]
        simp only [stOne]
        omega
    · by_cases hn : c.stream = n
      · subst hn
        have hp := hfi c.stream
        rw [if_pos rfl, h2] at hp
        by_cases q : k < x.places.length
        · obtain ⟨p, hp1, hp2, hp3, hp4⟩ := h.plc c.stream k (by rw [← hx]; exact q)
          have e := hpre p hp1
          rw [List.getElem?_eq_getElem (by omega), List.getElem?_eq_getElem hp1] at e
          injection e with e
          refine ⟨p, by omega, ?_, by rw [e]; exact hp3, by rw [e]; exact hp4⟩
          simp only [hp]
          rw [List.getElem_append_left q]
          simpa [hx] using hp2
        · have hk' : k < x.places.length + c.events.length := by
            rw [hp, List.length_append, rangeFrom_len] at hk
            exact hk
          have e := hsuf (k - x.places.length) (by omega)
          have hlt : s.all.length + (k - x.places.length) < t.all.length := by omega
          rw [List.getElem?_eq_getElem hlt] at e
          injection e with e
          refine ⟨s.all.length + (k - x.places.length), hlt, ?_, by rw [e]; rfl, by rw [e]; simp only [stOne]; omega⟩
          have e2 : (t.find c.stream).places[k]? = some ((s.all.length : Int) + ((k - x.places.length : Nat) : Int)) := by
            rw [hp, List.getElem?_append_right (by omega)]
            exact rangeFrom_get _ _ _ (by omega)
          rw [List.getElem?_eq_getElem hk] at e2
          injection e2
      · have hp := hfi n
        rw [if_neg hn] at hp
        obtain ⟨p, hp1, hp2, hp3, hp4⟩ := h.plc n k (by rw [← hp]; exact hk)
        have e := hpre p hp1
        rw [List.getElem?_eq_getElem (by omega), List.getElem?_eq_getElem hp1] at e
        injection e with e
        refine ⟨p, by omega, ?_, by rw [e]; exact hp3, by rw [e]; exact hp4⟩
        simp only [hp]
        exact hp2
    · by_cases q : i < s.all.length
      · have e := hpre i q
        rw [List.getElem?_eq_getElem hi, List.getElem?_eq_getElem q] at e
        injection e with e
        obtain ⟨k, hk1, hk2⟩ := h.ver i q
        refine ⟨k, by rw [e]; exact hk1, ?_⟩
        rw [e, hfi]
        split
        · rename_i hn
          rw [← hn, ← hx] at hk2
          rw [h2, List.getElem?_append_left (List.getElem?_eq_some_iff.1 hk2).1]
          exact hk2
        · exact hk2
      · have e := hsuf (i - s.all.length) (by omega)
        rw [show s.all.length + (i - s.all.length) = i by omega, List.getElem?_eq_getElem hi] at e
        injection e with e
        refine ⟨x.places.length + (i - s.all.length), by rw [e]; simp only [stOne]; omega, ?_⟩
        rw [e, hfi]
        rw [if_pos (by rfl), h2, List.getElem?_append_right (by omega), rangeFrom_get _ _ _ (by omega)]
        congr 1
        omega
theorem MS.Inv.evAt {s : MS} (h : s.Inv) {n : ByteArray} {e : StoredR} (he : e ∈ (s.find n).places.map (evAt s.all)) : ∃ k p : Nat, ∃ hp : p < s.all.length, e = s.all[p] ∧ k < (s.find n).places.length ∧ e.stream = n ∧ e.version = k ∧ e.position = p := by
  obtain ⟨q, hq, rfl⟩ := List.mem_map.1 he
  obtain ⟨k, hk, rfl⟩ := List.mem_iff_getElem.1 hq
  obtain ⟨p, hp, h1, h2, h3⟩ := h.plc n k hk
  rw [h1, evAt_nat hp]
  exact ⟨k, p, hp, rfl, hk, h2, h3, h.pos p hp⟩
theorem seenL_sub (s : MS) (n : ByteArray) : ∀ e ∈ s.seenL n, e ∈ (s.find n).places.map (evAt s.all) := by
  intro e he
  unfold MS.seenL at he
  split at he
  · cases he
  · obtain ⟨q, hq, rfl⟩ := List.mem_map.1 he
    exact List.mem_map.2 ⟨q, List.mem_of_mem_drop hq, rfl⟩
theorem seenL_vers {s : MS} {N : Nat} (h : s.Inv) (hs : s.Ok N) (hN : N ≤ 100000) (n : ByteArray) : ∀ e ∈ s.seenL n, 0 ≤ e.version ∧ e.version ≤ 1000000000 := by
  intro e he
  obtain ⟨k, p, hp, _, hk, _, hv, _⟩ := h.evAt (seenL_sub s n e he)
  have := (hs.xok n).few
  have := hs.all
  omega
end Go.Proofs.YteinoiicnmemhaaGreatDoor
/- A state as the laws see it: above a world that stays, beside blocks that are kept; the contracts in that form. -/
set_option linter.unusedVariables false
set_option linter.unusedSimpArgs false
namespace Go.Proofs.YteinoiicnmemhaaGreatDoor
open Go.RowKit
/-- Above the world a, which stays; R: blocks of the caller's own that may turn by his hand; E: blocks that only are read. -/
structure HasS (a w : World) (R E : List Nat) (sb mb : Nat) (s : MS) (N : Nat) : Prop where
  only : Only [] a w
  st : ∃ M av pf, StAt w M sb mb av pf s ∧ (∀ g ∈ M, a.heap.size ≤ g ∧ g ∉ E) ∧ (∀ g ∈ R, g ∈ M) ∧ ∀ g ∈ hM sb mb av, g ∉ R
  el : ∀ g ∈ E, g < w.heap.size
  ok : s.Ok N
  inv : s.Inv
section
variable {a w w' : World} {R R' E E' : List Nat} {sb mb N : Nat} {s : MS}
theorem HasS.keep (h : HasS a w R E sb mb s N) (k : Only [] w w') : HasS a w' R E sb mb s N := by
  obtain ⟨M, av, pf, h1, h2⟩ := h.st
  exact ⟨h.only.trans k, ⟨M, av, pf, h1.only0 k, h2⟩, fun g hg => Nat.lt_of_lt_of_le (h.el g hg) k.size, h.ok, h.inv⟩
theorem StAt.fresh {M : List Nat} {av : Value} {pf : ByteArray → Value} (h : StAt w M sb mb av pf s) (k : Only [] w w') {g : Nat} (h1 : w.heap.size ≤ g) (h2 : g < w'.heap.size) : StAt w' (g :: M) sb mb av pf s := by
  have h' := h.only0 k
  exact ⟨h'.blk, h'.own, h'.map, fun n x hx => ((h.pl n x hx).ext (M' := g :: M) (fun i hi => by simp at hi; rcases hi with rfl | hi; exact .inr h1; exact .inl hi)).only0 k,
    ⟨List.mem_cons_of_mem _ h.inM.1, List.mem_cons_of_mem _ h.inM.2.1, fun i hi => List.mem_cons_of_mem _ (h.inM.2.2 i hi)⟩,
    fun i hi => by simp at hi; rcases hi with rfl | hi; exact h2; exact h'.mlt i hi⟩
/-- One more block of one's own. -/
theorem HasS.addR (h : HasS a w R E sb mb s N) (k : Only [] w w') {g : Nat} (h1 : w.heap.size ≤ g) (h2 : g < w'.heap.size) : HasS a w' (g :: R) E sb mb s N := by
  obtain ⟨M, av, pf, q1, q2, q3, q4⟩ := h.st
  refine ⟨h.only.trans k, ⟨g :: M, av, pf, q1.fresh k h1 h2, fun i hi => ?_, fun i hi => ?_, fun i hi q => ?_⟩, fun g hg => Nat.lt_of_lt_of_le (h.el g hg) k.size, h.ok, h.inv⟩
  · rcases List.mem_cons.1 hi with rfl | hi
    · refine ⟨Nat.le_trans h.only.size h1, fun q => ?_⟩
      have := h.el i q
      omega
    · exact q2 i hi
  · rcases List.mem_cons.1 hi with rfl | hi
    · simp
    · exact List.mem_cons_of_mem _ (q3 i hi)
  · rcases List.mem_cons.1 q with rfl | q
    · have := q1.lt i hi
      omega
    · exact q4 i hi q
/-- One more block that is only read. -/
theorem HasS.addE (h : HasS a w R E sb mb s N) (k : Only [] w w') {g : Nat} (h1 : w.heap.size ≤ g) (h2 : g < w'.heap.size) : HasS a w' R (g :: E) sb mb s N := by
  obtain ⟨M, av, pf, q1, q2, q3, q4⟩ := h.st
  refine ⟨h.only.trans k, ⟨M, av, pf, q1.only0 k, fun i hi => ⟨(q2 i hi).1, fun q => ?_⟩, q3, q4⟩, fun i hi => ?_, h.ok, h.inv⟩
  · rcases List.mem_cons.1 q with rfl | q
    · have := q1.mlt i hi
      omega
    · exact (q2 i hi).2 q
  · rcases List.mem_cons.1 hi with rfl | hi
    · exact h2
    · exact Nat.lt_of_lt_of_le (h.el i hi) k.size
theorem HasS.ownR (h : HasS a w R E sb mb s N) (k : Only [] w w') {e : TypeId} {size n : Nat} {v : Value} {xs : List Value} (ho : w'.ownsRow w.heap.size e size v n xs) : HasS a w' (v.ownBlock.toList ++ R) E sb mb s N := by
  cases hv : v.ownBlock with
  | none => simpa [hv] using h.keep k
  | some g =>
    have := ho.lt g hv
    simpa [hv] using h.addR k this.1 this.2
theorem HasS.less (h : HasS a w R E sb mb s N) (hr : ∀ g ∈ R', g ∈ R) (he : ∀ g ∈ E', g ∈ E) : HasS a w R' E' sb mb s N := by
  obtain ⟨M, av, pf, q1, q2, q3, q4⟩ := h.st
  exact ⟨h.only, ⟨M, av, pf, q1, fun g hg => ⟨(q2 g hg).1, fun q => (q2 g hg).2 (he g q)⟩, fun g hg => q3 g (hr g hg), fun g hg q => q4 g hg (hr g q)⟩, fun g hg => h.el g (he g hg), h.ok, h.inv⟩
/-- Blocks of one's own turn: the state stays. -/
theorem HasS.turn {S : List Nat} (h : HasS a w R E sb mb s N) (k : Only S w w') (hS : ∀ g ∈ S, g ∈ R) : HasS a w' R E sb mb s N := by
  obtain ⟨M, av, pf, q1, q2, q3, q4⟩ := h.st
  exact ⟨h.only.step k (fun g hg => .inr (q2 g (q3 g (hS g hg))).1), ⟨M, av, pf, q1.only k (fun g hg => q3 g (hS g hg)) (fun g hg q => q4 g hg (hS g q)), q2, q3, q4⟩, fun g hg => Nat.lt_of_lt_of_le (h.el g hg) k.size, h.ok, h.inv⟩
theorem HasS.setCell (h : HasS a w R E sb mb s N) {p : Addr} (hp : p.block ∈ R) (u : Value) : HasS a (w.setCell p u) R E sb mb s N := h.turn (S := [p.block]) ((Only.refl _ w).setCell (.inl (by simp)) u) (by simpa using hp)
theorem HasS.more (h : HasS a w R E sb mb s N) {N' : Nat} (hn : N ≤ N') : HasS a w R E sb mb s N' := ⟨h.only, h.st, h.el, h.ok.more hn, h.inv⟩
theorem has_newS (a w : World) (ha : Only [] a w) (E : List Nat) (hE : ∀ g ∈ E, g < w.heap.size) : Calls Tryz.prog 8 #[] w fun e w' => e = .returned (.pointer (some ⟨w.heap.size + 1, 0, none⟩)) ∧ HasS a w' [] E (w.heap.size + 1) w.heap.size MS.new 0 ∧ Only [] w w' :=
  (newS_any w (fun _ => .slice none 0 0)).mono fun e w' ⟨h1, h2, h3⟩ => ⟨h1, ⟨ha.trans h3, ⟨_, _, _, h2, fun g hg => by
    have := ha.size
    simp at hg
    refine ⟨by omega, fun q => ?_⟩
    have := hE g q
    omega, fun g hg => (by cases hg), fun g hg q => (by cases q)⟩, fun g hg => Nat.lt_of_lt_of_le (hE g hg) h3.size, MS.new_ok, inv_new⟩, h3⟩
/-- A command's events, where they lie. -/
def EvIn (a w : World) (E : List Nat) (ev : Value) (l : List EventR) : Prop := Slc w 4 ev l.length (l.flatMap EventR.cells) ∧ ∀ g, ev.ownBlock = some g → (g < a.heap.size ∨ g ∈ E) ∨ l.length = 0
theorem has_do {c : Cmd} {ev : Value} (h : HasS a w R E sb mb s N) (hN : N ≤ 100000) (hc : CmdOk c) (he : EvIn a w E ev c.events) :
    Calls Tryz.prog 9 #[.pointer (some ⟨sb, 0, none⟩), c.val ev] w fun e w' => e = .returned (s.do c).1.val ∧ HasS a w' R E sb mb (s.do c).2 (N + 1) ∧ Keeps a (R ++ E) w w' := by
  obtain ⟨M, av, pf, h1, h2, h3, h4⟩ := h.st
  have hrd : Rd M w 4 ev c.events.length (c.events.flatMap EventR.cells) := ⟨he.1, fun g hg => by
    rcases he.2 g hg with (q | q) | q
    · exact .inl ⟨fun q2 => by have := (h2 g q2).1; omega, Nat.lt_of_lt_of_le q h.only.size⟩
    · exact .inl ⟨fun q2 => (h2 g q2).2 q, h.el g q⟩
    · exact .inr q⟩
  refine (do_any h1 h.ok hN hc hrd).mono fun e w' ⟨q1, M', av', pf', q2, q3, q4, q5, q6⟩ => ⟨q1, ?_, ⟨_, q3, fun g hg => ⟨(h2 g (h1.hMM g hg)).1, fun q => ?_⟩⟩⟩
  · refine ⟨h.only.step q3 (fun g hg => .inr (h2 g (h1.hMM g hg)).1), ⟨M', av', pf', q2, fun g hg => ?_, fun g hg => q4 g (h3 g hg), fun g hg q => ?_⟩, fun g hg => Nat.lt_of_lt_of_le (h.el g hg) q3.size, MS.do_ok h.ok c, inv_do h.inv c⟩
    · rcases q5 g hg with q | q
      · exact h2 g q
      · refine ⟨Nat.le_trans h.only.size q, fun q7 => ?_⟩
        have := h.el g q7
        omega
    · simp only [hM, List.mem_cons, Option.mem_toList] at hg
      rcases hg with rfl | rfl | hg
      · exact h4 _ (by simp [hM]) q
      · exact h4 _ (by simp [hM]) q
      · rcases q6 g hg with q7 | q7
        · exact h4 g (by simp [hM, q7]) q
        · have := h1.mlt g (h3 g q)
          omega
  · rcases List.mem_append.1 q with q | q
    · exact h4 g hg q
    · exact (h2 g (h1.hMM g hg)).2 q
theorem has_read (h : HasS a w R E sb mb s N) (hN : N ≤ 100000) (n : ByteArray) (hn : n.size ≤ maxLen) (f k : Int) : Calls Tryz.prog 80 #[.pointer (some ⟨sb, 0, none⟩), .string n, .int .i64 f, .int .i64 k, .bool false] w (PageRet w (s.readF n f k)) := by
  obtain ⟨M, av, pf, h1, h2⟩ := h.st
  exact readF_any h1 h.ok hN n hn f k (seenL_vers h.inv h.ok hN n)
end
end Go.Proofs.YteinoiicnmemhaaGreatDoor
