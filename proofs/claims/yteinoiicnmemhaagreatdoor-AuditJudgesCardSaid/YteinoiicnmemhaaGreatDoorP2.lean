/- Proved here: contracts of functions and plain laws, part 2 of one proof. Conditions: each theorem names its own. -/
import Derived.Test.YteinoiicnmemhaaGreatDoorP1
import Derived.Test.YteinoiicnmemhaaGreatDoorProg
import Derived.Deep.AppendLies
import Derived.Lib.AppendZeros
import Derived.RegionTactic
import Derived.ChangeAlike
import Derived.Deep.DeepCutAuto
import Derived.Laws.BytesArg
import Derived.Lib.ConvBytes
import Derived.Lib.SliceRun
/- The base of the texts about logs: rows of one's own, slices that are read, appends as runs, strings that are compared. -/
set_option linter.unusedVariables false
set_option linter.unusedSimpArgs false
namespace Go.Proofs.YteinoiicnmemhaaGreatDoor.J
open Go.RowKit Go
theorem ret_b {a b : Bool} (h : a = b) : Ending.returned (.bool a) = .returned (.bool b) := by rw [h]
theorem ret_i {a b : Int} (h : a = b) : Ending.returned (.int .i64 a) = .returned (.int .i64 b) := by rw [h]
theorem own_form {w : World} {base size n : Nat} {e : TypeId} {v : Value} {xs : List Value} (h : w.ownsRow base e size v n xs) : ∃ A cap, v = .slice A n cap ∧ n ≤ cap ∧ cap ≤ maxLen := by
  obtain ⟨_, h2⟩ := h
  rcases h2 with ⟨rfl, rfl⟩ | ⟨g, cap, cur, rfl, hb, hg, hn, hc, _⟩
  · exact ⟨none, 0, rfl, Nat.le_refl _, Nat.zero_le _⟩
  · exact ⟨_, cap, rfl, hn, hc⟩
theorem own_base {w : World} {base base' size n : Nat} {e : TypeId} {v : Value} {xs : List Value} (h : w.ownsRow base e size v n xs) (hb : base' ≤ base) : w.ownsRow base' e size v n xs := by
  obtain ⟨h1, h2⟩ := h
  rcases h2 with q | ⟨g, cap, cur, q1, q2, q3⟩
  · exact ⟨h1, .inl q⟩
  · exact ⟨h1, .inr ⟨g, cap, cur, q1, Nat.le_trans hb q2, q3⟩⟩
theorem own_some {w : World} {base size n : Nat} {e : TypeId} {v : Value} {xs : List Value} (h : w.ownsRow base e size v n xs) (h0 : 0 < n) : ∃ g cap cur, v = .slice (some ⟨g, 0, none⟩) n cap ∧ base ≤ g ∧ Blk w g e cur := by
  obtain ⟨_, h2⟩ := h
  rcases h2 with ⟨rfl, rfl⟩ | ⟨g, cap, cur, rfl, hb, hg, _⟩
  · omega
  · exact ⟨g, cap, cur, rfl, hb, hg⟩
theorem own_type {w : World} {base size n : Nat} {e : TypeId} {v : Value} {xs : List Value} (h : w.ownsRow base e size v n xs) {g : Nat} (hg : v.ownBlock = some g) : ∃ cur, Blk w g e cur := by
  obtain ⟨_, h2⟩ := h
  rcases h2 with ⟨rfl, rfl⟩ | ⟨g', cap, cur, rfl, hb, hg', _⟩
  · cases hg
  · cases hg; exact ⟨cur, hg'⟩
theorem slc_new1 {w : World} {e : TypeId} {size : Nat} {cs : List Value} (hs : cs.length = 1 * size) : Slc (w.alloc (.cells cs.toArray e)) size (.slice (some ⟨w.heap.size, 0, none⟩) 1 1) 1 cs := by
  have hb := Blk.new w e cs.toArray
  refine ⟨_, 1, rfl, hs, Nat.le_refl _, by simp [maxLen], fun _ => ⟨w.heap.size, 0, rfl, hb.lt, fun j hj => ?_⟩⟩
  rw [Nat.zero_add, hb.cell j]
  simp
theorem slc_take {w : World} {size n cap k : Nat} {A : Option Addr} {cs : List Value} (h : Slc w size (.slice A n cap) n cs) (hk : k ≤ n) : Slc w size (.slice A k cap) k (cs.take (k * size)) := by
  obtain ⟨A', cap', e, h1, h2, h3, h4⟩ := h
  injection e with e1 e2 e3
  subst e1 e3
  have hm : k * size ≤ n * size := Nat.mul_le_mul_right _ hk
  refine ⟨A, cap, rfl, by rw [List.length_take, h1]; omega, by omega, h3, fun hn => ?_⟩
  obtain ⟨b, off, rfl, hb, hc⟩ := h4 (by omega)
  refine ⟨b, off, rfl, hb, fun j hj => ?_⟩
  rw [List.length_take] at hj
  rw [hc j (by omega), List.getElem?_take, if_pos (by omega)]
/-! ## DeleteFunc of texts that are not too long, by a closure that holds nothing -/
theorem run_append_zero {P : Program} (w : World) (t e ty : TypeId) (A B : Option Addr) (size n cap c : Nat) (ht : P.underlying t = some (.slice e)) (hs : (Go.sizeOf e).run P w = .ok size w) (hnc : n ≤ cap) :
    (Builtin.append_ #[t, t] ty #[.slice A n cap, .slice B 0 c]).run P w = .ok (.slice A n cap) w := by
  cases A <;> cases B <;> simp [Builtin.append_, run_underlying ht, hs, hnc, Builtin.lenOf, Builtin.firstCells, storeCells, loadCells, loadCellsFrom]
theorem run_app {P : Program} {w : World} (t ty : TypeId) (base : Nat) (e : TypeId) (z : Value) (size bytes : Nat) (ht : P.underlying t = some (.slice e)) (hi : (P.info? e).map (fun i => (i.zero, i.size, i.bytes)) = some (some z, size, bytes))
    (hzs : z.cells.size = size) (hsz : 0 < size) {v : Value} {n : Nat} {xs : List Value} (hown : w.ownsRow base e size v n xs) {u : Value} {m : Nat} {cells : List Value} (hsl : Slc w size u m cells)
    (h1 : ∀ u ∈ cells, u.oneCell' = true) (hb : (n + m) * bytes ≤ 140737488355328) (hm : n + m ≤ maxLen) (hbase : base ≤ w.heap.size) :
    ∃ A cap w', (Builtin.append_ #[t, t] ty #[v, u]).run P w = .ok (.slice A (n + m) cap) w' ∧ w'.ownsRow base e size (.slice A (n + m) cap) (n + m) (xs ++ cells) ∧ Only v.ownBlock.toList w w' ∧
      ∀ g, (Value.slice A (n + m) cap).ownBlock = some g → v.ownBlock = some g ∨ w.heap.size ≤ g := by
  obtain ⟨i, hi1, hi2, hi3, hi4⟩ := info_parts hi
  obtain ⟨B, c, rfl, hl, hc1, hc2, hc⟩ := hsl
  by_cases h0 : m = 0
  · subst h0
    have hcn : cells = [] := List.eq_nil_of_length_eq_zero (by rw [hl]; simp)
    subst hcn
    obtain ⟨A, cap, rfl, hnc, _⟩ := own_form hown
    have hs : (Go.sizeOf e).run P w = .ok size w := by simp [Go.sizeOf, typeInfo, hi1, hi3]
    exact ⟨A, cap, w, run_append_zero w t e ty A B size n cap c ht hs hnc, by simpa using hown, Only.refl _ _, fun g hg => .inl hg⟩
  · obtain ⟨b, off, rfl, hb1, hcc⟩ := hc (by omega)
    obtain ⟨g, cap, w', hr, h2, h3, h4, _⟩ := run_append_lies (P := P) w t ty base e i z size bytes ht hi1 hi2 hi3 hi4 hzs hsz v n xs hown ⟨b, off, none⟩ m c cells hl (fun j x hx => by
      have hj : j < cells.length := (List.getElem?_eq_some_iff.1 hx).1
      rw [show ((⟨b, off, none⟩ : Addr).add j) = ⟨b, off + j, none⟩ by simp [Addr.add], hcc j hj, hx]) h1 (by omega) hm hb hbase w.heap.size rfl
    refine ⟨_, cap, w', hr, h2, (Only.refl _ _).grown h3 (fun k hk => .inl (by simp [hk])), fun x hx => ?_⟩
    have hx' : g = x := by simpa [Value.ownBlock] using hx
    subst hx'
    rcases h4 with h4 | h4
    · exact .inl h4
    · exact .inr (by omega)
theorem toList_decJ (a b : ByteArray) : (a.toList == b.toList) = decide (a = b) := by
  rw [ByteArray.toList_eq, ByteArray.toList_eq]
  by_cases h : a = b
  · rw [h]; simp
  · rw [decide_eq_false h, beq_eq_false_iff_ne]
    exact fun e => h (bts_inj e)
theorem infoSJ : (Tryz.prog.info? 9).map (fun i => (i.zero, i.size, i.bytes)) = some (some (.string ⟨#[]⟩), 1, 16) := by kernel_rfl
theorem infoU8 : (Tryz.prog.info? 5).map (fun i => (i.zero, i.size, i.bytes)) = some (some (.int .u8 0), 1, 1) := by kernel_rfl
theorem infoIJ : (Tryz.prog.info? 3).map (fun i => (i.zero, i.size, i.bytes)) = some (some (.int .i64 0), 1, 8) := by kernel_rfl
end Go.Proofs.YteinoiicnmemhaaGreatDoor.J
/- Contract: again. -/
set_option linter.unusedVariables false
set_option linter.unusedSimpArgs false
namespace Go.Proofs.YteinoiicnmemhaaGreatDoor
open Go.RowKit
theorem sameIds_drop (all : List StoredR) (es : List EventR) (ps : List Int) (k v : Nat) (hk : k < es.length) (hp : v + k < ps.length) :
    sameIds all (es.drop k) (ps.drop (v + k)) = (decide (idAt all ps[v + k] = es[k].id) && sameIds all (es.drop (k + 1)) (ps.drop (v + (k + 1)))) := by
  rw [List.drop_eq_getElem_cons hk, List.drop_eq_getElem_cons hp]
  rfl
set_option maxRecDepth 100000 in
set_option maxHeartbeats 4000000 in
theorem again_any {w : World} {M : List Nat} {sb mb v : Nat} {av pv ev : Value} {pf : ByteArray → Value} {s : MS} {x : StreamR} {c : Cmd} (h : StAt w M sb mb av pf s) (hx : XOk s x) (hp : Slc w 1 pv x.places.length (ints x.places))
    (he : Slc w 4 ev c.events.length (c.events.flatMap EventR.cells)) (hl : x.places.length ≤ 1000000000) (hel : 1 ≤ c.events.length ∧ c.events.length ≤ 8) (hv : v ≤ x.places.length) :
    Calls Tryz.prog 62 #[.pointer (some ⟨sb, 0, none⟩), c.val ev, x.val pv, .int .i64 v] w fun e w' => e = .returned (s.again c x v).val ∧ Only [] w w' := by
  obtain ⟨A, cap, hpv, hn1, hn2, hps⟩ := hp.openI
  obtain ⟨A1, cap1, hev, hn3, hn4, hes⟩ := he.openE EventR.cells (fun _ => rfl)
  obtain ⟨A2, cap2, rfl, hnc2, hcm2, hel2⟩ := h.cell
  unfold maxLen at hn2 hn4 hcm2
  have HWr := Lib.hid (fun (W : World) (hw : Only [] w W) => wrong_any (x := x) (hp.only0 hw) hl)
  have hW : Hid ((fitsAgain c v = false ∨ (x.places.length : Int) - v < c.events.length) → s.again c x v = wrong x) := fun q => by unfold MS.again; rw [if_pos q]
  have hG : Hid (fitsAgain c v = true → ¬ ((x.places.length : Int) - v < c.events.length) → s.again c x v = if sameIds s.all c.events (x.places.drop v) then ⟨0, v, (x.places[((v : Int) + c.events.length - 1).toNat]?).getD 0, true⟩ else wrong x) := fun q1 q2 => by
    unfold MS.again
    rw [if_neg (by simp only [q1]; simp; omega)]
    simp
  have hpl := hx.pl
  have c0 : w.cell? ⟨sb, 0, none⟩ = some (.slice A2 s.all.length cap2) := h.blk.cell 0
  have C0 := Lib.hid c0
  have hsb := h.blk.lt
  have h000 : ∀ o1 o2 o3, Only [] w (((w.alloc o1).alloc o2).alloc o3) := fun o1 o2 o3 => (((Only.refl [] w).alloc _).alloc _).alloc _
  have bC : ∀ cs t o2 o3, Blk (((w.alloc (.cells cs t)).alloc o2).alloc o3) w.heap.size t cs := fun cs t o2 o3 => (((Only.refl [] _).alloc o2).alloc o3).blk (Blk.new w t cs) (by simp)
  have bX : ∀ cs t o1 o3, Blk (((w.alloc o1).alloc (.cells cs t)).alloc o3) (w.heap.size + 1) t cs := fun cs t o1 o3 => by
    have := ((Only.refl [] _).alloc o3).blk (Blk.new (w.alloc o1) t cs) (by simp)
    simpa using this
  have bA : ∀ o1 o2, Blk (((w.alloc o1).alloc o2).alloc (.cells #[.int .i64 0, .int .i64 0, .int .i64 0, .bool false] 34)) (w.heap.size + 1 + 1) 34 #[.int .i64 0, .int .i64 0, .int .i64 0, .bool false] := fun o1 o2 => by
    have := Blk.new ((w.alloc o1).alloc o2) 34 #[.int .i64 0, .int .i64 0, .int .i64 0, .bool false]
    simpa using this
  subst hpv hev
  obtain ⟨places, ⟨a, b, d⟩, fl, del⟩ := x
  obtain ⟨kind, time, stream, ex, l, ⟨a1, b1, d1⟩⟩ := c
  simp only [StreamR.val, Cmd.val] at HWr hW hG hps hes hpl hl hel hv hn1 hn3 ⊢
  simp only [wrong, Ans.val] at HWr
  obtain ⟨hel1, hel8⟩ := hel
  clear hp he hx c0
  obtain ⟨res, hres⟩ : ∃ res, res = s.again ⟨kind, time, stream, ex, l, ⟨a1, b1, d1⟩⟩ ⟨places, ⟨a, b, d⟩, fl, del⟩ v := ⟨_, rfl⟩
  rw [← hres] at hW hG ⊢
  clear hres
  go_enter Tryz.func62, Tryz.ntmps62
  go_upto_region 1 with (fail)
  go_cut [9] (fun s9 wx => s9 = .bool (fitsAgain ⟨kind, time, stream, ex, l, ⟨a1, b1, d1⟩⟩ v) ∧ Only [] w wx ∧ Blk wx w.heap.size 40 #[.int .i64 kind, .int .i64 time, .string stream, .int .i64 ex, .slice A1 l.length cap1, .int .i64 a1, .int .i64 b1, .int .i64 d1] ∧
    Blk wx (w.heap.size + 1) 75 #[.slice A places.length cap, .int .i64 a, .int .i64 b, .int .i64 d, .int .i64 fl, .bool del] ∧ Blk wx (w.heap.size + 1 + 1) 34 #[.int .i64 0, .int .i64 0, .int .i64 0, .bool false])
  case first =>
    cases h2 : (ex == -2)
    · have g2 : ¬ ex = -2 := by simpa using h2
      cases h4 : (ex == -4)
      · have g4 : ¬ ex = -4 := by simpa using h4
        cases h1 : (ex == -1)
        · have g1 : ¬ ex = -1 := by simpa using h1
          cases hv1 : (ex == (v : Int) - 1)
          · have gv : ¬ ex = (v : Int) - 1 := by simpa using hv1
            have hr : Hid (fitsAgain ⟨kind, time, stream, ex, l, ⟨a1, b1, d1⟩⟩ v = false) := by unfold Hid; simp [fitsAgain]; omega
            go_wp2_with fail
            go_meet
            refine ⟨?_, h000 _ _ _, bC _ _ _ _, bX _ _ _ _, bA _ _⟩
            rw [hr.out]
          · have gv : ex = (v : Int) - 1 := by simpa using hv1
            have h0 : 0 < v := by omega
            have hr : Hid (fitsAgain ⟨kind, time, stream, ex, l, ⟨a1, b1, d1⟩⟩ v = true) := by unfold Hid; simp [fitsAgain]; omega
            clear gv
            go_wp2_with fail
            go_meet
            refine ⟨?_, h000 _ _ _, bC _ _ _ _, bX _ _ _ _, bA _ _⟩
            rw [hr.out]
        · have g1 : ex = -1 := by simpa using h1
          cases hv1 : (ex == (v : Int) - 1)
          · have gv : ¬ ex = (v : Int) - 1 := by simpa using hv1
            have hz : ((v : Int) == 0) = false := by rw [beq_eq_false_iff_ne]; omega
            have hz' : (v == 0) = false := by rw [beq_eq_false_iff_ne]; omega
            have hr : Hid (fitsAgain ⟨kind, time, stream, ex, l, ⟨a1, b1, d1⟩⟩ v = false) := by unfold Hid; simp [fitsAgain]; omega
            clear gv g1
            go_wp2_with fail
            go_meet
            refine ⟨?_, h000 _ _ _, bC _ _ _ _, bX _ _ _ _, bA _ _⟩
            rw [hr.out]
          · have gv : ex = (v : Int) - 1 := by simpa using hv1
            have h0 : ¬ 0 < v := by omega
            have hz : ((v : Int) == 0) = true := by rw [beq_iff_eq]; omega
            have hz' : (v == 0) = true := by rw [beq_iff_eq]; omega
            have hr : Hid (fitsAgain ⟨kind, time, stream, ex, l, ⟨a1, b1, d1⟩⟩ v = true) := by unfold Hid; simp [fitsAgain]; omega
            have h0' : decide (0 < v) = false := by simpa using h0
            clear gv g1 h0
            go_wp2_with fail
            go_meet
            refine ⟨?_, h000 _ _ _, bC _ _ _ _, bX _ _ _ _, bA _ _⟩
            rw [hr.out]
      · have g4 : ex = -4 := by simpa using h4
        have hr : Hid (fitsAgain ⟨kind, time, stream, ex, l, ⟨a1, b1, d1⟩⟩ v = true) := by unfold Hid; simp [fitsAgain]; omega
        clear g4
        go_wp2_with fail
        go_meet
        refine ⟨?_, h000 _ _ _, bC _ _ _ _, bX _ _ _ _, bA _ _⟩
        rw [hr.out]
    · have g2 : ex = -2 := by simpa using h2
      have hr : Hid (fitsAgain ⟨kind, time, stream, ex, l, ⟨a1, b1, d1⟩⟩ v = true) := by unfold Hid; simp [fitsAgain]; omega
      clear g2
      go_wp2_with fail
      go_meet
      refine ⟨?_, h000 _ _ _, bC _ _ _ _, bX _ _ _ _, bA _ _⟩
      rw [hr.out]
  case rest =>
    obtain ⟨rfl, hO, BC, BX, BA⟩ := hcut
    have hC := fun i => BC.cell i
    have hX := fun i => BX.cell i
    have hA := fun i => BA.cell i
    have hAf := fun i => BA.free i
    cases hf : fitsAgain ⟨kind, time, stream, ex, l, ⟨a1, b1, d1⟩⟩ v
    · have hE := hW.out (.inl hf)
      go_wp2_with (go_at_call 60; refine (HWr.out _ (hO)).mono ?_; rintro e w2 ⟨rfl, ho2⟩; have hA2 := fun i => (((Only.refl [] wc).trans ho2).blk BA (by simp)).cell i; have hAf2 := fun i => (((Only.refl [] wc).trans ho2).blk BA (by simp)).free i)
      exact bodyPost_ret (v := .agg #[.int .i64 22, .int .i64 ((places.length : Int) - 1), .int .i64 0, .bool false]) (by simp [results, Tryz.results62, go_sem, hA2]) rfl ⟨by rw [hE]; rfl, by repeat (first | exact (hO).trans ho2 | refine Only.setCell ?_ (.inr (by simp; omega)) _)⟩
    · by_cases hlen : (places.length : Int) - v < l.length
      · have hE := hW.out (.inr hlen)
        go_wp2_with (go_at_call 60; refine (HWr.out _ (hO)).mono ?_; rintro e w2 ⟨rfl, ho2⟩; have hA2 := fun i => (((Only.refl [] wc).trans ho2).blk BA (by simp)).cell i; have hAf2 := fun i => (((Only.refl [] wc).trans ho2).blk BA (by simp)).free i)
        exact bodyPost_ret (v := .agg #[.int .i64 22, .int .i64 ((places.length : Int) - 1), .int .i64 0, .bool false]) (by simp [results, Tryz.results62, go_sem, hA2]) rfl ⟨by rw [hE]; rfl, by repeat (first | exact (hO).trans ho2 | refine Only.setCell ?_ (.inr (by simp; omega)) _)⟩
      · have hE := Lib.hid (hG.out hf hlen)
        have hsf := stF
        go_wp2_with fail
        clear hC hX hA hAf
        go_loopw [58] (fun i wr => ∃ k : Nat, k ≤ l.length ∧ i = .int .i64 k ∧ Hid (sameIds s.all l (places.drop v) = sameIds s.all (l.drop k) (places.drop (v + k))) ∧ Only [] wc wr) (fun i _ => l.length - (intOf i).toNat)
        case atStart => exact ⟨0, Nat.zero_le _, rfl, rfl, Only.refl _ _⟩
        case round =>
          obtain ⟨k, hk, rfl, hT, hOr⟩ := hrel
          have hO' := hO.trans hOr
          have s0 : wr.cell? ⟨sb, 0, none⟩ = some (.slice A2 s.all.length cap2) := (hO'.cell hsb (by simp)).trans C0.out
          have hC := fun i => (hOr.blk BC (by simp)).cell i
          have hX := fun i => (hOr.blk BX (by simp)).cell i
          have hA := fun i => (hOr.blk BA (by simp)).cell i
          have hAf := fun i => (hOr.blk BA (by simp)).free i
          by_cases hlt : k < l.length
          · have hvk : v + k < places.length := by omega
            obtain ⟨be, offe, rfl, hbe, hce⟩ := hes k hlt
            obtain ⟨bp, offp, rfl, hbp, hcp⟩ := hps (v + k) hvk
            obtain ⟨hp0, hp1⟩ := hpl _ (List.getElem_mem hvk)
            obtain ⟨q, hq⟩ := Int.eq_ofNat_of_zero_le hp0
            have hqa : q < s.all.length := by omega
            obtain ⟨b2, rfl, hb2, hc2⟩ := hel2 q hqa
            have sd := sameIds_drop s.all l places k v hlt hvk
            rw [hq, idAt_nat hqa] at sd
            rw [hq, ← hO'.cell hbp (by simp)] at hcp
            have i0 : wr.cell? ⟨b2, q * 8, none⟩ = some (.int .i64 s.all[q].ev.id) := (hO'.cell hb2 (by simp)).trans (hc2 0 (by omega))
            obtain ⟨y, hy⟩ : ∃ y, y = l[k] := ⟨_, rfl⟩
            obtain ⟨z, hz⟩ : ∃ z, z = s.all[q].ev.id := ⟨_, rfl⟩
            rw [← hy] at hce sd
            rw [← hz] at i0 sd
            have e0 : wr.cell? ⟨be, offe + k * 4, none⟩ = some (.int .i64 y.id) := (hO'.cell hbe (by simp)).trans (hce 0 (by omega))
            have e1 : wr.cell? ⟨be, offe + k * 4 + 1, none⟩ = some (.string y.type) := (hO'.cell hbe (by simp)).trans (hce 1 (by omega))
            have e2 : wr.cell? ⟨be, offe + k * 4 + 2, none⟩ = some (.string y.data) := (hO'.cell hbe (by simp)).trans (hce 2 (by omega))
            have e3 : wr.cell? ⟨be, offe + k * 4 + 3, none⟩ = some (.float .f64 y.value) := (hO'.cell hbe (by simp)).trans (hce 3 (by omega))
            have hqi : (q : Int) < s.all.length := by omega
            have hvi : (v : Int) + k < places.length := by omega
            have s0a := fun o => (World.cell?_alloc_lt wr o _ (block_lt_of_cell s0)).trans s0
            have pa := fun o => (World.cell?_alloc_lt wr o _ (block_lt_of_cell hcp)).trans hcp
            have ia := fun o => (World.cell?_alloc_lt wr o _ (block_lt_of_cell i0)).trans i0
            have hXa := fun o i => (((Only.refl [] wr).alloc o).blk (hOr.blk BX (by simp)) (by simp)).cell i
            clear hy hz hq hce hc2 hes hps hel2 hpl
            by_cases heq : z = y.id
            · have hne : (z != y.id) = false := by simpa using heq
              have HS : Hid (sameIds s.all l (places.drop v) = sameIds s.all (l.drop (k + 1)) (places.drop (v + (k + 1)))) := by unfold Hid; rw [hT.out, sd, decide_eq_true heq, Bool.true_and]
              clear heq sd
              go_wp2_with fail
              have hw2 : (0 : Int) ≤ (v : Int) + k := by omega
              have hw3 : ((v : Int) + k).toNat = v + k := by omega
              have hw1 := IntWalk.i64_in ((v : Int) + k) ⟨by omega, by omega⟩
              refine wp_region_stail 17 (by kernel_rfl) (by kernel_rfl) ?_
              simp only [List.take_succ_cons, List.take_zero, List.drop_succ_cons, List.drop_zero]
              repeat still_step
              refine wpStill_nil ?_
              clear hw1 hw2 hw3
              go_wp2
              exact ⟨⟨k + 1, hlt, by simp, HS, (hOr.alloc _).drew⟩, by simp [intOf]; omega⟩
            · have hne : (z != y.id) = true := by simpa using heq
              have HS : res = wrong ⟨places, ⟨a, b, d⟩, fl, del⟩ := by rw [hE.out, hT.out, sd, decide_eq_false heq, Bool.false_and]; rfl
              have HS' := Lib.hid HS
              clear heq sd HS
              go_wp2_with fail
              have hw2 : (0 : Int) ≤ (v : Int) + k := by omega
              have hw3 : ((v : Int) + k).toNat = v + k := by omega
              have hw1 := IntWalk.i64_in ((v : Int) + k) ⟨by omega, by omega⟩
              refine wp_region_stail 17 (by kernel_rfl) (by kernel_rfl) ?_
              simp only [List.take_succ_cons, List.take_zero, List.drop_succ_cons, List.drop_zero]
              repeat still_step
              refine wpStill_nil ?_
              clear hw1 hw2 hw3
              go_wp2_with (go_at_call 60; refine (HWr.out _ ((hO'.alloc _).drew)).mono ?_; rintro e w2 ⟨rfl, ho2⟩; have hA2 := fun i => (((hOr.alloc _).drew.trans ho2).blk BA (by simp)).cell i; have hAf2 := fun i => (((hOr.alloc _).drew.trans ho2).blk BA (by simp)).free i)
              exact bodyPost_ret (v := .agg #[.int .i64 22, .int .i64 ((places.length : Int) - 1), .int .i64 0, .bool false]) (by simp [results, Tryz.results62, go_sem, hA2]) rfl ⟨by rw [HS'.out]; rfl, by repeat (first | exact ((hO'.alloc _).drew).trans ho2 | refine Only.setCell ?_ (.inr (by simp; omega)) _)⟩
          · have hkl : k = l.length := by omega
            have hvk : v + l.length - 1 < places.length := by omega
            obtain ⟨bp, offp, rfl, hbp, hcp⟩ := hps (v + l.length - 1) hvk
            rw [← hO'.cell hbp (by simp)] at hcp
            have HS : res = ⟨0, v, places[v + l.length - 1], true⟩ := by
              rw [hE.out, hT.out, hkl, List.drop_length]
              have : (((v : Int) + l.length - 1)).toNat = v + l.length - 1 := by omega
              rw [this]
              simp [sameIds, hvk]
            obtain ⟨pz, hpz⟩ : ∃ pz, pz = places[v + l.length - 1] := ⟨_, rfl⟩
            rw [← hpz] at hcp HS
            have HS' := Lib.hid HS
            have hvi : (v : Int) + l.length - 1 < places.length := by omega
            have hvi0 : 0 ≤ (v : Int) + l.length - 1 := by omega
            have htn : ((v : Int) + l.length - 1).toNat = v + l.length - 1 := by omega
            clear hpz hkl HS hps
            go_wp2
            exact bodyPost_ret (v := .agg #[.int .i64 0, .int .i64 v, .int .i64 pz, .bool true]) (by simp [results, Tryz.results62, go_sem, hA]) rfl ⟨by rw [HS'.out]; rfl, by repeat (first | exact hO' | refine Only.setCell ?_ (.inr (by simp; omega)) _)⟩
end Go.Proofs.YteinoiicnmemhaaGreatDoor
/- Contracts: Clone of ints; append. -/
set_option linter.unusedVariables false
set_option linter.unusedSimpArgs false
namespace Go.Proofs.YteinoiicnmemhaaGreatDoor
open Go.RowKit
set_option maxRecDepth 100000 in
theorem cloneI_any {w : World} {pv : Value} {zs : List Int} (h : Slc w 1 pv zs.length (ints zs)) (hb : zs.length ≤ 1000000000) :
    Calls Tryz.prog 99 #[pv] w fun e w' => ∃ v', e = .returned v' ∧ w'.ownsRow w.heap.size 3 1 v' zs.length (ints zs) ∧ Only [] w w' := by
  obtain ⟨i0, hi, hz0, hz1, hz2⟩ := info_parts infoI
  obtain ⟨A, cap, rfl, hnc, hcm, hl, hc⟩ := h.cell
  have hq := fun W a n c n' c' => Lib.run_eql_slice_nil (P := Tryz.prog) W 48 _ a n c n' c' Tryz.underlying48
  cases A with
  | none =>
    have h0 : zs = [] := by
      rcases hc with q | ⟨b, off, q, _⟩
      · exact List.length_eq_zero_iff.1 q
      · cases q
    subst h0
    go_enter Tryz.func99, Tryz.ntmps99
    go_wp2
    go_ret
    exact ⟨_, rfl, World.ownsRow_nil _ _ _ _, Only.refl _ _⟩
  | some ad =>
    obtain ⟨b, off, sp⟩ := ad
    have hcell : ∀ j u, (ints zs)[j]? = some u → (w.alloc (.cells #[] 3)).cell? ((⟨b, off, sp⟩ : Addr).add j) = some u := by
      intro j u hu
      have hj : j < (ints zs).length := (List.getElem?_eq_some_iff.1 hu).1
      rcases hc with q | ⟨b', off', q, hb', hcc⟩
      · rw [hl] at hj; omega
      · cases q
        have := hcc j hj
        rw [hu] at this
        rw [show ((⟨b, off, none⟩ : Addr).add j) = ⟨b, off + j, none⟩ by simp [Addr.add]]
        exact (World.cell?_alloc_lt w _ ⟨b, off + j, none⟩ hb').trans this
    have hcl : (ints zs).length = zs.length * 1 := hl
    unfold maxLen at hcm
    clear hl hc
    go_enter Tryz.func99, Tryz.ntmps99
    go_wp2_with (at_builtin; refine wpList_append_own _ rfl (.tmp 5) (.tmp 6) 48 rfl w.heap.size 3 i0 (.int .i64 0) 1 8 Tryz.underlying48 hi hz0 hz1 hz2 rfl (by decide) _ 0 [] rfl (World.ownsRow_made w #[] 0 (Nat.le_refl _) (Nat.zero_le _) rfl) ⟨b, off, sp⟩ zs.length cap (ints zs) rfl hcl hcell ?c2 ?c3 ?c4 ?c5 ?_)
    case c2 => intro u hu; unfold ints at hu; obtain ⟨z, _, rfl⟩ := List.mem_map.1 hu; rfl
    case c3 => unfold maxLen; omega
    case c4 => omega
    case c5 => simp
    intro v' w4 hown' hgrow _
    have hown2 : w4.ownsRow w.heap.size 3 1 v' zs.length (ints zs) := by simpa using hown'
    have ho4 : Only [] w w4 := ((Only.refl [] w).alloc _).grown hgrow (fun k hk => .inr (by cases hk; exact Nat.le_refl _))
    clear hgrow
    go_wp2
    go_ret
    exact ⟨_, rfl, hown2, ho4⟩
end Go.Proofs.YteinoiicnmemhaaGreatDoor
/- Contract: append. -/
set_option linter.unusedVariables false
set_option linter.unusedSimpArgs false
namespace Go.Proofs.YteinoiicnmemhaaGreatDoor
open Go.RowKit
theorem infoSt : (Tryz.prog.info? 92).map (fun i => (i.zero, i.size, i.bytes)) = some (some (.agg #[.int .i64 0, .string ⟨#[]⟩, .string ⟨#[]⟩, .float .f64 0, .string ⟨#[]⟩, .int .i64 0, .int .i64 0, .int .i64 0]), 8, 88) := by kernel_rfl
theorem own_form {w : World} {base size n : Nat} {e : TypeId} {v : Value} {xs : List Value} (h : w.ownsRow base e size v n xs) : ∃ A cap, v = .slice A n cap ∧ n ≤ cap ∧ cap ≤ maxLen := by
  obtain ⟨_, h2⟩ := h
  rcases h2 with ⟨rfl, rfl⟩ | ⟨g, cap, cur, rfl, hb, hg, hn, hc, _⟩
  · exact ⟨none, 0, rfl, Nat.le_refl _, Nat.zero_le _⟩
  · exact ⟨_, cap, rfl, hn, hc⟩
theorem own_base {w : World} {base base' size n : Nat} {e : TypeId} {v : Value} {xs : List Value} (h : w.ownsRow base e size v n xs) (hb : base' ≤ base) : w.ownsRow base' e size v n xs := by
  obtain ⟨h1, h2⟩ := h
  rcases h2 with q | ⟨g, cap, cur, q1, q2, q3⟩
  · exact ⟨h1, .inl q⟩
  · exact ⟨h1, .inr ⟨g, cap, cur, q1, Nat.le_trans hb q2, q3⟩⟩
theorem own_some {w : World} {base size n : Nat} {e : TypeId} {v : Value} {xs : List Value} (h : w.ownsRow base e size v n xs) (h0 : 0 < n) : ∃ g cap cur, v = .slice (some ⟨g, 0, none⟩) n cap ∧ base ≤ g ∧ Blk w g e cur := by
  obtain ⟨_, h2⟩ := h
  rcases h2 with ⟨rfl, rfl⟩ | ⟨g, cap, cur, rfl, hb, hg, _⟩
  · omega
  · exact ⟨g, cap, cur, rfl, hb, hg⟩
theorem own_type {w : World} {base size n : Nat} {e : TypeId} {v : Value} {xs : List Value} (h : w.ownsRow base e size v n xs) {g : Nat} (hg : v.ownBlock = some g) : ∃ cur, Blk w g e cur := by
  obtain ⟨_, h2⟩ := h
  rcases h2 with ⟨rfl, rfl⟩ | ⟨g', cap, cur, rfl, hb, hg', _⟩
  · cases hg
  · cases hg; exact ⟨cur, hg'⟩
theorem news_blk {w : World} {g : Nat} {e : TypeId} {us : List Value} (hb : Blk w g e us.toArray) : ∀ j x, us[j]? = some x → w.cell? ((⟨g, 0, none⟩ : Addr).add j) = some x := by
  intro j x hx
  rw [Addr.add_lit, Nat.zero_add, hb.cell j]
  simpa using hx
theorem wpList_append_lies {P : Program} {w : World} {ops : Array Oper} {rest : List Oper} {o : Oper} {a : Act} {Q : Exit → Act → World → Prop} (hgd : o.guard = none) (s x : Operand) (t : TypeId)
    (ho : o.op = .call { callee := .builtin .append, args := #[s, x], argTypes := #[t, t] })
    (base : Nat) (e : TypeId) (i : TypeInfo) (z : Value) (size bytes : Nat) (ht : P.underlying t = some (.slice e)) (hi : P.info? e = some i) (hz : i.zero = some z)
    (hsize : i.size = size) (hby : i.bytes = bytes) (hzs : z.cells.size = size) (hsz : 0 < size)
    (v : Value) (n : Nat) (xs : List Value) (hs : a.eval s = v) (hown : w.ownsRow base e size v n xs)
    (ad : Addr) (m c : Nat) (news : List Value) (hx : a.eval x = .slice (some ad) m c) (hl : news.length = m * size) (hnews : ∀ j u, news[j]? = some u → w.cell? (ad.add j) = some u) (h1 : ∀ u ∈ news, u.oneCell' = true)
    (hm : 0 < m) (h63 : n + m ≤ maxLen) (hbytes : (n + m) * bytes ≤ 140737488355328) (hbase : base ≤ w.heap.size)
    (h : ∀ g cap w', w'.ownsRow base e size (.slice (some ⟨g, 0, none⟩) (n + m) cap) (n + m) (xs ++ news) → w.grownBy w' v.ownBlock → (v.ownBlock = some g ∨ g = w.heap.size) → g < w'.heap.size → wpList P ops Q rest (a.put o.dst (.slice (some ⟨g, 0, none⟩) (n + m) cap)) w') :
    wpList P ops Q (o :: rest) a w :=
  wpList_plain hgd fun _ hK => wp_append_lies w s x t ho base e i z size bytes ht hi hz hsize hby hzs hsz v n xs hs hown ad m c news hx hl hnews h1 hm h63 hbytes hbase w.heap.size rfl fun g cap w' q1 q2 q3 q4 => hK _ _ (h g cap w' q1 q2 q3 q4)
theorem size_setCell (w : World) (p : Addr) (v : Value) : (w.setCell p v).heap.size = w.heap.size := by simp [World.setCell]
theorem news_set {w : World} {p : Addr} {v u : Value} {e : TypeId} : ∀ j x, [u][j]? = some x → ((w.setCell p v).alloc (.cells #[u] e)).cell? ((⟨w.heap.size, 0, none⟩ : Addr).add j) = some x := by
  intro j x hx
  have hb := Blk.new (w.setCell p v) e #[u]
  rw [size_setCell] at hb
  exact news_blk hb j x hx
def stOne (stream : ByteArray) (now : Int) (e : EventR) (v at_ : Int) : StoredR := ⟨e.canon, stream, v, at_, now⟩
theorem storedOf_take (stream : ByteArray) (now : Int) : ∀ (l : List EventR) (k : Nat) (h : k < l.length) (v at_ : Int), storedOf stream now (l.take (k + 1)) v at_ = storedOf stream now (l.take k) v at_ ++ [stOne stream now l[k] (v + k) (at_ + k)]
  | [], k, h, _, _ => absurd h (Nat.not_lt_zero _)
  | e :: l, 0, h, v, at_ => by simp [storedOf, stOne]
  | e :: l, k + 1, h, v, at_ => by
    have := storedOf_take stream now l k (by simpa using h) (v + 1) (at_ + 1)
    rw [List.take_succ_cons, List.take_succ_cons]
    simp only [storedOf, List.cons_append, List.getElem_cons_succ]
    rw [this]
    have e1 : v + 1 + (k : Int) = v + ((k + 1 : Nat) : Int) := by omega
    have e2 : at_ + 1 + (k : Int) = at_ + ((k + 1 : Nat) : Int) := by omega
    rw [e1, e2]
theorem storedOf_len (stream : ByteArray) (now : Int) : ∀ (l : List EventR) (v at_ : Int), (storedOf stream now l v at_).length = l.length
  | [], _, _ => rfl
  | e :: l, v, at_ => by simp [storedOf, storedOf_len stream now l]
theorem rangeFrom_succ : ∀ (k : Nat) (a : Int), rangeFrom (k + 1) a = rangeFrom k a ++ [a + k]
  | 0, a => by simp [rangeFrom]
  | k + 1, a => by
    show a :: rangeFrom (k + 1) (a + 1) = _
    rw [rangeFrom_succ k (a + 1)]
    simp only [rangeFrom, List.cons_append, List.cons.injEq, true_and]
    have e1 : a + 1 + (k : Int) = a + ((k + 1 : Nat) : Int) := by omega
    rw [e1]
theorem rangeFrom_len : ∀ (k : Nat) (a : Int), (rangeFrom k a).length = k
  | 0, _ => rfl
  | k + 1, a => by simp [rangeFrom, rangeFrom_len k]
theorem append_ans (s : MS) (c : Cmd) (x : StreamR) {k : Nat} (hk : k = c.events.length) : (s.append c x).1.val = .agg #[.int .i64 0, .int .i64 x.places.length, .int .i64 ((s.all.length : Int) + k - 1), .bool false] := by subst hk; rfl
theorem append_st (s : MS) (c : Cmd) (x : StreamR) (pv : Value) : (s.append c x).2.1.val pv = .agg #[pv, .int .i64 x.mt.maxCount, .int .i64 x.mt.maxAge, .int .i64 x.mt.before, .int .i64 x.floor, .bool x.deleted] := rfl
theorem append_s (s : MS) (c : Cmd) (x : StreamR) : (s.append c x).2.2 = { s with all := s.all ++ storedOf c.stream s.now c.events x.places.length s.all.length } := rfl
theorem append_p (s : MS) (c : Cmd) (x : StreamR) : (s.append c x).2.1.places = x.places ++ rangeFrom c.events.length s.all.length := rfl
/-- What stands at the head of a round of append: k events are in. -/
structure ApAt (w wr : World) (sb mb k : Nat) (av avr pvr ev : Value) (s : MS) (c : Cmd) (x : StreamR) : Prop where
  only : Only (sb :: av.ownBlock.toList) w wr
  blkS : Blk wr sb 72 #[avr, .map (some mb), .int .i64 s.done, .int .i64 s.now]
  own : wr.ownsRow 0 92 8 avr (s.all.length + k) ((s.all ++ storedOf c.stream s.now (c.events.take k) x.places.length s.all.length).flatMap StoredR.cells)
  pown : wr.ownsRow w.heap.size 3 1 pvr (x.places.length + k) (ints (x.places ++ rangeFrom k s.all.length))
  avb : ∀ g, avr.ownBlock = some g → av.ownBlock = some g ∨ w.heap.size ≤ g
  bC : Blk wr w.heap.size 40 #[.int .i64 c.kind, .int .i64 c.time, .string c.stream, .int .i64 c.expected, ev, .int .i64 c.mt.maxCount, .int .i64 c.mt.maxAge, .int .i64 c.mt.before]
  bX : Blk wr (w.heap.size + 1) 75 #[pvr, .int .i64 x.mt.maxCount, .int .i64 x.mt.maxAge, .int .i64 x.mt.before, .int .i64 x.floor, .bool x.deleted]
  bA : Blk wr (w.heap.size + 1 + 1) 34 #[.int .i64 0, .int .i64 0, .int .i64 0, .bool false]
  bY : Blk wr (w.heap.size + 1 + 1 + 1) 75 #[.slice none 0 0, .int .i64 0, .int .i64 0, .int .i64 0, .int .i64 0, .bool false]
set_option maxRecDepth 100000 in
set_option maxHeartbeats 4000000 in
theorem append_any {w : World} {M : List Nat} {sb mb : Nat} {av pv ev : Value} {pf : ByteArray → Value} {s : MS} {x : StreamR} {c : Cmd} (h : StAt w M sb mb av pf s) (hx : XOk s x) (hp : Rd M w 1 pv x.places.length (ints x.places))
    (he : Rd M w 4 ev c.events.length (c.events.flatMap EventR.cells)) (hl : s.all.length ≤ 1000000) (hel : 1 ≤ c.events.length ∧ c.events.length ≤ 8) (hn : 0 ≤ s.now ∧ s.now ≤ 1099511627776) :
    Calls Tryz.prog 63 #[.pointer (some ⟨sb, 0, none⟩), c.val ev, x.val pv] w fun e w' => ∃ pv' avr, e = .returned (.tuple #[(s.append c x).1.val, (s.append c x).2.1.val pv']) ∧
      StAt w' (avr.ownBlock.toList ++ M) sb mb avr pf (s.append c x).2.2 ∧ Rd (avr.ownBlock.toList ++ M) w' 1 pv' (s.append c x).2.1.places.length (ints (s.append c x).2.1.places) ∧ Only (hM sb mb av) w w' ∧ (∀ g, avr.ownBlock = some g → av.ownBlock = some g ∨ w.heap.size ≤ g) ∧ (∀ g, pv'.ownBlock = some g → w.heap.size ≤ g) := by
  obtain ⟨A, cap, hpv, hn1, hn2, hps⟩ := hp.1.openI
  obtain ⟨A1, cap1, hev, hn3, hn4, hes⟩ := he.1.openE EventR.cells (fun _ => rfl)
  obtain ⟨i0, hi, hz0, hz1, hz2⟩ := info_parts infoI
  obtain ⟨j0, hj, hy0, hy1, hy2⟩ := info_parts infoSt
  unfold maxLen at hn2 hn4
  have hfew := hx.few
  have hsb := h.blk.lt
  have evM : ∀ g, ev.ownBlock = some g → g ∉ sb :: av.ownBlock.toList ∨ c.events.length = 0 := fun g hg => by
    rcases he.2 g hg with q | q
    · left
      intro q2
      simp at q2
      rcases q2 with rfl | q2
      · exact q.1 h.inM.1
      · exact q.1 (h.inM.2.2 g q2)
    · exact .inr q
  have hCl := Lib.hid (fun (W : World) (hw : Only [] w W) => cloneI_any (hp.1.only0 hw) (by omega))
  have hsf := stF
  have h0 : ∀ o1 o2 o3 o4, Only [] w ((((w.alloc o1).alloc o2).alloc o3).alloc o4) := fun o1 o2 o3 o4 => ((((Only.refl [] w).alloc _).alloc _).alloc _).alloc _
  have kC : ∀ cs t o2 o3 o4, Blk ((((w.alloc (.cells cs t)).alloc o2).alloc o3).alloc o4) w.heap.size t cs := fun cs t o2 o3 o4 => ((((Only.refl [] _).alloc o2).alloc o3).alloc o4).blk (Blk.new w t cs) (by simp)
  have kX : ∀ cs t o1 o3 o4, Blk ((((w.alloc o1).alloc (.cells cs t)).alloc o3).alloc o4) (w.heap.size + 1) t cs := fun cs t o1 o3 o4 => by
    have := (((Only.refl [] _).alloc o3).alloc o4).blk (Blk.new (w.alloc o1) t cs) (by simp)
    simpa using this
  have kA : ∀ cs t o1 o2 o4, Blk ((((w.alloc o1).alloc o2).alloc (.cells cs t)).alloc o4) (w.heap.size + 1 + 1) t cs := fun cs t o1 o2 o4 => by
    have := ((Only.refl [] _).alloc o4).blk (Blk.new ((w.alloc o1).alloc o2) t cs) (by simp)
    simpa using this
  have kY : ∀ cs t o1 o2 o3, Blk ((((w.alloc o1).alloc o2).alloc o3).alloc (.cells cs t)) (w.heap.size + 1 + 1 + 1) t cs := fun cs t o1 o2 o3 => by
    have := Blk.new (((w.alloc o1).alloc o2).alloc o3) t cs
    simpa using this
  subst hpv hev
  obtain ⟨hel1, hel8⟩ := hel
  obtain ⟨R, hR⟩ : ∃ R, R = s.append c x := ⟨_, rfl⟩
  rw [← hR]
  rw [show c.val (.slice A1 c.events.length cap1) = .agg #[.int .i64 c.kind, .int .i64 c.time, .string c.stream, .int .i64 c.expected, .slice A1 c.events.length cap1, .int .i64 c.mt.maxCount, .int .i64 c.mt.maxAge, .int .i64 c.mt.before] from rfl,
    show x.val (.slice A x.places.length cap) = .agg #[.slice A x.places.length cap, .int .i64 x.mt.maxCount, .int .i64 x.mt.maxAge, .int .i64 x.mt.before, .int .i64 x.floor, .bool x.deleted] from rfl]
  have HR := Lib.hid hR
  clear hR
  go_enter Tryz.func63, Tryz.ntmps63
  go_wp2_with (go_at_call 99; refine (hCl.out _ (h0 _ _ _ _)).mono ?_; rintro e w1 ⟨v1, rfl, hown1, ho1⟩; obtain ⟨Av, capv, rfl, hv1, hv2⟩ := own_form hown1; have hX1 := fun i => (ho1.blk (kX _ _ _ _ _) (by simp)).cell i; have hXf1 := fun i => (ho1.blk (kX _ _ _ _ _) (by simp)).free i; have hC1 := fun i => (ho1.blk (kC _ _ _ _ _) (by simp)).cell i)
  have hcl : Hid (c.events.length = c.events.length) := rfl
  go_loopw [22] (fun i wr => ∃ (k : Nat) (avr pvr : Value), k ≤ c.events.length ∧ i = .int .i64 k ∧ ApAt w wr sb mb k av avr pvr (.slice A1 c.events.length cap1) s c x) (fun i _ => c.events.length - (intOf i).toNat)
  case atStart =>
    refine ⟨0, av, .slice Av x.places.length capv, Nat.zero_le _, rfl, ?_⟩
    have hO1 : Only [] w w1 := (h0 _ _ _ _).trans ho1
    have hO2 := hO1.setCell (p := ⟨w.heap.size + 1, 0, none⟩) (.inr (by simp)) (.slice Av x.places.length capv)
    have hO3 : Only [w.heap.size + 1] w1 (w1.setCell ⟨w.heap.size + 1, 0, none⟩ (.slice Av x.places.length capv)) := (Only.refl _ w1).setCell (.inl (by simp)) _
    have hown1' := own_base hown1 (base' := w.heap.size) (by simp; omega)
    refine ⟨hO2.of_nil, hO2.blk h.blk (by simp), ?_, ?_, fun g hg => .inl hg, hO3.blk (ho1.blk (kC _ _ _ _ _) (by simp)) (by simp <;> omega), (ho1.blk (kX _ _ _ _ _) (by simp)).set 0 _, hO3.blk (ho1.blk (kA _ _ _ _ _) (by simp)) (by simp <;> omega), hO3.blk (ho1.blk (kY _ _ _ _ _) (by simp)) (by simp <;> omega)⟩
    · have := own_only h.own hO2 (by simp)
      simpa [storedOf] using this
    · have := own_only hown1' hO3 (fun g hg => by have := (hown1.lt g hg).1; simp at this; simp; omega)
      simpa [rangeFrom] using this
  case round =>
    obtain ⟨k, avr, pvr, hk, rfl, hA⟩ := hrel
    obtain ⟨Ar, capr, rfl, har1, har2⟩ := own_form hA.own
    obtain ⟨Pr, pcap, rfl, hpr1, hpr2⟩ := own_form hA.pown
    have s0 : wr.cell? ⟨sb, 0, none⟩ = some (.slice Ar (s.all.length + k) capr) := hA.blkS.cell 0
    have s3 : wr.cell? ⟨sb, 3, none⟩ = some (.int .i64 s.now) := hA.blkS.cell 3
    have hC := fun i => hA.bC.cell i
    have hX := fun i => hA.bX.cell i
    have hXf := fun i => hA.bX.free i
    by_cases hlt : k < c.events.length
    · obtain ⟨be, offe, rfl, hbe, hce⟩ := hes k hlt
      have hben : be ∉ sb :: av.ownBlock.toList := (evM be rfl).resolve_right (by omega)
      obtain ⟨y, hy⟩ : ∃ y, y = c.events[k] := ⟨_, rfl⟩
      rw [← hy] at hce
      have e0 : wr.cell? ⟨be, offe + k * 4, none⟩ = some (.int .i64 y.id) := (hA.only.cell hbe hben).trans (hce 0 (by omega))
      have e1 : wr.cell? ⟨be, offe + k * 4 + 1, none⟩ = some (.string y.type) := (hA.only.cell hbe hben).trans (hce 1 (by omega))
      have e2 : wr.cell? ⟨be, offe + k * 4 + 2, none⟩ = some (.string y.data) := (hA.only.cell hbe hben).trans (hce 2 (by omega))
      have e3 : wr.cell? ⟨be, offe + k * 4 + 3, none⟩ = some (.float .f64 y.value) := (hA.only.cell hbe hben).trans (hce 3 (by omega))
      have hst := storedOf_take c.stream s.now c.events k hlt x.places.length s.all.length
      rw [← hy] at hst
      have hSt := Lib.hid hst
      have hEV : Only [] wr (wr.alloc (.cells #[.int .i64 y.id, .string y.type, .string y.data, .float .f64 (canon y.value)] 90)) := (Only.refl [] wr).alloc _
      have hEb := Blk.new wr 90 #[.int .i64 y.id, .string y.type, .string y.data, .float .f64 (canon y.value)]
      obtain ⟨So, hSo⟩ : ∃ So, So = (Value.slice Ar (s.all.length + k) capr).ownBlock.toList := ⟨_, rfl⟩
      have hSn : ∀ g ∈ So, g ≠ sb ∧ g < wr.heap.size ∧ ∃ cur, Blk wr g 92 cur := by
        intro g hg
        rw [hSo] at hg
        simp at hg
        obtain ⟨cur, hcur⟩ := own_type hA.own hg
        exact ⟨hcur.other hA.blkS (by decide), hcur.lt, cur, hcur⟩
      clear hce hst hy
      have s0a := fun o => (World.cell?_alloc_lt wr o _ (block_lt_of_cell s0)).trans s0
      go_wp2_with (go_at_call 100; refine (canon_any _ _).mono ?_; rintro e w' ⟨rfl, rfl⟩)
      obtain ⟨W2, hW2⟩ : ∃ W2, W2 = wr.alloc (.cells #[.int .i64 y.id, .string y.type, .string y.data, .float .f64 (canon y.value)] 90) := ⟨_, rfl⟩
      rw [← hW2] at hEV hEb ⊢
      clear hW2
      have nsb : sb ∉ So := fun q => (hSn sb q).1 rfl
      have nE : wr.heap.size ∉ So := fun q => Nat.lt_irrefl _ (hSn _ q).2.1
      have nC : w.heap.size ∉ So := fun q => by obtain ⟨_, _, cur, hcur⟩ := hSn _ q; exact hcur.other hA.bC (by decide) rfl
      have nX : w.heap.size + 1 ∉ So := fun q => by obtain ⟨_, _, cur, hcur⟩ := hSn _ q; exact hcur.other hA.bX (by decide) rfl
      have F0 := Within.cell (S := So) ((hEV.blk hA.blkS (by simp)).cell 0) nsb
      have F3 := Within.cell (S := So) ((hEV.blk hA.blkS (by simp)).cell 3) nsb
      have G0 := Within.cell (S := So) (hEb.cell 0) nE
      have G1 := Within.cell (S := So) (hEb.cell 1) nE
      have G2 := Within.cell (S := So) (hEb.cell 2) nE
      have G3 := Within.cell (S := So) (hEb.cell 3) nE
      have Fc := Within.cell (S := So) ((hEV.blk hA.bC (by simp)).cell 2) nC
      have Fx := Within.cell (S := So) ((hEV.blk hA.bX (by simp)).cell 0) nX
      refine wp_region_in So [0, 1, 2, 3, 4, 5, 6, 7, 8, 9, 10, 11, 12, 13, 14, 15, 16] [17, 18] [19, 20, 21] (by kernel_rfl) (by kernel_rfl) (by intro c d u a w h; cases d <;> exact h) ?_
      show wpQuiet _ _ _ _ [_, _, _, _, _, _, _, _, _, _, _, _, _, _, _, _, _] _
      repeat (go_big_quiet_step (fail))
      refine wpQuiet_nil ?_
      show wpList _ _ _ [_] _ _
      go_wp2_with fail
      refine check_of (S := So) (((Only.refl So W2).alloc _).drew) ?_
      show wpList _ _ _ [_] _ _
      have hOw : ∀ o, Only [] wr (W2.alloc o).drew := fun o => (hEV.alloc o).drew
      have hown0 := fun o => own_only hA.own (hOw o) (by simp)
      have hnb : Blk (W2.alloc (.cells #[.int .i64 y.id, .string y.type, .string y.data, .float .f64 (canon y.value), .string c.stream, .int .i64 ((x.places.length : Int) + k), .int .i64 ((s.all.length : Int) + k), .int .i64 s.now] 92)).drew W2.heap.size 92 #[.int .i64 y.id, .string y.type, .string y.data, .float .f64 (canon y.value), .string c.stream, .int .i64 ((x.places.length : Int) + k), .int .i64 ((s.all.length : Int) + k), .int .i64 s.now] := Blk.new W2 _ _
      refine wpList_append_lies rfl (.tmp 39) (.tmp 52) 28 rfl 0 92 j0 (.agg #[.int .i64 0, .string ⟨#[]⟩, .string ⟨#[]⟩, .float .f64 0, .string ⟨#[]⟩, .int .i64 0, .int .i64 0, .int .i64 0]) 8 88 Tryz.underlying28 hj hy0 hy1 hy2 rfl (by decide) (.slice Ar (s.all.length + k) capr) (s.all.length + k) _ rfl (hown0 _) ⟨W2.heap.size, 0, none⟩ 1 1 [.int .i64 y.id, .string y.type, .string y.data, .float .f64 (canon y.value), .string c.stream, .int .i64 ((x.places.length : Int) + k), .int .i64 ((s.all.length : Int) + k), .int .i64 s.now] rfl rfl (news_blk hnb) ?c2 (by decide) ?c3 ?c4 ?c5 ?_
      case c2 => simp [Value.oneCell']
      case c3 => unfold maxLen; omega
      case c4 => omega
      case c5 => exact Nat.zero_le _
      intro g4 cap4 w4 hown4 hgrow4 hlie4 hg4
      have ho24 : Only So W2 w4 := (((Only.refl So W2).alloc _).drew).grown hgrow4 (fun g hg => .inl (by rw [hSo, hg]; simp))
      have hav4 : g4 ∈ So ∨ W2.heap.size ≤ g4 := by
        rcases hlie4 with q | q
        · left; rw [hSo, q]; simp
        · right; rw [q]; simp
      have hS4 : Blk w4 sb 72 #[.slice Ar (s.all.length + k) capr, .map (some mb), .int .i64 s.done, .int .i64 s.now] := ho24.blk (hEV.blk hA.blkS (by simp)) nsb
      have hX4 : Blk w4 (w.heap.size + 1) 75 #[.slice Pr (x.places.length + k) pcap, .int .i64 x.mt.maxCount, .int .i64 x.mt.maxAge, .int .i64 x.mt.before, .int .i64 x.floor, .bool x.deleted] := ho24.blk (hEV.blk hA.bX (by simp)) nX
      obtain ⟨_, _, cur4, q4, _, hb4⟩ := own_some hown4 (by omega)
      cases q4
      clear hgrow4 hlie4 F0 F3 G0 G1 G2 G3 Fc Fx hnb hown0
      refine wpList_nil ?_
      refine check_of ho24 ?_
      show wpList _ _ _ [_, _, _] _ _
      have s40 := hS4.cell 0
      have sf40 := hS4.free 0
      have hO45 : ∀ v, Only [sb] w4 (w4.setCell ⟨sb, 0, none⟩ v) := fun v => (Only.refl _ w4).setCell (.inl (by simp)) _
      have hsx : w.heap.size + 1 ∉ [sb] := by simp; omega
      have hX5 := fun v i => ((hO45 v).blk hX4 hsx).cell i
      have hXf5 := fun v i => ((hO45 v).blk hX4 hsx).free i
      have hPn : ∀ g, (Value.slice Pr (x.places.length + k) pcap).ownBlock = some g → g ∉ So ∧ g ≠ sb ∧ g ≠ w.heap.size + 1 := by
        intro g hg
        obtain ⟨cur, hcur⟩ := own_type hA.pown hg
        refine ⟨fun q => ?_, ?_, hcur.other hA.bX (by decide)⟩
        · obtain ⟨_, _, cur2, hcur2⟩ := hSn g q
          exact hcur.other hcur2 (by decide) rfl
        · exact hcur.other hA.blkS (by decide)
      have hwr4 : Only So wr w4 := (hEV.of_nil).trans ho24
      have hpown5 : ∀ v o, ((w4.setCell ⟨sb, 0, none⟩ v).alloc o).ownsRow w.heap.size 3 1 (.slice Pr (x.places.length + k) pcap) (x.places.length + k) (ints (x.places ++ rangeFrom k s.all.length)) := fun v o =>
        own_only (own_only (own_only hA.pown hwr4 (fun g hg => (hPn g hg).1)) (hO45 v) (fun g hg => by simp; exact (hPn g hg).2.1)) ((Only.refl [] _).alloc o) (by simp)
      go_wp2_with (at_builtin; refine wpList_append_lies rfl (.tmp 57) (.tmp 59) 48 rfl w.heap.size 3 i0 (.int .i64 0) 1 8 Tryz.underlying48 hi hz0 hz1 hz2 rfl (by decide) (.slice Pr (x.places.length + k) pcap) (x.places.length + k) _ rfl (hpown5 _ _) ⟨w4.heap.size, 0, none⟩ 1 1 [.int .i64 ((s.all.length : Int) + k)] rfl rfl ?d1 ?d2 (by decide) ?d3 ?d4 ?d5 ?_)
      case d1 => exact news_set
      case d2 => simp [Value.oneCell']
      case d3 => unfold maxLen; omega
      case d4 => omega
      case d5 => have := hEV.size; have := ho24.size; have := hA.only.size; simp [World.setCell]; omega
      intro g6 cap6 w6 hown6 hgrow6 hlie6 hg6
      have ho56 : Only (Value.slice Pr (x.places.length + k) pcap).ownBlock.toList ((w4.setCell ⟨sb, 0, none⟩ (.slice (some ⟨g4, 0, none⟩) (s.all.length + k + 1) cap4)).alloc (.cells #[.int .i64 ((s.all.length : Int) + k)] 3)) w6 := (Only.refl _ _).grown hgrow6 (fun g hg => .inl (by rw [hg]; simp))
      have hPl : ∀ g, g ∈ (Value.slice Pr (x.places.length + k) pcap).ownBlock.toList → g ∉ So ∧ g ≠ sb ∧ g ≠ w.heap.size + 1 := fun g hg => hPn g (by simpa using hg)
      have hPw : ∀ g, g ∈ (Value.slice Pr (x.places.length + k) pcap).ownBlock.toList → w.heap.size ≤ g := fun g hg => (hA.pown.lt g (by simpa using hg)).1
      have hO46 : Only (sb :: (Value.slice Pr (x.places.length + k) pcap).ownBlock.toList) w4 w6 := (((hO45 _).alloc _).mono (by simp)).trans (ho56.mono (fun g hg => by simp at hg; simp [hg]))
      have hXg6 : Blk w6 (w.heap.size + 1) 75 #[.slice Pr (x.places.length + k) pcap, .int .i64 x.mt.maxCount, .int .i64 x.mt.maxAge, .int .i64 x.mt.before, .int .i64 x.floor, .bool x.deleted] := hO46.blk hX4 (by
        intro q
        rcases List.mem_cons.1 q with q | q
        · omega
        · exact (hPl _ q).2.2 rfl)
      have hO67 : Only [w.heap.size + 1] w6 (w6.setCell ⟨w.heap.size + 1, 0, none⟩ (.slice (some ⟨g6, 0, none⟩) (x.places.length + k + 1) cap6)) := (Only.refl _ w6).setCell (.inl (by simp)) _
      have hO47 := (hO46.mono (S' := (w.heap.size + 1) :: sb :: (Value.slice Pr (x.places.length + k) pcap).ownBlock.toList) (fun g hg => List.mem_cons_of_mem _ hg)).trans (hO67.mono (fun g hg => by simp at hg; simp [hg]))
      have hSoW : ∀ g ∈ So, g ∈ sb :: av.ownBlock.toList ∨ w.heap.size ≤ g := fun g hg => by
        rcases hA.avb g (by rw [hSo] at hg; simpa using hg) with q | q
        · left; simp [q]
        · exact .inr q
      have hOr4 : Only (sb :: av.ownBlock.toList) w w4 := hA.only.step hwr4 hSoW
      have hOr7 : Only (sb :: av.ownBlock.toList) w (w6.setCell ⟨w.heap.size + 1, 0, none⟩ (.slice (some ⟨g6, 0, none⟩) (x.places.length + k + 1) cap6)) := hOr4.step hO47 (fun g hg => by
        rcases List.mem_cons.1 hg with q | q
        · right; omega
        · rcases List.mem_cons.1 q with q | q
          · left; simp [q]
          · exact .inr (hPw g q))
      have hKeep : ∀ g t cs, Blk wr g t cs → g ∉ So → g ≠ sb → g ≠ w.heap.size + 1 → (g ∉ (Value.slice Pr (x.places.length + k) pcap).ownBlock.toList) → Blk (w6.setCell ⟨w.heap.size + 1, 0, none⟩ (.slice (some ⟨g6, 0, none⟩) (x.places.length + k + 1) cap6)) g t cs := fun g t cs hb h1 h2 h3 h4 => hO47.blk (hwr4.blk hb h1) (by
        intro q
        rcases List.mem_cons.1 q with q | q
        · exact h3 q
        · rcases List.mem_cons.1 q with q | q
          · exact h2 q
          · exact h4 q)
      have nY : ∀ g t cs, Blk wr g t cs → t ≠ 92 → t ≠ 3 → g ∉ So ∧ g ∉ (Value.slice Pr (x.places.length + k) pcap).ownBlock.toList := fun g t cs hb h1 h2 => ⟨fun q => by
          obtain ⟨_, _, cur, hcur⟩ := hSn g q
          exact hcur.other hb (fun e => h1 e.symm) rfl, fun q => by
          obtain ⟨cur, hcur⟩ := own_type hA.pown (g := g) (by simpa using q)
          exact hcur.other hb (fun e => h2 e.symm) rfl⟩
      have hNext : ApAt w (w6.setCell ⟨w.heap.size + 1, 0, none⟩ (.slice (some ⟨g6, 0, none⟩) (x.places.length + k + 1) cap6)) sb mb (k + 1) av (.slice (some ⟨g4, 0, none⟩) (s.all.length + k + 1) cap4) (.slice (some ⟨g6, 0, none⟩) (x.places.length + k + 1) cap6) (.slice (some ⟨be, offe, none⟩) c.events.length cap1) s c x := by
        refine ⟨hOr7, ?_, ?_, ?_, ?_, ?_, ?_, ?_, ?_⟩
        · refine hO67.blk (ho56.blk (((Only.refl [] _).alloc _).blk (hS4.set 0 _) (by simp)) (fun q => (hPl _ q).2.1 rfl)) (by simp; omega)
        · have hg4S : g4 ≠ sb := hb4.other hS4 (by decide)
          have hg4X : g4 ≠ w.heap.size + 1 := hb4.other hX4 (by decide)
          have hg4P : g4 ∉ (Value.slice Pr (x.places.length + k) pcap).ownBlock.toList := fun q => by
            obtain ⟨cur, hcur⟩ := own_type (own_only hA.pown hwr4 (fun g hg => (hPn g hg).1)) (g := g4) (by simpa using q)
            exact hcur.other hb4 (by decide) rfl
          have := own_only hown4 hO47 (fun g hg => by cases hg; simp only [List.mem_cons, not_or]; exact ⟨hg4X, hg4S, hg4P⟩)
          rw [hSt.out, ← List.append_assoc, List.flatMap_append]
          exact this
        · have := own_only hown6 hO67 (fun g hg => by
            cases hg
            obtain ⟨cur, hcur⟩ := own_type hown6 (g := g6) rfl
            simp
            exact hcur.other hXg6 (by decide))
          rw [rangeFrom_succ, ← List.append_assoc]
          unfold ints at this ⊢
          rw [List.map_append]
          exact this
        · intro g hg
          cases hg
          rcases hav4 with q | q
          · exact hA.avb _ (by rw [hSo] at q; simpa using q)
          · exact .inr (Nat.le_trans (Nat.le_trans hA.only.size hEV.size) q)
        · exact hKeep _ _ _ hA.bC (nY _ _ _ hA.bC (by decide) (by decide)).1 (by omega) (by omega) (nY _ _ _ hA.bC (by decide) (by decide)).2
        · exact hXg6.set 0 _
        · exact hKeep _ _ _ hA.bA (nY _ _ _ hA.bA (by decide) (by decide)).1 (by omega) (by omega) (nY _ _ _ hA.bA (by decide) (by decide)).2
        · exact hKeep _ _ _ hA.bY (nY _ _ _ hA.bY (by decide) (by decide)).1 (by omega) (by omega) (nY _ _ _ hA.bY (by decide) (by decide)).2
      have HNext := Lib.hid hNext
      have hX6 := fun i => hXg6.cell i
      have hXf6 := fun i => hXg6.free i
      clear hNext hKeep nY hOr7 hOr4 hSoW hO47 hO67 hO46 hPw hPl ho56 hgrow6 hlie6 hown6 hpown5 hwr4 hPn hX5 hXf5 hO45 hX4 hXg6 hS4 hav4 hown4
      go_wp2
      exact ⟨⟨k + 1, _, _, hlt, by simp, HNext.out⟩, by simp [intOf]; omega⟩
    · have hkl : k = c.events.length := by omega
      have hS := hA.blkS
      have HK := Lib.hid hkl
      have hfin : ∀ W9, Only [w.heap.size + 1 + 1, w.heap.size + 1 + 1 + 1] wr W9 → StAt W9 ((Value.slice Ar (s.all.length + k) capr).ownBlock.toList ++ M) sb mb (.slice Ar (s.all.length + k) capr) pf { s with all := s.all ++ storedOf c.stream s.now c.events x.places.length s.all.length } ∧
          Rd ((Value.slice Ar (s.all.length + k) capr).ownBlock.toList ++ M) W9 1 (.slice Pr (x.places.length + k) pcap) (x.places ++ rangeFrom c.events.length s.all.length).length (ints (x.places ++ rangeFrom c.events.length s.all.length)) ∧ Only (hM sb mb av) w W9 := by
        intro W9 hO9
        have htk : c.events.take k = c.events := by rw [hkl, List.take_length]
        have hOw : Only (sb :: av.ownBlock.toList) w W9 := hA.only.step hO9 (fun g hg => by right; simp at hg; omega)
        have hM9 : Only (hM sb mb av) w W9 := hOw.mono (fun g hg => by simp [hM] at hg ⊢; rcases hg with q | q; exact .inl q; exact .inr (.inr q))
        have hMM : ∀ g ∈ hM sb mb av, g ∈ (Value.slice Ar (s.all.length + k) capr).ownBlock.toList ++ M := fun g hg => List.mem_append_right _ (h.hMM g hg)
        have hnA : ∀ g ∈ (Value.slice Ar (s.all.length + k) capr).ownBlock.toList, g ∈ M ∨ w.heap.size ≤ g := fun g hg => by
          rcases hA.avb g (by simpa using hg) with q | q
          · exact .inl (h.inM.2.2 g q)
          · exact .inr q
        have hown9 := own_only hA.own hO9 (fun g hg => by
          obtain ⟨cur, hcur⟩ := own_type hA.own hg
          simp
          exact ⟨hcur.other hA.bA (by decide), hcur.other hA.bY (by decide)⟩)
        have hpown9 := own_only hA.pown hO9 (fun g hg => by
          obtain ⟨cur, hcur⟩ := own_type hA.pown hg
          simp
          exact ⟨hcur.other hA.bA (by decide), hcur.other hA.bY (by decide)⟩)
        refine ⟨⟨hO9.blk hA.blkS (by simp; omega), ?_, ?_, fun n y hy => ?_, ?_, ?_⟩, ⟨?_, fun g hg => .inl ⟨?_, ?_⟩⟩, hM9⟩
        · show W9.ownsRow 0 92 8 _ (s.all ++ storedOf c.stream s.now c.events x.places.length s.all.length).length _
          rw [List.length_append, storedOf_len, ← hkl]
          rw [htk] at hown9
          exact hown9
        · refine (h.map.only hOw ?_)
          simp
          exact ⟨h.ne, fun q => (h.ownne mb q).2 rfl⟩
        · exact ((h.pl n y hy).ext (fun g hg => by
            rcases List.mem_append.1 hg with q | q
            · exact hnA g q
            · exact .inl q)).only hM9 hMM
        · exact ⟨List.mem_append_right _ h.inM.1, List.mem_append_right _ h.inM.2.1, fun g hg => List.mem_append_left _ (by simpa using hg)⟩
        · intro g hg
          rcases List.mem_append.1 hg with q | q
          · exact Nat.lt_of_lt_of_le (hA.own.lt g (by simpa using q)).2 hO9.size
          · exact Nat.lt_of_lt_of_le (h.mlt g q) hOw.size
        · rw [List.length_append, rangeFrom_len, ← hkl]
          exact (Slc.of_own hpown9).1
        · intro q
          rcases List.mem_append.1 q with q | q
          · obtain ⟨c1, hc1⟩ := own_type hown9 (g := g) (by simpa using q)
            obtain ⟨c2, hc2⟩ := own_type hpown9 hg
            exact hc1.other hc2 (by decide) rfl
          · have := h.mlt g q
            have := (hpown9.lt g hg).1
            omega
        · exact (hpown9.lt g hg).2
      have HFIN := Lib.hid hfin
      clear hfin
      have hCx : Hid (c.events.take k = c.events) := by unfold Hid; rw [hkl, List.take_length]
      have hbA := fun i => hA.bA.cell i
      have hbAf := fun i => hA.bA.free i
      have hbY := fun i => hA.bY.cell i
      have hbYf := fun i => hA.bY.free i
      have hsn : w.heap.size + 1 + 1 ∉ [w.heap.size + 1 + 1] → False := fun q => q (by simp)
      have F0 := Within.cell (S := [w.heap.size + 1 + 1]) s0 (by simp; omega)
      have X0 := Within.cell (S := [w.heap.size + 1 + 1]) (hA.bX.cell 0) (by simp)
      have X1 := Within.cell (S := [w.heap.size + 1 + 1]) (hA.bX.cell 1) (by simp)
      have X2 := Within.cell (S := [w.heap.size + 1 + 1]) (hA.bX.cell 2) (by simp)
      have X3 := Within.cell (S := [w.heap.size + 1 + 1]) (hA.bX.cell 3) (by simp)
      have X4 := Within.cell (S := [w.heap.size + 1 + 1]) (hA.bX.cell 4) (by simp)
      have X5 := Within.cell (S := [w.heap.size + 1 + 1]) (hA.bX.cell 5) (by simp)
      have hwp := IntWalk.i64_in (((s.all.length + k : Nat) : Int) - 1) ⟨by omega, by omega⟩
      clear hkl hsn
      go_wp2_with fail
      refine wp_region_in [w.heap.size + 1 + 1] [0, 1, 2, 3, 4, 5, 6, 7, 8] [9] [10] (by kernel_rfl) (by kernel_rfl) (by intro c d u a w h; cases d <;> exact h) ?_
      show wpQuiet _ _ _ _ [_, _, _, _, _, _, _, _, _] _
      repeat (go_big_quiet_step (fail))
      refine wpQuiet_nil ?_
      show wpList _ _ _ [_] _ _
      go_wp2_with fail
      refine check_of (S := [w.heap.size + 1 + 1]) (by repeat (first | exact Only.refl _ _ | refine Only.drew ?_ | refine Only.setCell ?_ (.inl (by simp)) _)) ?_
      show wpList _ _ _ [_] _ _
      go_wp2
      have hR := HR.out
      subst hR
      clear HR F0 X0 X1 X2 X3 X4 X5 hwp
      refine bodyPost_ret (v := .tuple #[.agg #[.int .i64 0, .int .i64 x.places.length, .int .i64 ((s.all.length : Int) + k - 1), .bool false], .agg #[.slice Pr (x.places.length + k) pcap, .int .i64 x.mt.maxCount, .int .i64 x.mt.maxAge, .int .i64 x.mt.before, .int .i64 x.floor, .bool x.deleted]]) (by simp [results, Tryz.results63, go_sem, hbA, hbY]) rfl ⟨.slice Pr (x.places.length + k) pcap, .slice Ar (s.all.length + k) capr, ?_⟩
      rw [append_ans s c x HK.out, append_st, append_s, append_p]
      refine ⟨rfl, (HFIN.out _ ?hw).1, (HFIN.out _ ?hw).2.1, (HFIN.out _ ?hw).2.2, hA.avb, fun g hg => (hA.pown.lt g hg).1⟩
      case hw =>
        refine Only.drew ?_
        iterate 10 (refine Only.setCell ?_ (.inl (by simp)) _)
        exact Only.refl _ _
end Go.Proofs.YteinoiicnmemhaaGreatDoor
/- Contract: act. -/
set_option linter.unusedVariables false
set_option linter.unusedSimpArgs false
namespace Go.Proofs.YteinoiicnmemhaaGreatDoor
open Go.RowKit
/-- What a call on the state leaves: the state s', and what of the world may have turned. -/
def StLeads (w : World) (M : List Nat) (sb mb : Nat) (av : Value) (s' : MS) (w' : World) : Prop :=
  ∃ M' av' pf', StAt w' M' sb mb av' pf' s' ∧ Only (hM sb mb av) w w' ∧ (∀ g ∈ M, g ∈ M') ∧ (∀ g ∈ M', g ∈ M ∨ w.heap.size ≤ g) ∧ ∀ g, av'.ownBlock = some g → av.ownBlock = some g ∨ w.heap.size ≤ g
/-- What act leaves besides: the stream's places. -/
def ActLeads (w : World) (M : List Nat) (sb mb : Nat) (av : Value) (pf : ByteArray → Value) (y : StreamR) (s' : MS) (pv' : Value) (w' : World) : Prop :=
  ∃ M' av', StAt w' M' sb mb av' pf s' ∧ Rd M' w' 1 pv' y.places.length (ints y.places) ∧ Only (hM sb mb av) w w' ∧ (∀ g ∈ M, g ∈ M') ∧ (∀ g ∈ M', g ∈ M ∨ w.heap.size ≤ g) ∧ ∀ g, av'.ownBlock = some g → av.ownBlock = some g ∨ w.heap.size ≤ g
theorem ActLeads.same {w w' : World} {M : List Nat} {sb mb : Nat} {av pv : Value} {pf : ByteArray → Value} {s : MS} {y : StreamR} (h : StAt w M sb mb av pf s) (hp : Rd M w 1 pv y.places.length (ints y.places)) (k : Only [] w w') : ActLeads w M sb mb av pf y s pv w' :=
  ⟨M, av, h.only0 k, hp.only0 k, k.of_nil, fun _ q => q, fun _ q => .inl q, fun _ q => .inl q⟩
theorem Only.two {S : List Nat} {a b : World} (h : Only S a b) (e : b.heap.size = a.heap.size) {o o' : Obj} (ho : o' = o ∨ a.heap.size ∈ S) : Only S (a.alloc o) (b.alloc o') := by
  refine ⟨h.os, h.tape, h.output, by simp [e], fun k hk hn => ?_⟩
  simp at hk
  by_cases hlt : k < a.heap.size
  · rw [Below.heap_alloc _ _ _ hlt, Below.heap_alloc _ _ _ (by omega)]
    exact h.block k hlt hn
  · have hka : k = a.heap.size := by omega
    subst hka
    rcases ho with rfl | q
    · have h1 := heap_alloc_new a o'
      have h2 := heap_alloc_new b o'
      rw [e] at h2
      rw [h1, h2]
    · exact absurd q hn
theorem Only.drewL {S : List Nat} {a b : World} (h : Only S a b) : Only S a.drew b := ⟨h.os, h.tape, h.output, h.size, h.block⟩
/-- Of five fresh blocks the third may turn. -/
theorem turned (w : World) (o1 o2 o3 o4 o5 o3' : Obj) : Only [w.heap.size + 1 + 1] (((((w.alloc o1).alloc o2).alloc o3).alloc o4).alloc o5).drew (((((w.alloc o1).alloc o2).alloc o3').alloc o4).alloc o5) :=
  Only.drewL ((((Only.refl _ ((w.alloc o1).alloc o2)).two rfl (o := o3) (o' := o3') (.inr (by simp))).two (by simp) (o := o4) (o' := o4) (.inl rfl)).two (by simp) (.inl rfl))
set_option maxRecDepth 100000 in
set_option maxHeartbeats 4000000 in
theorem act_meta {w : World} {M : List Nat} {sb mb : Nat} {av pv ev : Value} {pf : ByteArray → Value} {s : MS} {x : StreamR} {c : Cmd} (h : StAt w M sb mb av pf s) (hx : XOk s x) (hp : Rd M w 1 pv x.places.length (ints x.places))
    (he : Rd M w 4 ev c.events.length (c.events.flatMap EventR.cells)) (hl : s.all.length ≤ 1000000) (hk : c.kind = 2) :
    Calls Tryz.prog 23 #[.pointer (some ⟨sb, 0, none⟩), c.val ev, x.val pv] w fun e w' => ∃ pv', e = .returned (.tuple #[(s.act c x).1.val, (s.act c x).2.1.val pv']) ∧ ActLeads w M sb mb av pf (s.act c x).2.1 (s.act c x).2.2 pv' w' := by
  obtain ⟨A, cap, hpv, hn1, hn2, hps⟩ := hp.1.openI
  obtain ⟨A1, cap1, hev, hn3, hn4, hes⟩ := he.1.openE EventR.cells (fun _ => rfl)
  obtain ⟨A2, cap2, hav, hnc2, hcm2, hel2⟩ := h.cell
  unfold maxLen at hn2 hn4 hcm2
  have hfew := hx.few
  have hsb := h.blk.lt
  have h0 : ∀ o1 o2 o3 o4, Only [] w ((((w.alloc o1).alloc o2).alloc o3).alloc o4) := fun o1 o2 o3 o4 => ((((Only.refl [] w).alloc _).alloc _).alloc _).alloc _
  have kC : ∀ cs t o2 o3 o4, Blk ((((w.alloc (.cells cs t)).alloc o2).alloc o3).alloc o4) w.heap.size t cs := fun cs t o2 o3 o4 => ((((Only.refl [] _).alloc o2).alloc o3).alloc o4).blk (Blk.new w t cs) (by simp)
  have kX : ∀ cs t o1 o3 o4, Blk ((((w.alloc o1).alloc (.cells cs t)).alloc o3).alloc o4) (w.heap.size + 1) t cs := fun cs t o1 o3 o4 => by
    have := (((Only.refl [] _).alloc o3).alloc o4).blk (Blk.new (w.alloc o1) t cs) (by simp)
    simpa using this
  have kA : ∀ cs t o1 o2 o4, Blk ((((w.alloc o1).alloc o2).alloc (.cells cs t)).alloc o4) (w.heap.size + 1 + 1) t cs := fun cs t o1 o2 o4 => by
    have := ((Only.refl [] _).alloc o4).blk (Blk.new ((w.alloc o1).alloc o2) t cs) (by simp)
    simpa using this
  have kY : ∀ cs t o1 o2 o3, Blk ((((w.alloc o1).alloc o2).alloc o3).alloc (.cells cs t)) (w.heap.size + 1 + 1 + 1) t cs := fun cs t o1 o2 o3 => by
    have := Blk.new (((w.alloc o1).alloc o2).alloc o3) t cs
    simpa using this
  have c0 : w.cell? ⟨sb, 0, none⟩ = some (.slice A2 s.all.length cap2) := by rw [← hav]; exact h.blk.cell 0
  have F0 := fun o1 o2 o3 o4 => Within.cell (S := []) (((h0 o1 o2 o3 o4).cell hsb (by simp)).trans c0) (by simp)
  have X0 := fun v a b d f g t o1 o3 o4 => Within.cell (S := []) ((kX #[v, a, b, d, f, g] t o1 o3 o4).cell 0) (by simp)
  subst hpv hev
  obtain ⟨R, hR⟩ : ∃ R, R = s.act c x := ⟨_, rfl⟩
  rw [← hR]
  have HR := Lib.hid hR
  clear hR c0
  rw [show c.val (.slice A1 c.events.length cap1) = .agg #[.int .i64 c.kind, .int .i64 c.time, .string c.stream, .int .i64 c.expected, .slice A1 c.events.length cap1, .int .i64 c.mt.maxCount, .int .i64 c.mt.maxAge, .int .i64 c.mt.before] from rfl,
    show x.val (.slice A x.places.length cap) = .agg #[.slice A x.places.length cap, .int .i64 x.mt.maxCount, .int .i64 x.mt.maxAge, .int .i64 x.mt.before, .int .i64 x.floor, .bool x.deleted] from rfl]
  have hk1 : ((c.kind : Int) == 2) = true := by simpa using hk
  have HK := Lib.hid hk
  clear hk
  go_enter Tryz.func23, Tryz.ntmps23
  go_wp2_with fail
  refine wp_region_in [] [0, 1, 2, 3, 4, 5, 6, 7, 8] [9] [10] (by kernel_rfl) (by kernel_rfl) (by intro c d u a w h; cases d <;> exact h) ?_
  show wpQuiet _ _ _ _ [_, _, _, _, _, _, _, _, _] _
  repeat (go_big_quiet_step (fail))
  refine wpQuiet_nil ?_
  show wpList _ _ _ [_] _ _
  go_wp2_with fail
  refine check_of (S := []) (((Only.refl [] _).alloc _).drew) ?_
  show wpList _ _ _ [_] _ _
  clear F0 X0
  go_wp2_with fail
  have k5 : ∀ o1 o2 o3 o4 o5, Only [] w (((((w.alloc o1).alloc o2).alloc o3).alloc o4).alloc o5).drew := fun o1 o2 o3 o4 o5 => ((h0 o1 o2 o3 o4).alloc o5).drew
  have kH : ∀ cs t o1 o2 o3 o4, Blk (((((w.alloc o1).alloc o2).alloc o3).alloc o4).alloc (.cells cs t)).drew (w.heap.size + 1 + 1 + 1 + 1) t cs := fun cs t o1 o2 o3 o4 => by
    have := (Only.refl [] _).drew.blk (Blk.new ((((w.alloc o1).alloc o2).alloc o3).alloc o4) t cs) (by simp <;> omega)
    simpa using this
  have kX : ∀ cs t o1 o3 o4 o5, Blk (((((w.alloc o1).alloc (.cells cs t)).alloc o3).alloc o4).alloc o5).drew (w.heap.size + 1) t cs := fun cs t o1 o3 o4 o5 => ((Only.refl [] _).alloc o5).drew.blk (kX cs t o1 o3 o4) (by simp <;> omega)
  have kA : ∀ cs t o1 o2 o4 o5, Blk (((((w.alloc o1).alloc o2).alloc (.cells cs t)).alloc o4).alloc o5).drew (w.heap.size + 1 + 1) t cs := fun cs t o1 o2 o4 o5 => ((Only.refl [] _).alloc o5).drew.blk (kA cs t o1 o2 o4) (by simp <;> omega)
  have kY : ∀ cs t o1 o2 o3 o5, Blk (((((w.alloc o1).alloc o2).alloc o3).alloc (.cells cs t)).alloc o5).drew (w.heap.size + 1 + 1 + 1) t cs := fun cs t o1 o2 o3 o5 => ((Only.refl [] _).alloc o5).drew.blk (kY cs t o1 o2 o3) (by simp <;> omega)
  have kS : ∀ o1 o2 o3 o4 o5, StAt (((((w.alloc o1).alloc o2).alloc o3).alloc o4).alloc o5).drew M sb mb av pf s := fun o1 o2 o3 o4 o5 => h.only0 (k5 o1 o2 o3 o4 o5)
  have H0 := fun v a b d o1 o2 o3 o4 => Within.cell (S := [w.heap.size + 1 + 1]) ((kH #[v, a, b, d] 34 o1 o2 o3 o4).cell 0) (by simp <;> omega)
  have H1 := fun v a b d o1 o2 o3 o4 => Within.cell (S := [w.heap.size + 1 + 1]) ((kH #[v, a, b, d] 34 o1 o2 o3 o4).cell 1) (by simp <;> omega)
  have H2 := fun v a b d o1 o2 o3 o4 => Within.cell (S := [w.heap.size + 1 + 1]) ((kH #[v, a, b, d] 34 o1 o2 o3 o4).cell 2) (by simp <;> omega)
  have H3 := fun v a b d o1 o2 o3 o4 => Within.cell (S := [w.heap.size + 1 + 1]) ((kH #[v, a, b, d] 34 o1 o2 o3 o4).cell 3) (by simp <;> omega)
  have X0 := fun v a b d f g o1 o3 o4 o5 => Within.cell (S := [w.heap.size + 1 + 1]) ((kX #[v, a, b, d, f, g] 75 o1 o3 o4 o5).cell 0) (by simp <;> omega)
  have X1 := fun v a b d f g o1 o3 o4 o5 => Within.cell (S := [w.heap.size + 1 + 1]) ((kX #[v, a, b, d, f, g] 75 o1 o3 o4 o5).cell 1) (by simp <;> omega)
  have X2 := fun v a b d f g o1 o3 o4 o5 => Within.cell (S := [w.heap.size + 1 + 1]) ((kX #[v, a, b, d, f, g] 75 o1 o3 o4 o5).cell 2) (by simp <;> omega)
  have X3 := fun v a b d f g o1 o3 o4 o5 => Within.cell (S := [w.heap.size + 1 + 1]) ((kX #[v, a, b, d, f, g] 75 o1 o3 o4 o5).cell 3) (by simp <;> omega)
  have X4 := fun v a b d f g o1 o3 o4 o5 => Within.cell (S := [w.heap.size + 1 + 1]) ((kX #[v, a, b, d, f, g] 75 o1 o3 o4 o5).cell 4) (by simp <;> omega)
  have X5 := fun v a b d f g o1 o3 o4 o5 => Within.cell (S := [w.heap.size + 1 + 1]) ((kX #[v, a, b, d, f, g] 75 o1 o3 o4 o5).cell 5) (by simp <;> omega)
  refine wp_region_in [w.heap.size + 1 + 1] [0, 1] [2] [3] (by kernel_rfl) (by kernel_rfl) (by intro c d u a w h; cases d <;> exact h) ?_
  show wpQuiet _ _ _ _ [_, _] _
  repeat (go_big_quiet_step (fail))
  refine wpQuiet_nil ?_
  show wpList _ _ _ [_] _ _
  go_wp2_with fail
  refine check_of (S := [w.heap.size + 1 + 1]) (turned w _ _ _ _ _ _).drew.drew ?_
  show wpList _ _ _ [_] _ _
  go_wp2
  have hR := HR.out
  subst hR
  clear HR H0 H1 H2 H3 X0 X1 X2 X3 X4 X5
  have hbA := fun cs o1 o2 o4 o5 i => ((Only.refl [] _).drew.blk (kA cs 29 o1 o2 o4 o5) (by simp)).cell i
  have hbY := fun cs o1 o2 o3 o5 i => ((Only.refl [] _).drew.blk (kY cs 77 o1 o2 o3 o5) (by simp)).cell i
  refine bodyPost_ret (v := .tuple #[.agg #[.int .i64 0, .int .i64 x.places.length, .int .i64 s.all.length, .bool false], .agg #[.slice A x.places.length cap, .int .i64 c.mt.maxCount, .int .i64 c.mt.maxAge, .int .i64 c.mt.before, .int .i64 x.floor, .bool x.deleted]]) (by simp [results, Tryz.results23, go_sem, hbA, hbY]) rfl ⟨.slice A x.places.length cap, ?_⟩
  have hE : s.act c x = (⟨0, x.places.length, s.all.length, false⟩, { x with mt := c.mt }, s) := by
    have := HK.out
    unfold MS.act
    rw [if_pos (by simpa using this)]
  rw [hE]
  refine ⟨rfl, ActLeads.same h hp ?hw⟩
  case hw => exact (k5 _ _ _ _ _).drew
set_option maxRecDepth 100000 in
set_option maxHeartbeats 4000000 in
theorem act_delYes {w : World} {M : List Nat} {sb mb : Nat} {av pv ev : Value} {pf : ByteArray → Value} {s : MS} {x : StreamR} {c : Cmd} (h : StAt w M sb mb av pf s) (hx : XOk s x) (hp : Rd M w 1 pv x.places.length (ints x.places))
    (he : Rd M w 4 ev c.events.length (c.events.flatMap EventR.cells)) (hl : s.all.length ≤ 1000000) (hk : c.kind = 3) (hexp : expected c.expected x.places.length = true) :
    Calls Tryz.prog 23 #[.pointer (some ⟨sb, 0, none⟩), c.val ev, x.val pv] w fun e w' => ∃ pv', e = .returned (.tuple #[(s.act c x).1.val, (s.act c x).2.1.val pv']) ∧ ActLeads w M sb mb av pf (s.act c x).2.1 (s.act c x).2.2 pv' w' := by
  obtain ⟨A, cap, hpv, hn1, hn2, hps⟩ := hp.1.openI
  obtain ⟨A1, cap1, hev, hn3, hn4, hes⟩ := he.1.openE EventR.cells (fun _ => rfl)
  obtain ⟨A2, cap2, hav, hnc2, hcm2, hel2⟩ := h.cell
  unfold maxLen at hn2 hn4 hcm2
  have hfew := hx.few
  have hsb := h.blk.lt
  have h0 : ∀ o1 o2 o3 o4, Only [] w ((((w.alloc o1).alloc o2).alloc o3).alloc o4) := fun o1 o2 o3 o4 => ((((Only.refl [] w).alloc _).alloc _).alloc _).alloc _
  have kC : ∀ cs t o2 o3 o4, Blk ((((w.alloc (.cells cs t)).alloc o2).alloc o3).alloc o4) w.heap.size t cs := fun cs t o2 o3 o4 => ((((Only.refl [] _).alloc o2).alloc o3).alloc o4).blk (Blk.new w t cs) (by simp)
  have kX : ∀ cs t o1 o3 o4, Blk ((((w.alloc o1).alloc (.cells cs t)).alloc o3).alloc o4) (w.heap.size + 1) t cs := fun cs t o1 o3 o4 => by
    have := (((Only.refl [] _).alloc o3).alloc o4).blk (Blk.new (w.alloc o1) t cs) (by simp)
    simpa using this
  have kA : ∀ cs t o1 o2 o4, Blk ((((w.alloc o1).alloc o2).alloc (.cells cs t)).alloc o4) (w.heap.size + 1 + 1) t cs := fun cs t o1 o2 o4 => by
    have := ((Only.refl [] _).alloc o4).blk (Blk.new ((w.alloc o1).alloc o2) t cs) (by simp)
    simpa using this
  have kY : ∀ cs t o1 o2 o3, Blk ((((w.alloc o1).alloc o2).alloc o3).alloc (.cells cs t)) (w.heap.size + 1 + 1 + 1) t cs := fun cs t o1 o2 o3 => by
    have := Blk.new (((w.alloc o1).alloc o2).alloc o3) t cs
    simpa using this
  have c0 : w.cell? ⟨sb, 0, none⟩ = some (.slice A2 s.all.length cap2) := by rw [← hav]; exact h.blk.cell 0
  have F0 := fun o1 o2 o3 o4 => Within.cell (S := []) (((h0 o1 o2 o3 o4).cell hsb (by simp)).trans c0) (by simp)
  have X0 := fun v a b d f g t o1 o3 o4 => Within.cell (S := []) ((kX #[v, a, b, d, f, g] t o1 o3 o4).cell 0) (by simp)
  subst hpv hev
  obtain ⟨R, hR⟩ : ∃ R, R = s.act c x := ⟨_, rfl⟩
  rw [← hR]
  have HR := Lib.hid hR
  clear hR c0
  rw [show c.val (.slice A1 c.events.length cap1) = .agg #[.int .i64 c.kind, .int .i64 c.time, .string c.stream, .int .i64 c.expected, .slice A1 c.events.length cap1, .int .i64 c.mt.maxCount, .int .i64 c.mt.maxAge, .int .i64 c.mt.before] from rfl,
    show x.val (.slice A x.places.length cap) = .agg #[.slice A x.places.length cap, .int .i64 x.mt.maxCount, .int .i64 x.mt.maxAge, .int .i64 x.mt.before, .int .i64 x.floor, .bool x.deleted] from rfl]
  have hk1 : ((c.kind : Int) == 2) = false := by rw [beq_eq_false_iff_ne]; omega
  have hk2 : ((c.kind : Int) == 3) = true := by rw [beq_iff_eq]; omega
  have HK := Lib.hid hk
  have HX := Lib.hid hexp
  have HE := Lib.hid (fun W => (expected_any c.expected x.places.length W ⟨by omega, by omega⟩))
  rw [hexp] at HE
  clear hk hexp
  go_enter Tryz.func23, Tryz.ntmps23
  go_wp2_with fail
  refine wp_region_in [] [0, 1, 2, 3, 4, 5, 6, 7, 8] [9] [10] (by kernel_rfl) (by kernel_rfl) (by intro c d u a w h; cases d <;> exact h) ?_
  show wpQuiet _ _ _ _ [_, _, _, _, _, _, _, _, _] _
  repeat (go_big_quiet_step (fail))
  refine wpQuiet_nil ?_
  show wpList _ _ _ [_] _ _
  go_wp2_with fail
  refine check_of (S := []) (((Only.refl [] _).alloc _).drew) ?_
  show wpList _ _ _ [_] _ _
  clear F0 X0
  go_wp2_with fail
  have k5 : ∀ o1 o2 o3 o4 o5, Only [] w (((((w.alloc o1).alloc o2).alloc o3).alloc o4).alloc o5).drew := fun o1 o2 o3 o4 o5 => ((h0 o1 o2 o3 o4).alloc o5).drew
  have kH : ∀ cs t o1 o2 o3 o4, Blk (((((w.alloc o1).alloc o2).alloc o3).alloc o4).alloc (.cells cs t)).drew (w.heap.size + 1 + 1 + 1 + 1) t cs := fun cs t o1 o2 o3 o4 => by
    have := (Only.refl [] _).drew.blk (Blk.new ((((w.alloc o1).alloc o2).alloc o3).alloc o4) t cs) (by simp <;> omega)
    simpa using this
  have kX : ∀ cs t o1 o3 o4 o5, Blk (((((w.alloc o1).alloc (.cells cs t)).alloc o3).alloc o4).alloc o5).drew (w.heap.size + 1) t cs := fun cs t o1 o3 o4 o5 => ((Only.refl [] _).alloc o5).drew.blk (kX cs t o1 o3 o4) (by simp <;> omega)
  have kA : ∀ cs t o1 o2 o4 o5, Blk (((((w.alloc o1).alloc o2).alloc (.cells cs t)).alloc o4).alloc o5).drew (w.heap.size + 1 + 1) t cs := fun cs t o1 o2 o4 o5 => ((Only.refl [] _).alloc o5).drew.blk (kA cs t o1 o2 o4) (by simp <;> omega)
  have kY : ∀ cs t o1 o2 o3 o5, Blk (((((w.alloc o1).alloc o2).alloc o3).alloc (.cells cs t)).alloc o5).drew (w.heap.size + 1 + 1 + 1) t cs := fun cs t o1 o2 o3 o5 => ((Only.refl [] _).alloc o5).drew.blk (kY cs t o1 o2 o3) (by simp <;> omega)
  have kS : ∀ o1 o2 o3 o4 o5, StAt (((((w.alloc o1).alloc o2).alloc o3).alloc o4).alloc o5).drew M sb mb av pf s := fun o1 o2 o3 o4 o5 => h.only0 (k5 o1 o2 o3 o4 o5)
  go_wp2_with (go_at_call 59; refine (HE.out _).mono ?_; rintro e w1 ⟨rfl, hWE⟩; subst hWE)
  have H0 := fun v a b d o1 o2 o3 o4 => Within.cell (S := [w.heap.size + 1 + 1]) ((kH #[v, a, b, d] 34 o1 o2 o3 o4).cell 0) (by simp <;> omega)
  have H1 := fun v a b d o1 o2 o3 o4 => Within.cell (S := [w.heap.size + 1 + 1]) ((kH #[v, a, b, d] 34 o1 o2 o3 o4).cell 1) (by simp <;> omega)
  have H2 := fun v a b d o1 o2 o3 o4 => Within.cell (S := [w.heap.size + 1 + 1]) ((kH #[v, a, b, d] 34 o1 o2 o3 o4).cell 2) (by simp <;> omega)
  have H3 := fun v a b d o1 o2 o3 o4 => Within.cell (S := [w.heap.size + 1 + 1]) ((kH #[v, a, b, d] 34 o1 o2 o3 o4).cell 3) (by simp <;> omega)
  have X0 := fun v a b d f g o1 o3 o4 o5 => Within.cell (S := [w.heap.size + 1 + 1]) ((kX #[v, a, b, d, f, g] 75 o1 o3 o4 o5).cell 0) (by simp <;> omega)
  have X1 := fun v a b d f g o1 o3 o4 o5 => Within.cell (S := [w.heap.size + 1 + 1]) ((kX #[v, a, b, d, f, g] 75 o1 o3 o4 o5).cell 1) (by simp <;> omega)
  have X2 := fun v a b d f g o1 o3 o4 o5 => Within.cell (S := [w.heap.size + 1 + 1]) ((kX #[v, a, b, d, f, g] 75 o1 o3 o4 o5).cell 2) (by simp <;> omega)
  have X3 := fun v a b d f g o1 o3 o4 o5 => Within.cell (S := [w.heap.size + 1 + 1]) ((kX #[v, a, b, d, f, g] 75 o1 o3 o4 o5).cell 3) (by simp <;> omega)
  have X4 := fun v a b d f g o1 o3 o4 o5 => Within.cell (S := [w.heap.size + 1 + 1]) ((kX #[v, a, b, d, f, g] 75 o1 o3 o4 o5).cell 4) (by simp <;> omega)
  have X5 := fun v a b d f g o1 o3 o4 o5 => Within.cell (S := [w.heap.size + 1 + 1]) ((kX #[v, a, b, d, f, g] 75 o1 o3 o4 o5).cell 5) (by simp <;> omega)
  refine wp_region_in [w.heap.size + 1 + 1] [0, 1] [2] [3] (by kernel_rfl) (by kernel_rfl) (by intro c d u a w h; cases d <;> exact h) ?_
  show wpQuiet _ _ _ _ [_, _] _
  repeat (go_big_quiet_step (fail))
  refine wpQuiet_nil ?_
  show wpList _ _ _ [_] _ _
  go_wp2_with fail
  refine check_of (S := [w.heap.size + 1 + 1]) (turned w _ _ _ _ _ _).drew.drew ?_
  show wpList _ _ _ [_] _ _
  go_wp2
  have hR := HR.out
  subst hR
  clear HR H0 H1 H2 H3 X0 X1 X2 X3 X4 X5
  have hbA := fun cs o1 o2 o4 o5 i => ((Only.refl [] _).drew.blk (kA cs 34 o1 o2 o4 o5) (by simp)).cell i
  have hbY := fun cs o1 o2 o3 o5 i => ((Only.refl [] _).drew.blk (kY cs 75 o1 o2 o3 o5) (by simp)).cell i
  refine bodyPost_ret (v := .tuple #[.agg #[.int .i64 0, .int .i64 x.places.length, .int .i64 s.all.length, .bool false], .agg #[.slice A x.places.length cap, .int .i64 x.mt.maxCount, .int .i64 x.mt.maxAge, .int .i64 x.mt.before, .int .i64 x.floor, .bool true]]) (by simp [results, Tryz.results23, go_sem, hbA, hbY]) rfl ⟨.slice A x.places.length cap, ?_⟩
  have hE : s.act c x = (⟨0, x.places.length, s.all.length, false⟩, { x with deleted := true }, s) := by
    have := HK.out
    unfold MS.act
    rw [if_neg (by omega), if_pos (by omega), HX.out, if_pos rfl]
  rw [hE]
  refine ⟨rfl, ActLeads.same h hp ?hw⟩
  case hw => exact (k5 _ _ _ _ _).drew
set_option maxRecDepth 100000 in
set_option maxHeartbeats 4000000 in
theorem act_delNo {w : World} {M : List Nat} {sb mb : Nat} {av pv ev : Value} {pf : ByteArray → Value} {s : MS} {x : StreamR} {c : Cmd} (h : StAt w M sb mb av pf s) (hx : XOk s x) (hp : Rd M w 1 pv x.places.length (ints x.places))
    (he : Rd M w 4 ev c.events.length (c.events.flatMap EventR.cells)) (hl : s.all.length ≤ 1000000) (hk : c.kind = 3) (hexp : expected c.expected x.places.length = false) :
    Calls Tryz.prog 23 #[.pointer (some ⟨sb, 0, none⟩), c.val ev, x.val pv] w fun e w' => ∃ pv', e = .returned (.tuple #[(s.act c x).1.val, (s.act c x).2.1.val pv']) ∧ ActLeads w M sb mb av pf (s.act c x).2.1 (s.act c x).2.2 pv' w' := by
  obtain ⟨A, cap, hpv, hn1, hn2, hps⟩ := hp.1.openI
  obtain ⟨A1, cap1, hev, hn3, hn4, hes⟩ := he.1.openE EventR.cells (fun _ => rfl)
  obtain ⟨A2, cap2, hav, hnc2, hcm2, hel2⟩ := h.cell
  unfold maxLen at hn2 hn4 hcm2
  have hfew := hx.few
  have hsb := h.blk.lt
  have h0 : ∀ o1 o2 o3 o4, Only [] w ((((w.alloc o1).alloc o2).alloc o3).alloc o4) := fun o1 o2 o3 o4 => ((((Only.refl [] w).alloc _).alloc _).alloc _).alloc _
  have kC : ∀ cs t o2 o3 o4, Blk ((((w.alloc (.cells cs t)).alloc o2).alloc o3).alloc o4) w.heap.size t cs := fun cs t o2 o3 o4 => ((((Only.refl [] _).alloc o2).alloc o3).alloc o4).blk (Blk.new w t cs) (by simp)
  have kX : ∀ cs t o1 o3 o4, Blk ((((w.alloc o1).alloc (.cells cs t)).alloc o3).alloc o4) (w.heap.size + 1) t cs := fun cs t o1 o3 o4 => by
    have := (((Only.refl [] _).alloc o3).alloc o4).blk (Blk.new (w.alloc o1) t cs) (by simp)
    simpa using this
  have kA : ∀ cs t o1 o2 o4, Blk ((((w.alloc o1).alloc o2).alloc (.cells cs t)).alloc o4) (w.heap.size + 1 + 1) t cs := fun cs t o1 o2 o4 => by
    have := ((Only.refl [] _).alloc o4).blk (Blk.new ((w.alloc o1).alloc o2) t cs) (by simp)
    simpa using this
  have kY : ∀ cs t o1 o2 o3, Blk ((((w.alloc o1).alloc o2).alloc o3).alloc (.cells cs t)) (w.heap.size + 1 + 1 + 1) t cs := fun cs t o1 o2 o3 => by
    have := Blk.new (((w.alloc o1).alloc o2).alloc o3) t cs
    simpa using this
  have c0 : w.cell? ⟨sb, 0, none⟩ = some (.slice A2 s.all.length cap2) := by rw [← hav]; exact h.blk.cell 0
  have F0 := fun o1 o2 o3 o4 => Within.cell (S := []) (((h0 o1 o2 o3 o4).cell hsb (by simp)).trans c0) (by simp)
  have X0 := fun v a b d f g t o1 o3 o4 => Within.cell (S := []) ((kX #[v, a, b, d, f, g] t o1 o3 o4).cell 0) (by simp)
  subst hpv hev
  obtain ⟨R, hR⟩ : ∃ R, R = s.act c x := ⟨_, rfl⟩
  rw [← hR]
  have HR := Lib.hid hR
  clear hR c0
  rw [show c.val (.slice A1 c.events.length cap1) = .agg #[.int .i64 c.kind, .int .i64 c.time, .string c.stream, .int .i64 c.expected, .slice A1 c.events.length cap1, .int .i64 c.mt.maxCount, .int .i64 c.mt.maxAge, .int .i64 c.mt.before] from rfl,
    show x.val (.slice A x.places.length cap) = .agg #[.slice A x.places.length cap, .int .i64 x.mt.maxCount, .int .i64 x.mt.maxAge, .int .i64 x.mt.before, .int .i64 x.floor, .bool x.deleted] from rfl]
  have HWr := Lib.hid (fun (W : World) (hw : Only [] w W) => show Calls Tryz.prog 60 #[.agg #[.slice A x.places.length cap, .int .i64 x.mt.maxCount, .int .i64 x.mt.maxAge, .int .i64 x.mt.before, .int .i64 x.floor, .bool x.deleted]] W fun e w' => e = .returned (.agg #[.int .i64 22, .int .i64 ((x.places.length : Int) - 1), .int .i64 0, .bool false]) ∧ Only [] W w' from wrong_any (x := x) (hp.1.only0 hw) (by omega))
  have hk1 : ((c.kind : Int) == 2) = false := by rw [beq_eq_false_iff_ne]; omega
  have hk2 : ((c.kind : Int) == 3) = true := by rw [beq_iff_eq]; omega
  have HK := Lib.hid hk
  have HX := Lib.hid hexp
  have HE := Lib.hid (fun W => (expected_any c.expected x.places.length W ⟨by omega, by omega⟩))
  rw [hexp] at HE
  clear hk hexp
  go_enter Tryz.func23, Tryz.ntmps23
  go_wp2_with fail
  refine wp_region_in [] [0, 1, 2, 3, 4, 5, 6, 7, 8] [9] [10] (by kernel_rfl) (by kernel_rfl) (by intro c d u a w h; cases d <;> exact h) ?_
  show wpQuiet _ _ _ _ [_, _, _, _, _, _, _, _, _] _
  repeat (go_big_quiet_step (fail))
  refine wpQuiet_nil ?_
  show wpList _ _ _ [_] _ _
  go_wp2_with fail
  refine check_of (S := []) (((Only.refl [] _).alloc _).drew) ?_
  show wpList _ _ _ [_] _ _
  clear F0 X0
  go_wp2_with fail
  have k5 : ∀ o1 o2 o3 o4 o5, Only [] w (((((w.alloc o1).alloc o2).alloc o3).alloc o4).alloc o5).drew := fun o1 o2 o3 o4 o5 => ((h0 o1 o2 o3 o4).alloc o5).drew
  have kH : ∀ cs t o1 o2 o3 o4, Blk (((((w.alloc o1).alloc o2).alloc o3).alloc o4).alloc (.cells cs t)).drew (w.heap.size + 1 + 1 + 1 + 1) t cs := fun cs t o1 o2 o3 o4 => by
    have := (Only.refl [] _).drew.blk (Blk.new ((((w.alloc o1).alloc o2).alloc o3).alloc o4) t cs) (by simp <;> omega)
    simpa using this
  have kX : ∀ cs t o1 o3 o4 o5, Blk (((((w.alloc o1).alloc (.cells cs t)).alloc o3).alloc o4).alloc o5).drew (w.heap.size + 1) t cs := fun cs t o1 o3 o4 o5 => ((Only.refl [] _).alloc o5).drew.blk (kX cs t o1 o3 o4) (by simp <;> omega)
  have kA : ∀ cs t o1 o2 o4 o5, Blk (((((w.alloc o1).alloc o2).alloc (.cells cs t)).alloc o4).alloc o5).drew (w.heap.size + 1 + 1) t cs := fun cs t o1 o2 o4 o5 => ((Only.refl [] _).alloc o5).drew.blk (kA cs t o1 o2 o4) (by simp <;> omega)
  have kY : ∀ cs t o1 o2 o3 o5, Blk (((((w.alloc o1).alloc o2).alloc o3).alloc (.cells cs t)).alloc o5).drew (w.heap.size + 1 + 1 + 1) t cs := fun cs t o1 o2 o3 o5 => ((Only.refl [] _).alloc o5).drew.blk (kY cs t o1 o2 o3) (by simp <;> omega)
  have kS : ∀ o1 o2 o3 o4 o5, StAt (((((w.alloc o1).alloc o2).alloc o3).alloc o4).alloc o5).drew M sb mb av pf s := fun o1 o2 o3 o4 o5 => h.only0 (k5 o1 o2 o3 o4 o5)
  go_wp2_with (go_at_call 59; refine (HE.out _).mono ?_; rintro e w1 ⟨rfl, hWE⟩; subst hWE)
  have H0 := fun v a b d o1 o2 o3 o4 => Within.cell (S := [w.heap.size + 1 + 1]) ((kH #[v, a, b, d] 34 o1 o2 o3 o4).cell 0) (by simp <;> omega)
  have H1 := fun v a b d o1 o2 o3 o4 => Within.cell (S := [w.heap.size + 1 + 1]) ((kH #[v, a, b, d] 34 o1 o2 o3 o4).cell 1) (by simp <;> omega)
  have H2 := fun v a b d o1 o2 o3 o4 => Within.cell (S := [w.heap.size + 1 + 1]) ((kH #[v, a, b, d] 34 o1 o2 o3 o4).cell 2) (by simp <;> omega)
  have H3 := fun v a b d o1 o2 o3 o4 => Within.cell (S := [w.heap.size + 1 + 1]) ((kH #[v, a, b, d] 34 o1 o2 o3 o4).cell 3) (by simp <;> omega)
  have X0 := fun v a b d f g o1 o3 o4 o5 => Within.cell (S := [w.heap.size + 1 + 1]) ((kX #[v, a, b, d, f, g] 75 o1 o3 o4 o5).cell 0) (by simp <;> omega)
  have X1 := fun v a b d f g o1 o3 o4 o5 => Within.cell (S := [w.heap.size + 1 + 1]) ((kX #[v, a, b, d, f, g] 75 o1 o3 o4 o5).cell 1) (by simp <;> omega)
  have X2 := fun v a b d f g o1 o3 o4 o5 => Within.cell (S := [w.heap.size + 1 + 1]) ((kX #[v, a, b, d, f, g] 75 o1 o3 o4 o5).cell 2) (by simp <;> omega)
  have X3 := fun v a b d f g o1 o3 o4 o5 => Within.cell (S := [w.heap.size + 1 + 1]) ((kX #[v, a, b, d, f, g] 75 o1 o3 o4 o5).cell 3) (by simp <;> omega)
  have X4 := fun v a b d f g o1 o3 o4 o5 => Within.cell (S := [w.heap.size + 1 + 1]) ((kX #[v, a, b, d, f, g] 75 o1 o3 o4 o5).cell 4) (by simp <;> omega)
  have X5 := fun v a b d f g o1 o3 o4 o5 => Within.cell (S := [w.heap.size + 1 + 1]) ((kX #[v, a, b, d, f, g] 75 o1 o3 o4 o5).cell 5) (by simp <;> omega)
  refine wp_region_in [w.heap.size + 1 + 1] [0, 2] [1, 3] [4] (by kernel_rfl) (by kernel_rfl) (by intro c d u a w h; cases d <;> exact h) ?_
  show wpQuiet _ _ _ _ [_, _] _
  repeat (go_big_quiet_step (fail))
  refine wpQuiet_nil ?_
  show wpList _ _ _ [_] _ _
  go_wp2_with (go_at_call 60; refine (HWr.out _ (k5 _ _ _ _ _).drew).mono ?_; rintro e w1 ⟨rfl, ho1⟩)
  refine check_of (S := [w.heap.size + 1 + 1]) (((Only.refl [] _).drew.trans ho1).of_nil) ?_
  show wpList _ _ _ [_] _ _
  have hA1 := fun i => (ho1.blk ((Only.refl [] _).drew.blk (kA _ _ _ _ _ _) (by simp)) (by simp <;> omega)).cell i
  have hA1f := fun i => (ho1.blk ((Only.refl [] _).drew.blk (kA _ _ _ _ _ _) (by simp)) (by simp <;> omega)).free i
  have hY1 := fun i => (ho1.blk ((Only.refl [] _).drew.blk (kY _ _ _ _ _ _) (by simp)) (by simp <;> omega)).cell i
  have hY1f := fun i => (ho1.blk ((Only.refl [] _).drew.blk (kY _ _ _ _ _ _) (by simp)) (by simp <;> omega)).free i
  go_wp2_with fail
  refine check_of (S := [w.heap.size + 1 + 1]) (by repeat (first | exact ((Only.refl [] _).drew.trans ho1).of_nil | refine Only.drew ?_ | refine Only.setCell ?_ (.inl (by simp)) _)) ?_
  show wpList _ _ _ [_] _ _
  go_wp2
  have hR := HR.out
  subst hR
  clear HR H0 H1 H2 H3 X0 X1 X2 X3 X4 X5
  refine bodyPost_ret (v := .tuple #[.agg #[.int .i64 22, .int .i64 ((x.places.length : Int) - 1), .int .i64 0, .bool false], .agg #[.slice A x.places.length cap, .int .i64 x.mt.maxCount, .int .i64 x.mt.maxAge, .int .i64 x.mt.before, .int .i64 x.floor, .bool x.deleted]]) (by simp [results, Tryz.results23, go_sem, hA1, hY1]) rfl ⟨.slice A x.places.length cap, ?_⟩
  have hE : s.act c x = (wrong x, x, s) := by
    have := HK.out
    unfold MS.act
    rw [if_neg (by omega), if_pos (by omega), HX.out, if_neg (by decide)]
  rw [hE]
  refine ⟨rfl, ActLeads.same h hp ?hw⟩
  case hw =>
    iterate 10 (refine Only.setCell ?_ (.inr (by simp <;> omega)) _)
    exact (k5 _ _ _ _ _).drew.trans ho1
end Go.Proofs.YteinoiicnmemhaaGreatDoor
/- Contract: act on a command that appends. -/
set_option linter.unusedVariables false
set_option linter.unusedSimpArgs false
namespace Go.Proofs.YteinoiicnmemhaaGreatDoor
open Go.RowKit
theorem firstOf_cases (all : List StoredR) (id : Int) : ∀ (ps : List Int) (k : Int), firstOf all id ps k = -1 ∨ (k ≤ firstOf all id ps k ∧ firstOf all id ps k < k + ps.length)
  | [], _ => .inl rfl
  | p :: l, k => by
    unfold firstOf
    split
    · right
      simp
      omega
    · rcases firstOf_cases all id l (k + 1) with q | q
      · exact .inl q
      · right
        simp
        omega
theorem first_cases (s : MS) (x : StreamR) (id : Int) : s.first x id = -1 ∨ ∃ v : Nat, s.first x id = v ∧ v < x.places.length := by
  rcases firstOf_cases s.all id x.places 0 with q | ⟨q1, q2⟩
  · exact .inl q
  · refine .inr ⟨(s.first x id).toNat, ?_, ?_⟩ <;> unfold MS.first <;> omega
def headId (c : Cmd) : Int := ((c.events.head?).map (·.id)).getD 0
theorem headId_at {c : Cmd} (h : 0 < c.events.length) : headId c = c.events[0].id := by
  unfold headId
  rw [List.head?_eq_getElem?, List.getElem?_eq_getElem h]
  rfl
set_option maxRecDepth 100000 in
set_option maxHeartbeats 4000000 in
theorem act_again {w : World} {M : List Nat} {sb mb : Nat} {av pv ev : Value} {pf : ByteArray → Value} {s : MS} {x : StreamR} {c : Cmd} (h : StAt w M sb mb av pf s) (hx : XOk s x) (hp : Rd M w 1 pv x.places.length (ints x.places))
    (he : Rd M w 4 ev c.events.length (c.events.flatMap EventR.cells)) (hl : s.all.length ≤ 1000000) (hk : c.kind ≠ 2 ∧ c.kind ≠ 3) (hel : 1 ≤ c.events.length ∧ c.events.length ≤ 8) {v : Nat} (hv : s.first x (headId c) = v) (hvl : v < x.places.length) :
    Calls Tryz.prog 23 #[.pointer (some ⟨sb, 0, none⟩), c.val ev, x.val pv] w fun e w' => ∃ pv', e = .returned (.tuple #[(s.act c x).1.val, (s.act c x).2.1.val pv']) ∧ ActLeads w M sb mb av pf (s.act c x).2.1 (s.act c x).2.2 pv' w' := by
  obtain ⟨A, cap, hpv, hn1, hn2, hps⟩ := hp.1.openI
  obtain ⟨A1, cap1, hev, hn3, hn4, hes⟩ := he.1.openE EventR.cells (fun _ => rfl)
  obtain ⟨A2, cap2, hav, hnc2, hcm2, hel2⟩ := h.cell
  unfold maxLen at hn2 hn4 hcm2
  have hfew := hx.few
  have hsb := h.blk.lt
  have h0 : ∀ o1 o2 o3 o4, Only [] w ((((w.alloc o1).alloc o2).alloc o3).alloc o4) := fun o1 o2 o3 o4 => ((((Only.refl [] w).alloc _).alloc _).alloc _).alloc _
  have kC : ∀ cs t o2 o3 o4, Blk ((((w.alloc (.cells cs t)).alloc o2).alloc o3).alloc o4) w.heap.size t cs := fun cs t o2 o3 o4 => ((((Only.refl [] _).alloc o2).alloc o3).alloc o4).blk (Blk.new w t cs) (by simp)
  have kX : ∀ cs t o1 o3 o4, Blk ((((w.alloc o1).alloc (.cells cs t)).alloc o3).alloc o4) (w.heap.size + 1) t cs := fun cs t o1 o3 o4 => by
    have := (((Only.refl [] _).alloc o3).alloc o4).blk (Blk.new (w.alloc o1) t cs) (by simp)
    simpa using this
  have kA : ∀ cs t o1 o2 o4, Blk ((((w.alloc o1).alloc o2).alloc (.cells cs t)).alloc o4) (w.heap.size + 1 + 1) t cs := fun cs t o1 o2 o4 => by
    have := ((Only.refl [] _).alloc o4).blk (Blk.new ((w.alloc o1).alloc o2) t cs) (by simp)
    simpa using this
  have kY : ∀ cs t o1 o2 o3, Blk ((((w.alloc o1).alloc o2).alloc o3).alloc (.cells cs t)) (w.heap.size + 1 + 1 + 1) t cs := fun cs t o1 o2 o3 => by
    have := Blk.new (((w.alloc o1).alloc o2).alloc o3) t cs
    simpa using this
  have c0 : w.cell? ⟨sb, 0, none⟩ = some (.slice A2 s.all.length cap2) := by rw [← hav]; exact h.blk.cell 0
  have F0 := fun o1 o2 o3 o4 => Within.cell (S := []) (((h0 o1 o2 o3 o4).cell hsb (by simp)).trans c0) (by simp)
  have X0 := fun v a b d f g t o1 o3 o4 => Within.cell (S := []) ((kX #[v, a, b, d, f, g] t o1 o3 o4).cell 0) (by simp)
  subst hpv hev
  obtain ⟨R, hR⟩ : ∃ R, R = s.act c x := ⟨_, rfl⟩
  rw [← hR]
  have HR := Lib.hid hR
  clear hR c0
  rw [show c.val (.slice A1 c.events.length cap1) = .agg #[.int .i64 c.kind, .int .i64 c.time, .string c.stream, .int .i64 c.expected, .slice A1 c.events.length cap1, .int .i64 c.mt.maxCount, .int .i64 c.mt.maxAge, .int .i64 c.mt.before] from rfl,
    show x.val (.slice A x.places.length cap) = .agg #[.slice A x.places.length cap, .int .i64 x.mt.maxCount, .int .i64 x.mt.maxAge, .int .i64 x.mt.before, .int .i64 x.floor, .bool x.deleted] from rfl]
  have hk1 : ((c.kind : Int) == 2) = false := by rw [beq_eq_false_iff_ne]; omega
  have hk2 : ((c.kind : Int) == 3) = false := by rw [beq_eq_false_iff_ne]; omega
  obtain ⟨hel1, hel8⟩ := hel
  obtain ⟨be, offe, rfl, hbe, hce⟩ := hes 0 (by omega)
  have e0 : w.cell? ⟨be, offe, none⟩ = some (.int .i64 (headId c)) := by
    rw [headId_at (by omega)]
    have q := hce 0 (by omega)
    simp only [Nat.zero_mul, Nat.add_zero] at q
    rw [q]
    rfl
  have HFi := Lib.hid (fun (W : World) (hw : Only [] w W) => show Calls Tryz.prog 61 #[.pointer (some ⟨sb, 0, none⟩), .agg #[.slice A x.places.length cap, .int .i64 x.mt.maxCount, .int .i64 x.mt.maxAge, .int .i64 x.mt.before, .int .i64 x.floor, .bool x.deleted], .int .i64 (headId c)] W fun e w' => e = .returned (.int .i64 (s.first x (headId c))) ∧ Only [] W w' from first_any (x := x) (headId c) (h.only0 hw) hx (hp.1.only0 hw))
  have HWr := Lib.hid (fun (W : World) (hw : Only [] w W) => show Calls Tryz.prog 60 #[.agg #[.slice A x.places.length cap, .int .i64 x.mt.maxCount, .int .i64 x.mt.maxAge, .int .i64 x.mt.before, .int .i64 x.floor, .bool x.deleted]] W fun e w' => e = .returned (.agg #[.int .i64 22, .int .i64 ((x.places.length : Int) - 1), .int .i64 0, .bool false]) ∧ Only [] W w' from wrong_any (x := x) (hp.1.only0 hw) (by omega))
  have HE := Lib.hid (fun W => (expected_any c.expected x.places.length W ⟨by omega, by omega⟩))
  have HK := Lib.hid hk
  clear hk
  have hd0 : 0 < c.events.length := by omega
  obtain ⟨id0, hid0⟩ : ∃ i, i = headId c := ⟨_, rfl⟩
  obtain ⟨f, hf⟩ : ∃ f, f = s.first x (headId c) := ⟨_, rfl⟩
  have HF := Lib.hid hf
  rw [← hf, ← hid0] at HFi
  rw [← hid0] at e0
  clear hf hid0
  have HAg := Lib.hid (fun (W : World) (hw : Only [] w W) => show Calls Tryz.prog 62 #[.pointer (some ⟨sb, 0, none⟩), .agg #[.int .i64 c.kind, .int .i64 c.time, .string c.stream, .int .i64 c.expected, .slice (some ⟨be, offe, none⟩) c.events.length cap1, .int .i64 c.mt.maxCount, .int .i64 c.mt.maxAge, .int .i64 c.mt.before], .agg #[.slice A x.places.length cap, .int .i64 x.mt.maxCount, .int .i64 x.mt.maxAge, .int .i64 x.mt.before, .int .i64 x.floor, .bool x.deleted], .int .i64 v] W fun e w' => e = .returned (.agg #[.int .i64 (s.again c x v).err, .int .i64 (s.again c x v).version, .int .i64 (s.again c x v).position, .bool (s.again c x v).again]) ∧ Only [] W w' from again_any (x := x) (c := c) (h.only0 hw) hx (hp.1.only0 hw) (he.1.only0 hw) (by omega) ⟨hel1, hel8⟩ (by omega))
  have hfv : f = v := by rw [HF.out, hv]
  rw [hfv] at HFi
  go_enter Tryz.func23, Tryz.ntmps23
  go_wp2_with fail
  refine wp_region_in [] [0, 1, 2, 3, 4, 5, 6, 7, 8] [9] [10] (by kernel_rfl) (by kernel_rfl) (by intro c d u a w h; cases d <;> exact h) ?_
  show wpQuiet _ _ _ _ [_, _, _, _, _, _, _, _, _] _
  repeat (go_big_quiet_step (fail))
  refine wpQuiet_nil ?_
  show wpList _ _ _ [_] _ _
  go_wp2_with fail
  refine check_of (S := []) (((Only.refl [] _).alloc _).drew) ?_
  show wpList _ _ _ [_] _ _
  clear F0 X0
  go_wp2_with fail
  have k5 : ∀ o1 o2 o3 o4 o5, Only [] w (((((w.alloc o1).alloc o2).alloc o3).alloc o4).alloc o5).drew := fun o1 o2 o3 o4 o5 => ((h0 o1 o2 o3 o4).alloc o5).drew
  have kH : ∀ cs t o1 o2 o3 o4, Blk (((((w.alloc o1).alloc o2).alloc o3).alloc o4).alloc (.cells cs t)).drew (w.heap.size + 1 + 1 + 1 + 1) t cs := fun cs t o1 o2 o3 o4 => by
    have := (Only.refl [] _).drew.blk (Blk.new ((((w.alloc o1).alloc o2).alloc o3).alloc o4) t cs) (by simp <;> omega)
    simpa using this
  have kX : ∀ cs t o1 o3 o4 o5, Blk (((((w.alloc o1).alloc (.cells cs t)).alloc o3).alloc o4).alloc o5).drew (w.heap.size + 1) t cs := fun cs t o1 o3 o4 o5 => ((Only.refl [] _).alloc o5).drew.blk (kX cs t o1 o3 o4) (by simp <;> omega)
  have kA : ∀ cs t o1 o2 o4 o5, Blk (((((w.alloc o1).alloc o2).alloc (.cells cs t)).alloc o4).alloc o5).drew (w.heap.size + 1 + 1) t cs := fun cs t o1 o2 o4 o5 => ((Only.refl [] _).alloc o5).drew.blk (kA cs t o1 o2 o4) (by simp <;> omega)
  have kY : ∀ cs t o1 o2 o3 o5, Blk (((((w.alloc o1).alloc o2).alloc o3).alloc (.cells cs t)).alloc o5).drew (w.heap.size + 1 + 1 + 1) t cs := fun cs t o1 o2 o3 o5 => ((Only.refl [] _).alloc o5).drew.blk (kY cs t o1 o2 o3) (by simp <;> omega)
  have kS : ∀ o1 o2 o3 o4 o5, StAt (((((w.alloc o1).alloc o2).alloc o3).alloc o4).alloc o5).drew M sb mb av pf s := fun o1 o2 o3 o4 o5 => h.only0 (k5 o1 o2 o3 o4 o5)
  have kC : ∀ cs t o2 o3 o4 o5, Blk (((((w.alloc (.cells cs t)).alloc o2).alloc o3).alloc o4).alloc o5).drew w.heap.size t cs := fun cs t o2 o3 o4 o5 => ((Only.refl [] _).alloc o5).drew.blk (kC cs t o2 o3 o4) (by simp)
  go_wp2_with fail
  have X0 := fun v a b d f g o1 o3 o4 o5 => Within.cell (S := []) ((kX #[v, a, b, d, f, g] 75 o1 o3 o4 o5).cell 0) (by simp)
  have X1 := fun v a b d f g o1 o3 o4 o5 => Within.cell (S := []) ((kX #[v, a, b, d, f, g] 75 o1 o3 o4 o5).cell 1) (by simp)
  have X2 := fun v a b d f g o1 o3 o4 o5 => Within.cell (S := []) ((kX #[v, a, b, d, f, g] 75 o1 o3 o4 o5).cell 2) (by simp)
  have X3 := fun v a b d f g o1 o3 o4 o5 => Within.cell (S := []) ((kX #[v, a, b, d, f, g] 75 o1 o3 o4 o5).cell 3) (by simp)
  have X4 := fun v a b d f g o1 o3 o4 o5 => Within.cell (S := []) ((kX #[v, a, b, d, f, g] 75 o1 o3 o4 o5).cell 4) (by simp)
  have X5 := fun v a b d f g o1 o3 o4 o5 => Within.cell (S := []) ((kX #[v, a, b, d, f, g] 75 o1 o3 o4 o5).cell 5) (by simp)
  have C4 := fun a b d e f g i j k o2 o3 o4 o5 => Within.cell (S := []) ((kC #[a, b, d, e, f, g, i, j, k] 40 o2 o3 o4 o5).cell 4) (by simp)
  have C4' := fun a b d e f g i j o2 o3 o4 o5 => Within.cell (S := []) ((kC #[a, b, d, e, f, g, i, j] 40 o2 o3 o4 o5).cell 4) (by simp)
  have E0 := fun o1 o2 o3 o4 o5 => Within.cell (S := []) (((k5 o1 o2 o3 o4 o5).cell hbe (by simp)).trans e0) (by simp)
  refine wp_region_in [] [0, 1, 2, 3, 4, 5, 6] [] [7, 8] (by kernel_rfl) (by kernel_rfl) (by intro c d u a w h; cases d <;> exact h) ?_
  show wpQuiet _ _ _ _ [_, _, _, _, _, _, _] _
  repeat (go_big_quiet_step (fail))
  refine wpQuiet_nil ?_
  show wpList _ _ _ [_, _] _ _
  clear X0 X1 X2 X3 X4 X5 C4 C4' E0
  go_wp2_with (go_at_call 61; refine (HFi.out _ (k5 _ _ _ _ _).drew).mono ?_; rintro e w1 ⟨rfl, ho1⟩)
  have hO1 : Only [] w w1 := (k5 _ _ _ _ _).drew.trans ho1
  have lC := ho1.blk ((Only.refl [] _).drew.blk (kC _ _ _ _ _ _) (by simp)) (by simp)
  have lX := ho1.blk ((Only.refl [] _).drew.blk (kX _ _ _ _ _ _) (by simp)) (by simp)
  have lA := ho1.blk ((Only.refl [] _).drew.blk (kA _ _ _ _ _ _) (by simp)) (by simp)
  have lY := ho1.blk ((Only.refl [] _).drew.blk (kY _ _ _ _ _ _) (by simp)) (by simp)
  have C0 := Within.cell (S := [w.heap.size + 1 + 1]) (lC.cell 0) (by simp <;> omega)
  have C1 := Within.cell (S := [w.heap.size + 1 + 1]) (lC.cell 1) (by simp <;> omega)
  have C2 := Within.cell (S := [w.heap.size + 1 + 1]) (lC.cell 2) (by simp <;> omega)
  have C3 := Within.cell (S := [w.heap.size + 1 + 1]) (lC.cell 3) (by simp <;> omega)
  have C4 := Within.cell (S := [w.heap.size + 1 + 1]) (lC.cell 4) (by simp <;> omega)
  have C5 := Within.cell (S := [w.heap.size + 1 + 1]) (lC.cell 5) (by simp <;> omega)
  have C6 := Within.cell (S := [w.heap.size + 1 + 1]) (lC.cell 6) (by simp <;> omega)
  have C7 := Within.cell (S := [w.heap.size + 1 + 1]) (lC.cell 7) (by simp <;> omega)
  have X0 := Within.cell (S := [w.heap.size + 1 + 1]) (lX.cell 0) (by simp <;> omega)
  have X1 := Within.cell (S := [w.heap.size + 1 + 1]) (lX.cell 1) (by simp <;> omega)
  have X2 := Within.cell (S := [w.heap.size + 1 + 1]) (lX.cell 2) (by simp <;> omega)
  have X3 := Within.cell (S := [w.heap.size + 1 + 1]) (lX.cell 3) (by simp <;> omega)
  have X4 := Within.cell (S := [w.heap.size + 1 + 1]) (lX.cell 4) (by simp <;> omega)
  have X5 := Within.cell (S := [w.heap.size + 1 + 1]) (lX.cell 5) (by simp <;> omega)
  obtain ⟨an, han⟩ : ∃ an, an = s.again c x v := ⟨_, rfl⟩
  rw [← han] at HAg
  have HAN := Lib.hid han
  clear han
  refine wp_region_in [w.heap.size + 1 + 1] [0, 1, 2, 3, 5] [4, 6] [7] (by kernel_rfl) (by kernel_rfl) (by intro c d u a w h; cases d <;> exact h) ?_
  show wpQuiet _ _ _ _ [_, _, _, _, _] _
  repeat (go_big_quiet_step (fail))
  refine wpQuiet_nil ?_
  show wpList _ _ _ [_] _ _
  go_wp2_with (go_at_call 62; refine (HAg.out _ hO1.drew).mono ?_; rintro e w2 ⟨rfl, ho2⟩)
  refine check_of (S := [w.heap.size + 1 + 1]) (((Only.refl [] _).drew.trans ho2).of_nil) ?_
  show wpList _ _ _ [_] _ _
  have ho2' := (Only.refl [] w1).drew.trans ho2
  have hA1 := fun i => (ho2'.blk lA (by simp)).cell i
  have hA1f := fun i => (ho2'.blk lA (by simp)).free i
  have hY1 := fun i => (ho2'.blk lY (by simp)).cell i
  have hY1f := fun i => (ho2'.blk lY (by simp)).free i
  go_wp2_with fail
  refine check_of (S := [w.heap.size + 1 + 1]) (by repeat (first | exact ((Only.refl [] _).drew.trans ho2).of_nil | refine Only.drew ?_ | refine Only.setCell ?_ (.inl (by simp)) _)) ?_
  show wpList _ _ _ [_] _ _
  go_wp2
  have hR := HR.out
  subst hR
  clear HR C0 C1 C2 C3 C4 C5 C6 C7 X0 X1 X2 X3 X4 X5
  refine bodyPost_ret (v := .tuple #[.agg #[.int .i64 an.err, .int .i64 an.version, .int .i64 an.position, .bool an.again], .agg #[.slice A x.places.length cap, .int .i64 x.mt.maxCount, .int .i64 x.mt.maxAge, .int .i64 x.mt.before, .int .i64 x.floor, .bool x.deleted]]) (by simp [results, Tryz.results23, go_sem, hA1, hY1]) rfl ⟨.slice A x.places.length cap, ?_⟩
  have hE : s.act c x = (an, x, s) := by
    have h1 := HK.out
    have h2 := HF.out
    unfold MS.act
    rw [if_neg h1.1, if_neg h1.2]
    show (if 0 ≤ s.first x (headId c) then (s.again c x (s.first x (headId c)), x, s) else _) = _
    rw [hv, if_pos (by omega), HAN.out]
  rw [hE]
  refine ⟨rfl, ActLeads.same h hp ?hw⟩
  case hw =>
    iterate 10 (refine Only.setCell ?_ (.inr (by simp <;> omega)) _)
    exact hO1.drew.trans ho2
set_option maxRecDepth 100000 in
set_option maxHeartbeats 4000000 in
theorem act_late {w : World} {M : List Nat} {sb mb : Nat} {av pv ev : Value} {pf : ByteArray → Value} {s : MS} {x : StreamR} {c : Cmd} (h : StAt w M sb mb av pf s) (hx : XOk s x) (hp : Rd M w 1 pv x.places.length (ints x.places))
    (he : Rd M w 4 ev c.events.length (c.events.flatMap EventR.cells)) (hl : s.all.length ≤ 1000000) (hk : c.kind ≠ 2 ∧ c.kind ≠ 3) (hel : 1 ≤ c.events.length ∧ c.events.length ≤ 8) (hv : s.first x (headId c) = -1) (hexp : expected c.expected x.places.length = false) :
    Calls Tryz.prog 23 #[.pointer (some ⟨sb, 0, none⟩), c.val ev, x.val pv] w fun e w' => ∃ pv', e = .returned (.tuple #[(s.act c x).1.val, (s.act c x).2.1.val pv']) ∧ ActLeads w M sb mb av pf (s.act c x).2.1 (s.act c x).2.2 pv' w' := by
  obtain ⟨A, cap, hpv, hn1, hn2, hps⟩ := hp.1.openI
  obtain ⟨A1, cap1, hev, hn3, hn4, hes⟩ := he.1.openE EventR.cells (fun _ => rfl)
  obtain ⟨A2, cap2, hav, hnc2, hcm2, hel2⟩ := h.cell
  unfold maxLen at hn2 hn4 hcm2
  have hfew := hx.few
  have hsb := h.blk.lt
  have h0 : ∀ o1 o2 o3 o4, Only [] w ((((w.alloc o1).alloc o2).alloc o3).alloc o4) := fun o1 o2 o3 o4 => ((((Only.refl [] w).alloc _).alloc _).alloc _).alloc _
  have kC : ∀ cs t o2 o3 o4, Blk ((((w.alloc (.cells cs t)).alloc o2).alloc o3).alloc o4) w.heap.size t cs := fun cs t o2 o3 o4 => ((((Only.refl [] _).alloc o2).alloc o3).alloc o4).blk (Blk.new w t cs) (by simp)
  have kX : ∀ cs t o1 o3 o4, Blk ((((w.alloc o1).alloc (.cells cs t)).alloc o3).alloc o4) (w.heap.size + 1) t cs := fun cs t o1 o3 o4 => by
    have := (((Only.refl [] _).alloc o3).alloc o4).blk (Blk.new (w.alloc o1) t cs) (by simp)
    simpa using this
  have kA : ∀ cs t o1 o2 o4, Blk ((((w.alloc o1).alloc o2).alloc (.cells cs t)).alloc o4) (w.heap.size + 1 + 1) t cs := fun cs t o1 o2 o4 => by
    have := ((Only.refl [] _).alloc o4).blk (Blk.new ((w.alloc o1).alloc o2) t cs) (by simp)
    simpa using this
  have kY : ∀ cs t o1 o2 o3, Blk ((((w.alloc o1).alloc o2).alloc o3).alloc (.cells cs t)) (w.heap.size + 1 + 1 + 1) t cs := fun cs t o1 o2 o3 => by
    have := Blk.new (((w.alloc o1).alloc o2).alloc o3) t cs
    simpa using this
  have c0 : w.cell? ⟨sb, 0, none⟩ = some (.slice A2 s.all.length cap2) := by rw [← hav]; exact h.blk.cell 0
  have F0 := fun o1 o2 o3 o4 => Within.cell (S := []) (((h0 o1 o2 o3 o4).cell hsb (by simp)).trans c0) (by simp)
  have X0 := fun v a b d f g t o1 o3 o4 => Within.cell (S := []) ((kX #[v, a, b, d, f, g] t o1 o3 o4).cell 0) (by simp)
  subst hpv hev
  obtain ⟨R, hR⟩ : ∃ R, R = s.act c x := ⟨_, rfl⟩
  rw [← hR]
  have HR := Lib.hid hR
  clear hR c0
  rw [show c.val (.slice A1 c.events.length cap1) = .agg #[.int .i64 c.kind, .int .i64 c.time, .string c.stream, .int .i64 c.expected, .slice A1 c.events.length cap1, .int .i64 c.mt.maxCount, .int .i64 c.mt.maxAge, .int .i64 c.mt.before] from rfl,
    show x.val (.slice A x.places.length cap) = .agg #[.slice A x.places.length cap, .int .i64 x.mt.maxCount, .int .i64 x.mt.maxAge, .int .i64 x.mt.before, .int .i64 x.floor, .bool x.deleted] from rfl]
  have hk1 : ((c.kind : Int) == 2) = false := by rw [beq_eq_false_iff_ne]; omega
  have hk2 : ((c.kind : Int) == 3) = false := by rw [beq_eq_false_iff_ne]; omega
  obtain ⟨hel1, hel8⟩ := hel
  obtain ⟨be, offe, rfl, hbe, hce⟩ := hes 0 (by omega)
  have e0 : w.cell? ⟨be, offe, none⟩ = some (.int .i64 (headId c)) := by
    rw [headId_at (by omega)]
    have q := hce 0 (by omega)
    simp only [Nat.zero_mul, Nat.add_zero] at q
    rw [q]
    rfl
  have HFi := Lib.hid (fun (W : World) (hw : Only [] w W) => show Calls Tryz.prog 61 #[.pointer (some ⟨sb, 0, none⟩), .agg #[.slice A x.places.length cap, .int .i64 x.mt.maxCount, .int .i64 x.mt.maxAge, .int .i64 x.mt.before, .int .i64 x.floor, .bool x.deleted], .int .i64 (headId c)] W fun e w' => e = .returned (.int .i64 (s.first x (headId c))) ∧ Only [] W w' from first_any (x := x) (headId c) (h.only0 hw) hx (hp.1.only0 hw))
  have HWr := Lib.hid (fun (W : World) (hw : Only [] w W) => show Calls Tryz.prog 60 #[.agg #[.slice A x.places.length cap, .int .i64 x.mt.maxCount, .int .i64 x.mt.maxAge, .int .i64 x.mt.before, .int .i64 x.floor, .bool x.deleted]] W fun e w' => e = .returned (.agg #[.int .i64 22, .int .i64 ((x.places.length : Int) - 1), .int .i64 0, .bool false]) ∧ Only [] W w' from wrong_any (x := x) (hp.1.only0 hw) (by omega))
  have HE := Lib.hid (fun W => (expected_any c.expected x.places.length W ⟨by omega, by omega⟩))
  have HK := Lib.hid hk
  clear hk
  have hd0 : 0 < c.events.length := by omega
  obtain ⟨id0, hid0⟩ : ∃ i, i = headId c := ⟨_, rfl⟩
  obtain ⟨f, hf⟩ : ∃ f, f = s.first x (headId c) := ⟨_, rfl⟩
  have HF := Lib.hid hf
  rw [← hf, ← hid0] at HFi
  rw [← hid0] at e0
  clear hf hid0
  have hfv : f = -1 := by rw [HF.out, hv]
  rw [hfv] at HFi
  rw [hexp] at HE
  have HX := Lib.hid hexp
  clear hexp
  go_enter Tryz.func23, Tryz.ntmps23
  go_wp2_with fail
  refine wp_region_in [] [0, 1, 2, 3, 4, 5, 6, 7, 8] [9] [10] (by kernel_rfl) (by kernel_rfl) (by intro c d u a w h; cases d <;> exact h) ?_
  show wpQuiet _ _ _ _ [_, _, _, _, _, _, _, _, _] _
  repeat (go_big_quiet_step (fail))
  refine wpQuiet_nil ?_
  show wpList _ _ _ [_] _ _
  go_wp2_with fail
  refine check_of (S := []) (((Only.refl [] _).alloc _).drew) ?_
  show wpList _ _ _ [_] _ _
  clear F0 X0
  go_wp2_with fail
  have k5 : ∀ o1 o2 o3 o4 o5, Only [] w (((((w.alloc o1).alloc o2).alloc o3).alloc o4).alloc o5).drew := fun o1 o2 o3 o4 o5 => ((h0 o1 o2 o3 o4).alloc o5).drew
  have kH : ∀ cs t o1 o2 o3 o4, Blk (((((w.alloc o1).alloc o2).alloc o3).alloc o4).alloc (.cells cs t)).drew (w.heap.size + 1 + 1 + 1 + 1) t cs := fun cs t o1 o2 o3 o4 => by
    have := (Only.refl [] _).drew.blk (Blk.new ((((w.alloc o1).alloc o2).alloc o3).alloc o4) t cs) (by simp <;> omega)
    simpa using this
  have kX : ∀ cs t o1 o3 o4 o5, Blk (((((w.alloc o1).alloc (.cells cs t)).alloc o3).alloc o4).alloc o5).drew (w.heap.size + 1) t cs := fun cs t o1 o3 o4 o5 => ((Only.refl [] _).alloc o5).drew.blk (kX cs t o1 o3 o4) (by simp <;> omega)
  have kA : ∀ cs t o1 o2 o4 o5, Blk (((((w.alloc o1).alloc o2).alloc (.cells cs t)).alloc o4).alloc o5).drew (w.heap.size + 1 + 1) t cs := fun cs t o1 o2 o4 o5 => ((Only.refl [] _).alloc o5).drew.blk (kA cs t o1 o2 o4) (by simp <;> omega)
  have kY : ∀ cs t o1 o2 o3 o5, Blk (((((w.alloc o1).alloc o2).alloc o3).alloc (.cells cs t)).alloc o5).drew (w.heap.size + 1 + 1 + 1) t cs := fun cs t o1 o2 o3 o5 => ((Only.refl [] _).alloc o5).drew.blk (kY cs t o1 o2 o3) (by simp <;> omega)
  have kS : ∀ o1 o2 o3 o4 o5, StAt (((((w.alloc o1).alloc o2).alloc o3).alloc o4).alloc o5).drew M sb mb av pf s := fun o1 o2 o3 o4 o5 => h.only0 (k5 o1 o2 o3 o4 o5)
  have kC : ∀ cs t o2 o3 o4 o5, Blk (((((w.alloc (.cells cs t)).alloc o2).alloc o3).alloc o4).alloc o5).drew w.heap.size t cs := fun cs t o2 o3 o4 o5 => ((Only.refl [] _).alloc o5).drew.blk (kC cs t o2 o3 o4) (by simp)
  go_wp2_with fail
  have X0 := fun v a b d f g o1 o3 o4 o5 => Within.cell (S := []) ((kX #[v, a, b, d, f, g] 75 o1 o3 o4 o5).cell 0) (by simp)
  have X1 := fun v a b d f g o1 o3 o4 o5 => Within.cell (S := []) ((kX #[v, a, b, d, f, g] 75 o1 o3 o4 o5).cell 1) (by simp)
  have X2 := fun v a b d f g o1 o3 o4 o5 => Within.cell (S := []) ((kX #[v, a, b, d, f, g] 75 o1 o3 o4 o5).cell 2) (by simp)
  have X3 := fun v a b d f g o1 o3 o4 o5 => Within.cell (S := []) ((kX #[v, a, b, d, f, g] 75 o1 o3 o4 o5).cell 3) (by simp)
  have X4 := fun v a b d f g o1 o3 o4 o5 => Within.cell (S := []) ((kX #[v, a, b, d, f, g] 75 o1 o3 o4 o5).cell 4) (by simp)
  have X5 := fun v a b d f g o1 o3 o4 o5 => Within.cell (S := []) ((kX #[v, a, b, d, f, g] 75 o1 o3 o4 o5).cell 5) (by simp)
  have C4 := fun a b d e f g i j k o2 o3 o4 o5 => Within.cell (S := []) ((kC #[a, b, d, e, f, g, i, j, k] 40 o2 o3 o4 o5).cell 4) (by simp)
  have C4' := fun a b d e f g i j o2 o3 o4 o5 => Within.cell (S := []) ((kC #[a, b, d, e, f, g, i, j] 40 o2 o3 o4 o5).cell 4) (by simp)
  have E0 := fun o1 o2 o3 o4 o5 => Within.cell (S := []) (((k5 o1 o2 o3 o4 o5).cell hbe (by simp)).trans e0) (by simp)
  refine wp_region_in [] [0, 1, 2, 3, 4, 5, 6] [] [7, 8] (by kernel_rfl) (by kernel_rfl) (by intro c d u a w h; cases d <;> exact h) ?_
  show wpQuiet _ _ _ _ [_, _, _, _, _, _, _] _
  repeat (go_big_quiet_step (fail))
  refine wpQuiet_nil ?_
  show wpList _ _ _ [_, _] _ _
  clear X0 X1 X2 X3 X4 X5 C4 C4' E0
  go_wp2_with (first
    | (go_at_call 61; refine (HFi.out _ (k5 _ _ _ _ _).drew).mono ?_; rintro e w1 ⟨rfl, ho1⟩; have rC := fun i => (ho1.blk ((Only.refl [] _).drew.blk (kC _ _ _ _ _ _) (by simp)) (by simp)).cell i; have rX := fun i => (ho1.blk ((Only.refl [] _).drew.blk (kX _ _ _ _ _ _) (by simp)) (by simp)).cell i)
    | (go_at_call 59; refine (HE.out _).mono ?_; rintro e w2 ⟨rfl, hWE⟩; subst hWE))
  have hO1 : Only [] w w1 := (k5 _ _ _ _ _).drew.trans ho1
  have lC := ho1.blk ((Only.refl [] _).drew.blk (kC _ _ _ _ _ _) (by simp)) (by simp)
  have lX := ho1.blk ((Only.refl [] _).drew.blk (kX _ _ _ _ _ _) (by simp)) (by simp)
  have lA := ho1.blk ((Only.refl [] _).drew.blk (kA _ _ _ _ _ _) (by simp)) (by simp)
  have lY := ho1.blk ((Only.refl [] _).drew.blk (kY _ _ _ _ _ _) (by simp)) (by simp)
  have C0 := Within.cell (S := [w.heap.size + 1 + 1]) (lC.cell 0) (by simp <;> omega)
  have C1 := Within.cell (S := [w.heap.size + 1 + 1]) (lC.cell 1) (by simp <;> omega)
  have C2 := Within.cell (S := [w.heap.size + 1 + 1]) (lC.cell 2) (by simp <;> omega)
  have C3 := Within.cell (S := [w.heap.size + 1 + 1]) (lC.cell 3) (by simp <;> omega)
  have C4 := Within.cell (S := [w.heap.size + 1 + 1]) (lC.cell 4) (by simp <;> omega)
  have C5 := Within.cell (S := [w.heap.size + 1 + 1]) (lC.cell 5) (by simp <;> omega)
  have C6 := Within.cell (S := [w.heap.size + 1 + 1]) (lC.cell 6) (by simp <;> omega)
  have C7 := Within.cell (S := [w.heap.size + 1 + 1]) (lC.cell 7) (by simp <;> omega)
  have X0 := Within.cell (S := [w.heap.size + 1 + 1]) (lX.cell 0) (by simp <;> omega)
  have X1 := Within.cell (S := [w.heap.size + 1 + 1]) (lX.cell 1) (by simp <;> omega)
  have X2 := Within.cell (S := [w.heap.size + 1 + 1]) (lX.cell 2) (by simp <;> omega)
  have X3 := Within.cell (S := [w.heap.size + 1 + 1]) (lX.cell 3) (by simp <;> omega)
  have X4 := Within.cell (S := [w.heap.size + 1 + 1]) (lX.cell 4) (by simp <;> omega)
  have X5 := Within.cell (S := [w.heap.size + 1 + 1]) (lX.cell 5) (by simp <;> omega)
  clear rC rX
  refine wp_region_in [w.heap.size + 1 + 1] [0, 2] [1, 3] [4] (by kernel_rfl) (by kernel_rfl) (by intro c d u a w h; cases d <;> exact h) ?_
  show wpQuiet _ _ _ _ [_, _] _
  repeat (go_big_quiet_step (fail))
  refine wpQuiet_nil ?_
  show wpList _ _ _ [_] _ _
  go_wp2_with (go_at_call 60; refine (HWr.out _ hO1.drew).mono ?_; rintro e w2 ⟨rfl, ho2⟩)
  refine check_of (S := [w.heap.size + 1 + 1]) (((Only.refl [] _).drew.trans ho2).of_nil) ?_
  show wpList _ _ _ [_] _ _
  have ho2' := (Only.refl [] w1).drew.trans ho2
  have hA1 := fun i => (ho2'.blk lA (by simp)).cell i
  have hA1f := fun i => (ho2'.blk lA (by simp)).free i
  have hY1 := fun i => (ho2'.blk lY (by simp)).cell i
  have hY1f := fun i => (ho2'.blk lY (by simp)).free i
  go_wp2_with fail
  refine check_of (S := [w.heap.size + 1 + 1]) (by repeat (first | exact ((Only.refl [] _).drew.trans ho2).of_nil | refine Only.drew ?_ | refine Only.setCell ?_ (.inl (by simp)) _)) ?_
  show wpList _ _ _ [_] _ _
  go_wp2
  have hR := HR.out
  subst hR
  clear HR C0 C1 C2 C3 C4 C5 C6 C7 X0 X1 X2 X3 X4 X5
  refine bodyPost_ret (v := .tuple #[.agg #[.int .i64 22, .int .i64 ((x.places.length : Int) - 1), .int .i64 0, .bool false], .agg #[.slice A x.places.length cap, .int .i64 x.mt.maxCount, .int .i64 x.mt.maxAge, .int .i64 x.mt.before, .int .i64 x.floor, .bool x.deleted]]) (by simp [results, Tryz.results23, go_sem, hA1, hY1]) rfl ⟨.slice A x.places.length cap, ?_⟩
  have hE : s.act c x = (wrong x, x, s) := by
    have h1 := HK.out
    unfold MS.act
    rw [if_neg h1.1, if_neg h1.2]
    show (if 0 ≤ s.first x (headId c) then (s.again c x (s.first x (headId c)), x, s) else _) = _
    rw [hv, if_neg (by omega), HX.out, if_neg (by decide)]
  rw [hE]
  refine ⟨rfl, ActLeads.same h hp ?hw⟩
  case hw =>
    iterate 10 (refine Only.setCell ?_ (.inr (by simp <;> omega)) _)
    exact hO1.drew.trans ho2
theorem ActLeads.of_app {w w1 w2 w3 : World} {M S : List Nat} {sb mb : Nat} {av avr pv' : Value} {pf : ByteArray → Value} {s s' : MS} {y : StreamR} (h : StAt w M sb mb av pf s) (hO1 : Only [] w w1) (hst : StAt w2 (avr.ownBlock.toList ++ M) sb mb avr pf s')
    (hrd : Rd (avr.ownBlock.toList ++ M) w2 1 pv' y.places.length (ints y.places)) (ho2 : Only (hM sb mb av) w1 w2) (hav : ∀ g, avr.ownBlock = some g → av.ownBlock = some g ∨ w1.heap.size ≤ g) (hpv : ∀ g, pv'.ownBlock = some g → w1.heap.size ≤ g)
    (hO3 : Only S w2 w3) (hS : ∀ g ∈ S, w.heap.size ≤ g ∧ g < w1.heap.size) (hm : s'.m = s.m) : ActLeads w M sb mb av pf y s' pv' w3 := by
  have hw3 : Only (hM sb mb av) w w3 := (hO1.of_nil.trans ho2).step hO3 (fun i hi => .inr (hS i hi).1)
  have hnS : ∀ g, g < w.heap.size → g ∉ S := fun g hg q => by have := (hS g q).1; omega
  have hnS' : ∀ g, w1.heap.size ≤ g → g ∉ S := fun g hg q => by have := (hS g q).2; omega
  have hs1 := hO1.size
  have hnew : ∀ g ∈ avr.ownBlock.toList ++ M, g ∈ M ∨ w.heap.size ≤ g := fun g hg => by
    rcases List.mem_append.1 hg with q | q
    · rcases hav g (by simpa using q) with r | r
      · exact .inl (h.inM.2.2 g r)
      · exact .inr (by omega)
    · exact .inl q
  refine ⟨avr.ownBlock.toList ++ M, avr, ⟨hO3.blk hst.blk (hnS _ h.blk.lt), own_only hst.own hO3 fun g hg => ?_, hst.map.only hO3 (hnS _ h.map.lt), fun n x hx => ?_, hst.inM, fun g hg => Nat.lt_of_lt_of_le (hst.mlt g hg) hO3.size⟩, ⟨hrd.1.only hO3 fun g hg => hnS' g (hpv g hg), fun g hg => (hrd.2 g hg).imp (fun q => ⟨q.1, Nat.lt_of_lt_of_le q.2 hO3.size⟩) id⟩, hw3, fun g hg => List.mem_append_right _ hg, hnew, fun g hg => (hav g hg).imp id (fun q => by omega)⟩
  · rcases hav g hg with q | q
    · exact hnS g (h.own_lt g q)
    · exact hnS' g q
  · rw [hm] at hx
    exact ((h.pl n x hx).ext hnew).only hw3 (fun g hg => List.mem_append_right _ (h.hMM g hg))
theorem append_lit {q : Ans × StreamR × MS} {w : World} {M : List Nat} {sb mb : Nat} {av pv ev : Value} {pf : ByteArray → Value} {s : MS} {x : StreamR} {c : Cmd} (hq : q = s.append c x) (h : StAt w M sb mb av pf s) (hx : XOk s x) (hp : Rd M w 1 pv x.places.length (ints x.places))
    (he : Rd M w 4 ev c.events.length (c.events.flatMap EventR.cells)) (hl : s.all.length ≤ 1000000) (hel : 1 ≤ c.events.length ∧ c.events.length ≤ 8) (hn : 0 ≤ s.now ∧ s.now ≤ 1099511627776) :
    Calls Tryz.prog 63 #[.pointer (some ⟨sb, 0, none⟩), c.val ev, x.val pv] w fun e w' => ∃ Aq capq avr, e = .returned (.tuple #[.agg #[.int .i64 q.1.err, .int .i64 q.1.version, .int .i64 q.1.position, .bool q.1.again], .agg #[.slice Aq q.2.1.places.length capq, .int .i64 q.2.1.mt.maxCount, .int .i64 q.2.1.mt.maxAge, .int .i64 q.2.1.mt.before, .int .i64 q.2.1.floor, .bool q.2.1.deleted]]) ∧
      StAt w' (avr.ownBlock.toList ++ M) sb mb avr pf q.2.2 ∧ Rd (avr.ownBlock.toList ++ M) w' 1 (.slice Aq q.2.1.places.length capq) q.2.1.places.length (ints q.2.1.places) ∧ Only (hM sb mb av) w w' ∧ (∀ g, avr.ownBlock = some g → av.ownBlock = some g ∨ w.heap.size ≤ g) ∧ (∀ g, (Value.slice Aq q.2.1.places.length capq).ownBlock = some g → w.heap.size ≤ g) := by
  subst hq
  refine (append_any h hx hp he hl hel hn).mono ?_
  rintro e w' ⟨pv', avr, rfl, h1, h2, h3, h4, h5⟩
  obtain ⟨A, cap, rfl, _⟩ := h2.1.openI
  exact ⟨A, cap, avr, rfl, h1, h2, h3, h4, h5⟩
set_option maxRecDepth 100000 in
set_option maxHeartbeats 4000000 in
theorem act_append {w : World} {M : List Nat} {sb mb : Nat} {av pv ev : Value} {pf : ByteArray → Value} {s : MS} {x : StreamR} {c : Cmd} (h : StAt w M sb mb av pf s) (hx : XOk s x) (hp : Rd M w 1 pv x.places.length (ints x.places))
    (he : Rd M w 4 ev c.events.length (c.events.flatMap EventR.cells)) (hl : s.all.length ≤ 1000000) (hk : c.kind ≠ 2 ∧ c.kind ≠ 3) (hel : 1 ≤ c.events.length ∧ c.events.length ≤ 8) (hn : 0 ≤ s.now ∧ s.now ≤ 1099511627776) (hv : s.first x (headId c) = -1) (hexp : expected c.expected x.places.length = true) :
    Calls Tryz.prog 23 #[.pointer (some ⟨sb, 0, none⟩), c.val ev, x.val pv] w fun e w' => ∃ pv', e = .returned (.tuple #[(s.act c x).1.val, (s.act c x).2.1.val pv']) ∧ ActLeads w M sb mb av pf (s.act c x).2.1 (s.act c x).2.2 pv' w' := by
  obtain ⟨A, cap, hpv, hn1, hn2, hps⟩ := hp.1.openI
  obtain ⟨A1, cap1, hev, hn3, hn4, hes⟩ := he.1.openE EventR.cells (fun _ => rfl)
  obtain ⟨A2, cap2, hav, hnc2, hcm2, hel2⟩ := h.cell
  unfold maxLen at hn2 hn4 hcm2
  have hfew := hx.few
  have hsb := h.blk.lt
  have h0 : ∀ o1 o2 o3 o4, Only [] w ((((w.alloc o1).alloc o2).alloc o3).alloc o4) := fun o1 o2 o3 o4 => ((((Only.refl [] w).alloc _).alloc _).alloc _).alloc _
  have kC : ∀ cs t o2 o3 o4, Blk ((((w.alloc (.cells cs t)).alloc o2).alloc o3).alloc o4) w.heap.size t cs := fun cs t o2 o3 o4 => ((((Only.refl [] _).alloc o2).alloc o3).alloc o4).blk (Blk.new w t cs) (by simp)
  have kX : ∀ cs t o1 o3 o4, Blk ((((w.alloc o1).alloc (.cells cs t)).alloc o3).alloc o4) (w.heap.size + 1) t cs := fun cs t o1 o3 o4 => by
    have := (((Only.refl [] _).alloc o3).alloc o4).blk (Blk.new (w.alloc o1) t cs) (by simp)
    simpa using this
  have kA : ∀ cs t o1 o2 o4, Blk ((((w.alloc o1).alloc o2).alloc (.cells cs t)).alloc o4) (w.heap.size + 1 + 1) t cs := fun cs t o1 o2 o4 => by
    have := ((Only.refl [] _).alloc o4).blk (Blk.new ((w.alloc o1).alloc o2) t cs) (by simp)
    simpa using this
  have kY : ∀ cs t o1 o2 o3, Blk ((((w.alloc o1).alloc o2).alloc o3).alloc (.cells cs t)) (w.heap.size + 1 + 1 + 1) t cs := fun cs t o1 o2 o3 => by
    have := Blk.new (((w.alloc o1).alloc o2).alloc o3) t cs
    simpa using this
  have c0 : w.cell? ⟨sb, 0, none⟩ = some (.slice A2 s.all.length cap2) := by rw [← hav]; exact h.blk.cell 0
  have F0 := fun o1 o2 o3 o4 => Within.cell (S := []) (((h0 o1 o2 o3 o4).cell hsb (by simp)).trans c0) (by simp)
  have X0 := fun v a b d f g t o1 o3 o4 => Within.cell (S := []) ((kX #[v, a, b, d, f, g] t o1 o3 o4).cell 0) (by simp)
  subst hpv hev
  obtain ⟨R, hR⟩ : ∃ R, R = s.act c x := ⟨_, rfl⟩
  rw [← hR]
  have HR := Lib.hid hR
  clear hR c0
  rw [show c.val (.slice A1 c.events.length cap1) = .agg #[.int .i64 c.kind, .int .i64 c.time, .string c.stream, .int .i64 c.expected, .slice A1 c.events.length cap1, .int .i64 c.mt.maxCount, .int .i64 c.mt.maxAge, .int .i64 c.mt.before] from rfl,
    show x.val (.slice A x.places.length cap) = .agg #[.slice A x.places.length cap, .int .i64 x.mt.maxCount, .int .i64 x.mt.maxAge, .int .i64 x.mt.before, .int .i64 x.floor, .bool x.deleted] from rfl]
  have hk1 : ((c.kind : Int) == 2) = false := by rw [beq_eq_false_iff_ne]; omega
  have hk2 : ((c.kind : Int) == 3) = false := by rw [beq_eq_false_iff_ne]; omega
  obtain ⟨hel1, hel8⟩ := hel
  obtain ⟨be, offe, rfl, hbe, hce⟩ := hes 0 (by omega)
  have e0 : w.cell? ⟨be, offe, none⟩ = some (.int .i64 (headId c)) := by
    rw [headId_at (by omega)]
    have q := hce 0 (by omega)
    simp only [Nat.zero_mul, Nat.add_zero] at q
    rw [q]
    rfl
  have HFi := Lib.hid (fun (W : World) (hw : Only [] w W) => show Calls Tryz.prog 61 #[.pointer (some ⟨sb, 0, none⟩), .agg #[.slice A x.places.length cap, .int .i64 x.mt.maxCount, .int .i64 x.mt.maxAge, .int .i64 x.mt.before, .int .i64 x.floor, .bool x.deleted], .int .i64 (headId c)] W fun e w' => e = .returned (.int .i64 (s.first x (headId c))) ∧ Only [] W w' from first_any (x := x) (headId c) (h.only0 hw) hx (hp.1.only0 hw))
  have HWr := Lib.hid (fun (W : World) (hw : Only [] w W) => show Calls Tryz.prog 60 #[.agg #[.slice A x.places.length cap, .int .i64 x.mt.maxCount, .int .i64 x.mt.maxAge, .int .i64 x.mt.before, .int .i64 x.floor, .bool x.deleted]] W fun e w' => e = .returned (.agg #[.int .i64 22, .int .i64 ((x.places.length : Int) - 1), .int .i64 0, .bool false]) ∧ Only [] W w' from wrong_any (x := x) (hp.1.only0 hw) (by omega))
  have HE := Lib.hid (fun W => (expected_any c.expected x.places.length W ⟨by omega, by omega⟩))
  have HK := Lib.hid hk
  clear hk
  have hd0 : 0 < c.events.length := by omega
  obtain ⟨id0, hid0⟩ : ∃ i, i = headId c := ⟨_, rfl⟩
  obtain ⟨f, hf⟩ : ∃ f, f = s.first x (headId c) := ⟨_, rfl⟩
  have HF := Lib.hid hf
  rw [← hf, ← hid0] at HFi
  rw [← hid0] at e0
  clear hf hid0
  have hfv : f = -1 := by rw [HF.out, hv]
  rw [hfv] at HFi
  rw [hexp] at HE
  have HX := Lib.hid hexp
  clear hexp
  obtain ⟨q, hq⟩ : ∃ q, q = s.append c x := ⟨_, rfl⟩
  have HAp := Lib.hid (fun (W : World) (hw : Only [] w W) => (append_lit hq (x := x) (c := c) (ev := .slice (some ⟨be, offe, none⟩) c.events.length cap1) (pv := .slice A x.places.length cap) (h.only0 hw) hx (hp.only0 hw) (he.only0 hw) (by omega) ⟨hel1, hel8⟩ hn : Calls Tryz.prog 63 #[.pointer (some ⟨sb, 0, none⟩), .agg #[.int .i64 c.kind, .int .i64 c.time, .string c.stream, .int .i64 c.expected, .slice (some ⟨be, offe, none⟩) c.events.length cap1, .int .i64 c.mt.maxCount, .int .i64 c.mt.maxAge, .int .i64 c.mt.before], .agg #[.slice A x.places.length cap, .int .i64 x.mt.maxCount, .int .i64 x.mt.maxAge, .int .i64 x.mt.before, .int .i64 x.floor, .bool x.deleted]] W _))
  have hML : ∀ g ∈ hM sb mb av, g < w.heap.size := h.lt
  have hMn : ∀ g, w.heap.size ≤ g → g ∉ hM sb mb av := fun g hg q => by have := hML g q; omega
  have HQ := Lib.hid hq
  clear hq
  go_enter Tryz.func23, Tryz.ntmps23
  go_wp2_with fail
  refine wp_region_in [] [0, 1, 2, 3, 4, 5, 6, 7, 8] [9] [10] (by kernel_rfl) (by kernel_rfl) (by intro c d u a w h; cases d <;> exact h) ?_
  show wpQuiet _ _ _ _ [_, _, _, _, _, _, _, _, _] _
  repeat (go_big_quiet_step (fail))
  refine wpQuiet_nil ?_
  show wpList _ _ _ [_] _ _
  go_wp2_with fail
  refine check_of (S := []) (((Only.refl [] _).alloc _).drew) ?_
  show wpList _ _ _ [_] _ _
  clear F0 X0
  go_wp2_with fail
  have k5 : ∀ o1 o2 o3 o4 o5, Only [] w (((((w.alloc o1).alloc o2).alloc o3).alloc o4).alloc o5).drew := fun o1 o2 o3 o4 o5 => ((h0 o1 o2 o3 o4).alloc o5).drew
  have kH : ∀ cs t o1 o2 o3 o4, Blk (((((w.alloc o1).alloc o2).alloc o3).alloc o4).alloc (.cells cs t)).drew (w.heap.size + 1 + 1 + 1 + 1) t cs := fun cs t o1 o2 o3 o4 => by
    have := (Only.refl [] _).drew.blk (Blk.new ((((w.alloc o1).alloc o2).alloc o3).alloc o4) t cs) (by simp <;> omega)
    simpa using this
  have kX : ∀ cs t o1 o3 o4 o5, Blk (((((w.alloc o1).alloc (.cells cs t)).alloc o3).alloc o4).alloc o5).drew (w.heap.size + 1) t cs := fun cs t o1 o3 o4 o5 => ((Only.refl [] _).alloc o5).drew.blk (kX cs t o1 o3 o4) (by simp <;> omega)
  have kA : ∀ cs t o1 o2 o4 o5, Blk (((((w.alloc o1).alloc o2).alloc (.cells cs t)).alloc o4).alloc o5).drew (w.heap.size + 1 + 1) t cs := fun cs t o1 o2 o4 o5 => ((Only.refl [] _).alloc o5).drew.blk (kA cs t o1 o2 o4) (by simp <;> omega)
  have kY : ∀ cs t o1 o2 o3 o5, Blk (((((w.alloc o1).alloc o2).alloc o3).alloc (.cells cs t)).alloc o5).drew (w.heap.size + 1 + 1 + 1) t cs := fun cs t o1 o2 o3 o5 => ((Only.refl [] _).alloc o5).drew.blk (kY cs t o1 o2 o3) (by simp <;> omega)
  have kS : ∀ o1 o2 o3 o4 o5, StAt (((((w.alloc o1).alloc o2).alloc o3).alloc o4).alloc o5).drew M sb mb av pf s := fun o1 o2 o3 o4 o5 => h.only0 (k5 o1 o2 o3 o4 o5)
  have kC : ∀ cs t o2 o3 o4 o5, Blk (((((w.alloc (.cells cs t)).alloc o2).alloc o3).alloc o4).alloc o5).drew w.heap.size t cs := fun cs t o2 o3 o4 o5 => ((Only.refl [] _).alloc o5).drew.blk (kC cs t o2 o3 o4) (by simp)
  go_wp2_with fail
  have X0 := fun v a b d f g o1 o3 o4 o5 => Within.cell (S := []) ((kX #[v, a, b, d, f, g] 75 o1 o3 o4 o5).cell 0) (by simp)
  have X1 := fun v a b d f g o1 o3 o4 o5 => Within.cell (S := []) ((kX #[v, a, b, d, f, g] 75 o1 o3 o4 o5).cell 1) (by simp)
  have X2 := fun v a b d f g o1 o3 o4 o5 => Within.cell (S := []) ((kX #[v, a, b, d, f, g] 75 o1 o3 o4 o5).cell 2) (by simp)
  have X3 := fun v a b d f g o1 o3 o4 o5 => Within.cell (S := []) ((kX #[v, a, b, d, f, g] 75 o1 o3 o4 o5).cell 3) (by simp)
  have X4 := fun v a b d f g o1 o3 o4 o5 => Within.cell (S := []) ((kX #[v, a, b, d, f, g] 75 o1 o3 o4 o5).cell 4) (by simp)
  have X5 := fun v a b d f g o1 o3 o4 o5 => Within.cell (S := []) ((kX #[v, a, b, d, f, g] 75 o1 o3 o4 o5).cell 5) (by simp)
  have C4 := fun a b d e f g i j k o2 o3 o4 o5 => Within.cell (S := []) ((kC #[a, b, d, e, f, g, i, j, k] 40 o2 o3 o4 o5).cell 4) (by simp)
  have C4' := fun a b d e f g i j o2 o3 o4 o5 => Within.cell (S := []) ((kC #[a, b, d, e, f, g, i, j] 40 o2 o3 o4 o5).cell 4) (by simp)
  have E0 := fun o1 o2 o3 o4 o5 => Within.cell (S := []) (((k5 o1 o2 o3 o4 o5).cell hbe (by simp)).trans e0) (by simp)
  refine wp_region_in [] [0, 1, 2, 3, 4, 5, 6] [] [7, 8] (by kernel_rfl) (by kernel_rfl) (by intro c d u a w h; cases d <;> exact h) ?_
  show wpQuiet _ _ _ _ [_, _, _, _, _, _, _] _
  repeat (go_big_quiet_step (fail))
  refine wpQuiet_nil ?_
  show wpList _ _ _ [_, _] _ _
  clear X0 X1 X2 X3 X4 X5 C4 C4' E0
  go_wp2_with (first
    | (go_at_call 61; refine (HFi.out _ (k5 _ _ _ _ _).drew).mono ?_; rintro e w1 ⟨rfl, ho1⟩; have rC := fun i => (ho1.blk ((Only.refl [] _).drew.blk (kC _ _ _ _ _ _) (by simp)) (by simp)).cell i; have rX := fun i => (ho1.blk ((Only.refl [] _).drew.blk (kX _ _ _ _ _ _) (by simp)) (by simp)).cell i)
    | (go_at_call 59; refine (HE.out _).mono ?_; rintro e w2 ⟨rfl, hWE⟩; subst hWE)
    | (go_at_call 63; refine (HAp.out _ ((k5 _ _ _ _ _).drew.trans ho1)).mono ?_; rintro e w2 ⟨Aq, capq, avr, rfl, hst, hrd, ho2, hav, hpq⟩; have bA1 := ho2.blk (ho1.blk ((Only.refl [] _).drew.blk (kA _ _ _ _ _ _) (by simp)) (by simp)) (hMn _ (by omega)); have bY1 := ho2.blk (ho1.blk ((Only.refl [] _).drew.blk (kY _ _ _ _ _ _) (by simp)) (by simp)) (hMn _ (by omega)); have hA1 := fun i => bA1.cell i; have hA1f := fun i => bA1.free i; have hY1 := fun i => bY1.cell i; have hY1f := fun i => bY1.free i))
  have hR := HR.out
  subst hR
  clear HR
  refine bodyPost_ret (v := .tuple #[.agg #[.int .i64 q.1.err, .int .i64 q.1.version, .int .i64 q.1.position, .bool q.1.again], .agg #[.slice Aq q.2.1.places.length capq, .int .i64 q.2.1.mt.maxCount, .int .i64 q.2.1.mt.maxAge, .int .i64 q.2.1.mt.before, .int .i64 q.2.1.floor, .bool q.2.1.deleted]]) (by simp [results, Tryz.results23, go_sem, hA1, hY1]) rfl ⟨.slice Aq q.2.1.places.length capq, ?_⟩
  have hE : s.act c x = q := by
    have h1 := HK.out
    unfold MS.act
    rw [if_neg h1.1, if_neg h1.2]
    show (if 0 ≤ s.first x (headId c) then (s.again c x (s.first x (headId c)), x, s) else _) = _
    rw [hv, if_neg (by omega), HX.out, if_pos rfl, HQ.out]
  have hqm : q.2.2.m = s.m := by rw [HQ.out]; rfl
  rw [hE]
  refine ⟨rfl, ActLeads.of_app (S := [w.heap.size + 1 + 1, w.heap.size + 1 + 1 + 1]) h ((k5 _ _ _ _ _).drew.trans ho1) hst hrd ho2 hav hpq ?hw (fun g hg => ?hs) hqm⟩
  case hs =>
    have := ho1.size
    simp at this hg
    omega
  case hw =>
    iterate 10 (refine Only.setCell ?_ (.inl (by simp)) _)
    exact Only.refl _ _
theorem act_any {w : World} {M : List Nat} {sb mb : Nat} {av pv ev : Value} {pf : ByteArray → Value} {s : MS} {x : StreamR} {c : Cmd} (h : StAt w M sb mb av pf s) (hx : XOk s x) (hp : Rd M w 1 pv x.places.length (ints x.places))
    (he : Rd M w 4 ev c.events.length (c.events.flatMap EventR.cells)) (hl : s.all.length ≤ 1000000) (hn : 0 ≤ s.now ∧ s.now ≤ 1099511627776) (hel : c.kind ≠ 2 ∧ c.kind ≠ 3 → 1 ≤ c.events.length ∧ c.events.length ≤ 8) :
    Calls Tryz.prog 23 #[.pointer (some ⟨sb, 0, none⟩), c.val ev, x.val pv] w fun e w' => ∃ pv', e = .returned (.tuple #[(s.act c x).1.val, (s.act c x).2.1.val pv']) ∧ ActLeads w M sb mb av pf (s.act c x).2.1 (s.act c x).2.2 pv' w' := by
  by_cases h2 : c.kind = 2
  · exact act_meta h hx hp he hl h2
  · by_cases h3 : c.kind = 3
    · cases hq : expected c.expected x.places.length
      · exact act_delNo h hx hp he hl h3 hq
      · exact act_delYes h hx hp he hl h3 hq
    · have hk : c.kind ≠ 2 ∧ c.kind ≠ 3 := ⟨h2, h3⟩
      rcases first_cases s x (headId c) with hf | ⟨v, hv, hvl⟩
      · cases hq : expected c.expected x.places.length
        · exact act_late h hx hp he hl hk (hel hk) hf hq
        · exact act_append h hx hp he hl hk (hel hk) hn hf hq
      · exact act_again h hx hp he hl hk (hel hk) hv hvl
end Go.Proofs.YteinoiicnmemhaaGreatDoor
/- Contract: Do. -/
set_option linter.unusedVariables false
set_option linter.unusedSimpArgs false
namespace Go.Proofs.YteinoiicnmemhaaGreatDoor
open Go.RowKit
/-- Within, with one thing more that stays. -/
structure WithinE (S : List Nat) (E : World → Prop) (w : World) where
  W : World
  h : Only S w W
  e : E W
section
variable {P : Program} {Q : Exit → Act → World → Prop} {l : List Oper} {S : List Nat} {E : World → Prop}
theorem wp_region_inE {id : Nat} {a : Act} {w : World} (S H T1 T2 : List Nat) (E : World → Prop) (hE : E w.drew) (hm : P.follows .mixedOrders = true) (hB : planB .any l.toArray H T1 T2 = true) (hQ : ∀ c d u a w, Q (.panic c) (Act.put a d u) w → Q (.panic c) a w)
    (h : Nonempty (WithinE S E w) → wpQuiet P l.toArray (fun W => ∃ p : WithinE S E w, W = p.W) (fun a' => wpT1 P l.toArray (fun W => ∃ p : WithinE S E w, W = p.W) Q (opsAt l T1) (fun a w => wpList P l.toArray Q (opsAt l T2) a w) a' w.drew) (opsAt l H) a) : (Code.region id l.toArray true).wp P Q a w :=
  wp_region_plan H T1 T2 hm hB hQ ⟨⟨_, (Only.refl S w).drew, hE⟩, rfl⟩ (h ⟨⟨_, (Only.refl S w).drew, hE⟩⟩)
theorem WithinE.cell {w : World} {x : Addr} {v : Value} (hc : w.cell? x = some v) (hn : x.block ∉ S) (p : WithinE S E w) : p.W.cell? x = some v := (p.h.cell (block_lt_of_cell hc) hn).trans hc
theorem check_ofE {w w' : World} {K : Act → World → Prop} {a : Act} (hO : Only S w w') (hE : E w') (h : K a w') : CheckQ (fun W => ∃ p : WithinE S E w, W = p.W) Q K .normal a w' := ⟨⟨⟨w', hO, hE⟩, rfl⟩, h⟩
end
theorem StLeads.same {w w' : World} {M : List Nat} {sb mb : Nat} {av : Value} {pf : ByteArray → Value} {s : MS} (h : StAt w M sb mb av pf s) (k : Only [] w w') : StLeads w M sb mb av s w' :=
  ⟨M, av, pf, h.only0 k, k.of_nil, fun _ q => q, fun _ q => .inl q, fun _ q => .inl q⟩
theorem StAt.ticked {w W : World} {M : List Nat} {sb mb : Nat} {av : Value} {pf : ByteArray → Value} {s : MS} {t n : Int} (h : StAt w M sb mb av pf s) (hO : Only [sb] w W) (hb : Blk W sb 72 #[av, .map (some mb), .int .i64 n, .int .i64 t]) :
    StAt W M sb mb av pf { s with now := t, done := n } :=
  ⟨hb, own_only h.own hO (fun g hg => by simpa using (h.ownne g hg).1), h.map.only hO (by simpa using h.ne), fun k x hx => (h.pl k x hx).only hO (by simpa using h.inM.1), h.inM, fun g hg => Nat.lt_of_lt_of_le (h.mlt g hg) hO.size⟩
set_option maxHeartbeats 4000000 in
theorem do_bad {w : World} {M : List Nat} {sb mb N : Nat} {av ev : Value} {pf : ByteArray → Value} {s : MS} {c : Cmd} (h : StAt w M sb mb av pf s) (hs : s.Ok N) (hN : N ≤ 100000) (hc : CmdOk c)
    (he : Rd M w 4 ev c.events.length (c.events.flatMap EventR.cells)) (hk : c.check ≠ 0) :
    Calls Tryz.prog 9 #[.pointer (some ⟨sb, 0, none⟩), c.val ev] w fun e w' => e = .returned (s.do c).1.val ∧ StLeads w M sb mb av (s.do c).2 w' := by
  obtain ⟨A1, cap1, hev, hn3, hn4, hes⟩ := he.1.openE EventR.cells (fun _ => rfl)
  obtain ⟨A2, cap2, hav, hnc2, hcm2, hel2⟩ := h.cell
  unfold maxLen at hn4 hcm2
  have hsb := h.blk.lt
  subst hev
  have HCk := Lib.hid (fun (W : World) (hw : Only [] w W) => show Calls Tryz.prog 20 #[.agg #[.int .i64 c.kind, .int .i64 c.time, .string c.stream, .int .i64 c.expected, .slice A1 c.events.length cap1, .int .i64 c.mt.maxCount, .int .i64 c.mt.maxAge, .int .i64 c.mt.before]] W fun e w' => e = .returned (.int .i64 c.check) ∧ Only [] W w' from check_any c _ W (he.1.only0 hw) hc)
  have h2 : ∀ o1 o2, Only [] w ((w.alloc o1).alloc o2) := fun o1 o2 => ((Only.refl [] w).alloc o1).alloc o2
  have kC : ∀ cs t o2, Blk ((w.alloc (.cells cs t)).alloc o2) w.heap.size t cs := fun cs t o2 => ((Only.refl [] _).alloc o2).blk (Blk.new w t cs) (by simp)
  have kA : ∀ cs t o1, Blk ((w.alloc o1).alloc (.cells cs t)) (w.heap.size + 1) t cs := fun cs t o1 => by
    have := Blk.new (w.alloc o1) t cs
    simpa using this
  obtain ⟨R, hR⟩ : ∃ R, R = s.do c := ⟨_, rfl⟩
  rw [← hR]
  have HR := Lib.hid hR
  clear hR
  rw [show c.val (.slice A1 c.events.length cap1) = .agg #[.int .i64 c.kind, .int .i64 c.time, .string c.stream, .int .i64 c.expected, .slice A1 c.events.length cap1, .int .i64 c.mt.maxCount, .int .i64 c.mt.maxAge, .int .i64 c.mt.before] from rfl]
  have hk1 : (c.check != 0) = true := by rw [bne_iff_ne]; exact hk
  have HK := Lib.hid hk
  obtain ⟨ck, hck⟩ : ∃ ck, ck = c.check := ⟨_, rfl⟩
  rw [← hck] at HCk hk1
  have HC := Lib.hid hck
  clear hk hck
  go_enter Tryz.func9, Tryz.ntmps9
  go_wp2_with (go_at_call 20; refine (HCk.out _ (h2 _ _)).mono ?_; rintro e w1 ⟨rfl, ho1⟩; have hA1 := fun i => (ho1.blk (kA _ _ _) (by simp)).cell i; have hA1f := fun i => (ho1.blk (kA _ _ _) (by simp)).free i)
  have hR := HR.out
  subst hR
  have hE : s.do c = (⟨ck, 0, 0, false⟩, s) := by
    unfold MS.do
    rw [HC.out, if_pos HK.out]
  refine bodyPost_ret (v := .agg #[.int .i64 ck, .int .i64 0, .int .i64 0, .bool false]) (by simp [results, Tryz.results9, go_sem, hA1]) rfl ?_
  rw [hE]
  refine ⟨rfl, StLeads.same h ?hw⟩
  case hw =>
    iterate 4 (refine Only.setCell ?_ (.inr (by simp <;> omega)) _)
    exact (h2 _ _).trans ho1
set_option maxRecDepth 100000 in
set_option maxHeartbeats 4000000 in
theorem do_mark {w : World} {M : List Nat} {sb mb N : Nat} {av ev : Value} {pf : ByteArray → Value} {s : MS} {c : Cmd} (h : StAt w M sb mb av pf s) (hs : s.Ok N) (hN : N ≤ 100000) (hc : CmdOk c)
    (he : Rd M w 4 ev c.events.length (c.events.flatMap EventR.cells)) (hk : c.check = 0) (hm : c.kind = 4 ∨ c.kind = 5) :
    Calls Tryz.prog 9 #[.pointer (some ⟨sb, 0, none⟩), c.val ev] w fun e w' => e = .returned (s.do c).1.val ∧ StLeads w M sb mb av (s.do c).2 w' := by
  obtain ⟨A1, cap1, hev, hn3, hn4, hes⟩ := he.1.openE EventR.cells (fun _ => rfl)
  obtain ⟨A2, cap2, hav, hnc2, hcm2, hel2⟩ := h.cell
  unfold maxLen at hn4 hcm2
  have hsb := h.blk.lt
  subst hev
  have HCk := Lib.hid (fun (W : World) (hw : Only [] w W) => show Calls Tryz.prog 20 #[.agg #[.int .i64 c.kind, .int .i64 c.time, .string c.stream, .int .i64 c.expected, .slice A1 c.events.length cap1, .int .i64 c.mt.maxCount, .int .i64 c.mt.maxAge, .int .i64 c.mt.before]] W fun e w' => e = .returned (.int .i64 c.check) ∧ Only [] W w' from check_any c _ W (he.1.only0 hw) hc)
  have h2 : ∀ o1 o2, Only [] w ((w.alloc o1).alloc o2) := fun o1 o2 => ((Only.refl [] w).alloc o1).alloc o2
  have kC : ∀ cs t o2, Blk ((w.alloc (.cells cs t)).alloc o2) w.heap.size t cs := fun cs t o2 => ((Only.refl [] _).alloc o2).blk (Blk.new w t cs) (by simp)
  have kA : ∀ cs t o1, Blk ((w.alloc o1).alloc (.cells cs t)) (w.heap.size + 1) t cs := fun cs t o1 => by
    have := Blk.new (w.alloc o1) t cs
    simpa using this
  obtain ⟨R, hR⟩ : ∃ R, R = s.do c := ⟨_, rfl⟩
  rw [← hR]
  have HR := Lib.hid hR
  clear hR
  rw [show c.val (.slice A1 c.events.length cap1) = .agg #[.int .i64 c.kind, .int .i64 c.time, .string c.stream, .int .i64 c.expected, .slice A1 c.events.length cap1, .int .i64 c.mt.maxCount, .int .i64 c.mt.maxAge, .int .i64 c.mt.before] from rfl]
  have HK := Lib.hid hk
  rw [hk] at HCk
  clear hk
  go_enter Tryz.func9, Tryz.ntmps9
  go_wp2_with (go_at_call 20; refine (HCk.out _ (h2 _ _)).mono ?_; rintro e w1 ⟨rfl, ho1⟩)
  have hdn := IntWalk.i64_in (s.done + 1) ⟨by have := hs.done; omega, by have := hs.done; omega⟩
  have hne0 : w.heap.size ≠ sb := by omega
  obtain ⟨t, ht⟩ : ∃ t, t = max s.now c.time := ⟨_, rfl⟩
  have hmx : (if s.now < c.time then c.time else s.now) = t := by rw [ht]; split <;> omega
  have hmy : (if c.time > s.now then c.time else s.now) = t := hmx
  have HT := Lib.hid ht
  clear ht
  have bC1 := ho1.blk (kC _ _ _) (by simp)
  have bA1 := ho1.blk (kA _ _ _) (by simp)
  have hO1 : Only [] w w1 := (h2 _ _).trans ho1
  have bS1 := hO1.blk h.blk (by simp)
  have C1 := WithinE.cell (E := fun W => W.cell? ⟨sb, 2, none⟩ = some (.int .i64 s.done)) (S := [sb]) (bC1.cell 1) (by simp; omega)
  have D2 := fun p : WithinE [sb] (fun W => W.cell? ⟨sb, 2, none⟩ = some (.int .i64 s.done)) w1 => p.e
  refine wp_region_inE [sb] [0, 1, 2, 3, 4, 6, 7, 9, 10, 11, 12, 13] [5, 8, 14, 15, 16] [17, 18, 19] (fun W => W.cell? ⟨sb, 2, none⟩ = some (.int .i64 s.done)) (bS1.cell 2) (by kernel_rfl) (by kernel_rfl) (by intro c d u a w h; cases d <;> exact h) ?_
  intro hne
  show wpQuiet _ _ _ _ [_, _, _, _, _, _, _, _, _, _, _, _] _
  repeat (go_big_quiet_step (fail))
  refine wpQuiet_nil ?_
  show wpList _ _ _ [_] _ _
  have hSf := fun i => bS1.free i
  have hSc := fun i => bS1.cell i
  have N3 : w1.drew.cell? ⟨sb, 3, none⟩ = some (.int .i64 s.now) := bS1.cell 3
  go_wp2_with fail
  refine check_ofE (S := [sb]) (Only.refl _ _).drew (bS1.cell 2) ?_
  show wpList _ _ _ [_] _ _
  go_wp2_with fail
  refine check_ofE (S := [sb]) (Only.refl _ _).drew (bS1.cell 2) ?_
  show wpList _ _ _ [_] _ _
  go_wp2_with fail
  refine check_ofE (S := [sb]) (Only.refl _ _).drew (bS1.cell 2) ?_
  show wpList _ _ _ [_] _ _
  go_wp2_with fail
  refine check_ofE (S := [sb]) (Only.refl _ _).drew (bS1.cell 2) ?_
  show wpList _ _ _ [_] _ _
  go_wp2_with fail
  refine check_ofE (S := [sb]) (((Only.refl _ _).setCell (.inl (by simp)) _).drew) ((bS1.set 3 _).cell 2) ?_
  show wpList _ _ _ [_, _, _] _ _
  have hO2 := fun u v => ((Only.refl [sb] w1).setCell (p := ⟨sb, 3, none⟩) (.inl (by simp)) u).setCell (p := ⟨sb, 2, none⟩) (.inl (by simp)) v
  have hC2 := fun u v i => ((hO2 u v).blk bC1 (by simp; omega)).cell i
  have hC2' := fun u v i => ((hO2 u v).drew.blk bC1 (by simp; omega)).cell i
  have hA2 := fun u v i => ((hO2 u v).blk bA1 (by simp; omega)).cell i
  have hA2f := fun u v i => ((hO2 u v).blk bA1 (by simp; omega)).free i
  have hS2 := fun u v => ((bS1.set 3 u).set 2 v).cell 0
  rw [hav] at hS2
  rcases hm with hm | hm
  · have hk4 : ((c.kind : Int) == 4) = true := by rw [beq_iff_eq]; omega
    have hk5 : ((c.kind : Int) == 5) = false := by rw [beq_eq_false_iff_ne]; omega
    have HM : Hid (c.kind = 4 ∨ c.kind = 5) := .inl hm
    clear hm
    go_wp2
    have hR := HR.out
    subst hR
    refine bodyPost_ret (v := .agg #[.int .i64 0, .int .i64 0, .int .i64 s.all.length, .bool false]) (by simp [results, Tryz.results9, go_sem, hA2]) rfl ?_
    have hE : s.do c = (⟨0, 0, s.all.length, false⟩, { s with now := t, done := s.done + 1 }) := by
      unfold MS.do
      rw [if_neg (by rw [HK.out]; decide), HT.out]
      dsimp only
      rw [if_pos HM.out]
      rfl
    rw [hE]
    have hb0 := (bS1.set 3 (.int .i64 t)).set 2 (.int .i64 (s.done + 1))
    refine ⟨rfl, M, av, pf, StAt.ticked h ?hw (Only.blk (S := [w.heap.size + 1]) ?ho hb0 (by simp; omega)), Only.mono ?hw (by simp [hM]), fun _ q => q, fun _ q => .inl q, fun _ q => .inl q⟩
    case hw =>
      refine Only.drew ?_
      iterate 4 (refine Only.setCell ?_ (.inr (by simp <;> omega)) _)
      iterate 2 (refine Only.setCell ?_ (.inl (by simp)) _)
      exact hO1.of_nil
    case ho =>
      refine Only.drew ?_
      iterate 4 (refine Only.setCell ?_ (.inl (by simp)) _)
      exact Only.refl _ _
  · have hk4 : ((c.kind : Int) == 4) = false := by rw [beq_eq_false_iff_ne]; omega
    have hk5 : ((c.kind : Int) == 5) = true := by rw [beq_iff_eq]; omega
    have HM : Hid (c.kind = 4 ∨ c.kind = 5) := .inr hm
    clear hm
    go_wp2
    have hR := HR.out
    subst hR
    refine bodyPost_ret (v := .agg #[.int .i64 0, .int .i64 0, .int .i64 s.all.length, .bool false]) (by simp [results, Tryz.results9, go_sem, hA2]) rfl ?_
    have hE : s.do c = (⟨0, 0, s.all.length, false⟩, { s with now := t, done := s.done + 1 }) := by
      unfold MS.do
      rw [if_neg (by rw [HK.out]; decide), HT.out]
      dsimp only
      rw [if_pos HM.out]
      rfl
    rw [hE]
    have hb0 := (bS1.set 3 (.int .i64 t)).set 2 (.int .i64 (s.done + 1))
    refine ⟨rfl, M, av, pf, StAt.ticked h ?hw (Only.blk (S := [w.heap.size + 1]) ?ho hb0 (by simp; omega)), Only.mono ?hw (by simp [hM]), fun _ q => q, fun _ q => .inl q, fun _ q => .inl q⟩
    case hw =>
      refine Only.drew ?_
      iterate 4 (refine Only.setCell ?_ (.inr (by simp <;> omega)) _)
      iterate 2 (refine Only.setCell ?_ (.inl (by simp)) _)
      exact hO1.of_nil
    case ho =>
      refine Only.drew ?_
      iterate 4 (refine Only.setCell ?_ (.inl (by simp)) _)
      exact Only.refl _ _
end Go.Proofs.YteinoiicnmemhaaGreatDoor
/- Contract: Do on a stream. -/
set_option linter.unusedVariables false
set_option linter.unusedSimpArgs false
namespace Go.Proofs.YteinoiicnmemhaaGreatDoor
open Go.RowKit
set_option maxRecDepth 100000 in
set_option maxHeartbeats 4000000 in
theorem do_gone {w : World} {M : List Nat} {sb mb N : Nat} {av ev : Value} {pf : ByteArray → Value} {s : MS} {c : Cmd} (h : StAt w M sb mb av pf s) (hs : s.Ok N) (hN : N ≤ 100000) (hc : CmdOk c)
    (he : Rd M w 4 ev c.events.length (c.events.flatMap EventR.cells)) (hk : c.check = 0) (hm : ¬ (c.kind = 4 ∨ c.kind = 5)) (hd : (s.find c.stream).deleted = true) :
    Calls Tryz.prog 9 #[.pointer (some ⟨sb, 0, none⟩), c.val ev] w fun e w' => e = .returned (s.do c).1.val ∧ StLeads w M sb mb av (s.do c).2 w' := by
  obtain ⟨A1, cap1, hev, hn3, hn4, hes⟩ := he.1.openE EventR.cells (fun _ => rfl)
  obtain ⟨A2, cap2, hav, hnc2, hcm2, hel2⟩ := h.cell
  unfold maxLen at hn4 hcm2
  have hsb := h.blk.lt
  subst hev
  have HCk := Lib.hid (fun (W : World) (hw : Only [] w W) => show Calls Tryz.prog 20 #[.agg #[.int .i64 c.kind, .int .i64 c.time, .string c.stream, .int .i64 c.expected, .slice A1 c.events.length cap1, .int .i64 c.mt.maxCount, .int .i64 c.mt.maxAge, .int .i64 c.mt.before]] W fun e w' => e = .returned (.int .i64 c.check) ∧ Only [] W w' from check_any c _ W (he.1.only0 hw) hc)
  have h2 : ∀ o1 o2, Only [] w ((w.alloc o1).alloc o2) := fun o1 o2 => ((Only.refl [] w).alloc o1).alloc o2
  have kC : ∀ cs t o2, Blk ((w.alloc (.cells cs t)).alloc o2) w.heap.size t cs := fun cs t o2 => ((Only.refl [] _).alloc o2).blk (Blk.new w t cs) (by simp)
  have kA : ∀ cs t o1, Blk ((w.alloc o1).alloc (.cells cs t)) (w.heap.size + 1) t cs := fun cs t o1 => by
    have := Blk.new (w.alloc o1) t cs
    simpa using this
  obtain ⟨R, hR⟩ : ∃ R, R = s.do c := ⟨_, rfl⟩
  rw [← hR]
  have HR := Lib.hid hR
  clear hR
  rw [show c.val (.slice A1 c.events.length cap1) = .agg #[.int .i64 c.kind, .int .i64 c.time, .string c.stream, .int .i64 c.expected, .slice A1 c.events.length cap1, .int .i64 c.mt.maxCount, .int .i64 c.mt.maxAge, .int .i64 c.mt.before] from rfl]
  have HK := Lib.hid hk
  rw [hk] at HCk
  have hk4 : ((c.kind : Int) == 4) = false := by rw [beq_eq_false_iff_ne]; omega
  have hk5 : ((c.kind : Int) == 5) = false := by rw [beq_eq_false_iff_ne]; omega
  have HM := Lib.hid hm
  clear hk hm
  obtain ⟨A3, cap3, hpv3, hn5, hn6, hps⟩ := (h.rd c.stream).1.openI
  have hfd : ∀ (W : World) (t : Int), StAt W M sb mb av pf { s with now := t, done := s.done + 1 } → Calls Tryz.prog 21 #[.pointer (some ⟨sb, 0, none⟩), .string c.stream] W fun e w' => e = .returned (.agg #[.slice A3 (s.find c.stream).places.length cap3, .int .i64 (s.find c.stream).mt.maxCount, .int .i64 (s.find c.stream).mt.maxAge, .int .i64 (s.find c.stream).mt.before, .int .i64 (s.find c.stream).floor, .bool (s.find c.stream).deleted]) ∧ Only [] W w' := fun W t hst => by
    have q := find_any hst c.stream
    rw [show pvOf { s with now := t, done := s.done + 1 } pf c.stream = pvOf s pf c.stream from rfl, hpv3] at q
    exact q
  have HFd := Lib.hid hfd
  clear hfd
  obtain ⟨x, hx⟩ : ∃ x, x = s.find c.stream := ⟨_, rfl⟩
  rw [← hx] at HFd
  have HXf := Lib.hid hx
  have hdn := IntWalk.i64_in (s.done + 1) ⟨by have := hs.done; omega, by have := hs.done; omega⟩
  have hne0 : w.heap.size ≠ sb := by omega
  rw [← hx] at hd
  rw [hd] at HFd
  have HD := Lib.hid hd
  clear hd hx
  go_enter Tryz.func9, Tryz.ntmps9
  go_wp2_with (go_at_call 20; refine (HCk.out _ (h2 _ _)).mono ?_; rintro e w1 ⟨rfl, ho1⟩)
  obtain ⟨t, ht⟩ : ∃ t, t = max s.now c.time := ⟨_, rfl⟩
  have hmx : (if s.now < c.time then c.time else s.now) = t := by rw [ht]; split <;> omega
  have hmy : (if c.time > s.now then c.time else s.now) = t := hmx
  have HT := Lib.hid ht
  clear ht
  have bC1 := ho1.blk (kC _ _ _) (by simp)
  have bA1 := ho1.blk (kA _ _ _) (by simp)
  have hO1 : Only [] w w1 := (h2 _ _).trans ho1
  have bS1 := hO1.blk h.blk (by simp)
  have C1 := WithinE.cell (E := fun W => W.cell? ⟨sb, 2, none⟩ = some (.int .i64 s.done)) (S := [sb]) (bC1.cell 1) (by simp; omega)
  have D2 := fun p : WithinE [sb] (fun W => W.cell? ⟨sb, 2, none⟩ = some (.int .i64 s.done)) w1 => p.e
  refine wp_region_inE [sb] [0, 1, 2, 3, 4, 6, 7, 9, 10, 11, 12, 13] [5, 8, 14, 15, 16] [17, 18, 19] (fun W => W.cell? ⟨sb, 2, none⟩ = some (.int .i64 s.done)) (bS1.cell 2) (by kernel_rfl) (by kernel_rfl) (by intro c d u a w h; cases d <;> exact h) ?_
  intro hne
  show wpQuiet _ _ _ _ [_, _, _, _, _, _, _, _, _, _, _, _] _
  repeat (go_big_quiet_step (fail))
  refine wpQuiet_nil ?_
  show wpList _ _ _ [_] _ _
  have hSf := fun i => bS1.free i
  have hSc := fun i => bS1.cell i
  have N3 : w1.drew.cell? ⟨sb, 3, none⟩ = some (.int .i64 s.now) := bS1.cell 3
  go_wp2_with fail
  refine check_ofE (S := [sb]) (Only.refl _ _).drew (bS1.cell 2) ?_
  show wpList _ _ _ [_] _ _
  go_wp2_with fail
  refine check_ofE (S := [sb]) (Only.refl _ _).drew (bS1.cell 2) ?_
  show wpList _ _ _ [_] _ _
  go_wp2_with fail
  refine check_ofE (S := [sb]) (Only.refl _ _).drew (bS1.cell 2) ?_
  show wpList _ _ _ [_] _ _
  go_wp2_with fail
  refine check_ofE (S := [sb]) (Only.refl _ _).drew (bS1.cell 2) ?_
  show wpList _ _ _ [_] _ _
  go_wp2_with fail
  refine check_ofE (S := [sb]) (((Only.refl _ _).setCell (.inl (by simp)) _).drew) ((bS1.set 3 _).cell 2) ?_
  show wpList _ _ _ [_, _, _] _ _
  have hO2 := fun u v => ((Only.refl [sb] w1).setCell (p := ⟨sb, 3, none⟩) (.inl (by simp)) u).setCell (p := ⟨sb, 2, none⟩) (.inl (by simp)) v
  have hC2 := fun u v i => ((hO2 u v).blk bC1 (by simp; omega)).cell i
  have hC2' := fun u v i => ((hO2 u v).drew.blk bC1 (by simp; omega)).cell i
  have hb0 := (bS1.set 3 (.int .i64 t)).set 2 (.int .i64 (s.done + 1))
  have hT2 := StAt.ticked h (hO1.of_nil.trans (hO2 (.int .i64 t) (.int .i64 (s.done + 1)))) hb0
  have hT3 := hT2.only0 (Only.refl [] _).drew
  have kA2 := fun u v => (hO2 u v).drew.blk bA1 (by simp; omega)
  go_wp2_with (go_at_call 21; refine (HFd.out _ _ (by first | exact hT3 | exact hT2)).mono ?_; rintro e w2 ⟨rfl, ho2⟩; have hA3 := fun o : Obj => fun i => (((Only.refl [] w2).alloc o).blk (ho2.blk (kA2 _ _) (by simp)) (by simp)).cell i; have hA3f := fun o : Obj => fun i => (((Only.refl [] w2).alloc o).blk (ho2.blk (kA2 _ _) (by simp)) (by simp)).free i)
  have hR := HR.out
  subst hR
  refine bodyPost_ret (v := .agg #[.int .i64 23, .int .i64 0, .int .i64 0, .bool false]) (by simp [results, Tryz.results9, go_sem, hA3]) rfl ?_
  have hE : s.do c = (⟨23, 0, 0, false⟩, { s with now := t, done := s.done + 1 }) := by
    unfold MS.do
    rw [if_neg (by rw [HK.out]; decide), HT.out]
    dsimp only
    rw [if_neg HM.out]
    show (if (s.find c.stream).deleted = true then _ else _) = _
    rw [← HXf.out, if_pos HD.out]
    rfl
  rw [hE]
  have hb2 := ho2.blk ((Only.refl [] _).drew.blk hb0 (by simp)) (by simp)
  refine ⟨rfl, M, av, pf, StAt.ticked h ?hw (Only.blk (S := [w.heap.size + 1]) ?ho hb2 (by simp; omega)), Only.mono ?hw (by simp [hM]), fun _ q => q, fun _ q => .inl q, fun _ q => .inl q⟩
  case hw =>
    iterate 4 (refine Only.setCell ?_ (.inr (by simp <;> omega)) _)
    refine Only.alloc ?_ _
    exact (hO1.of_nil.trans (hO2 _ _)).drew.trans ho2.of_nil
  case ho =>
    iterate 4 (refine Only.setCell ?_ (.inl (by simp)) _)
    exact (Only.refl _ _).alloc _
end Go.Proofs.YteinoiicnmemhaaGreatDoor
/- What act leaves may be kept. -/
set_option linter.unusedVariables false
set_option linter.unusedSimpArgs false
namespace Go.Proofs.YteinoiicnmemhaaGreatDoor
open Go.RowKit
theorem rangeFrom_mem : ∀ (k : Nat) (a p : Int), p ∈ rangeFrom k a → a ≤ p ∧ p < a + k
  | 0, a, p, h => by simp [rangeFrom] at h
  | k + 1, a, p, h => by
    simp only [rangeFrom, List.mem_cons] at h
    rcases h with rfl | h
    · omega
    · have := rangeFrom_mem k (a + 1) p h
      omega
theorem act_xok {s : MS} {x : StreamR} {c : Cmd} (hx : XOk s x) (hm : c.kind = 2 → c.mt.ok = true) :
    XOk (s.act c x).2.2 (s.act c x).2.1 ∧ (s.act c x).2.2.now = s.now ∧ (s.act c x).2.2.m = s.m ∧ (s.act c x).2.2.done = s.done ∧ s.all.length ≤ (s.act c x).2.2.all.length ∧ (s.act c x).2.2.all.length ≤ s.all.length + c.events.length := by
  have hx' := hx
  obtain ⟨h1, h2, h3, h4⟩ := hx
  unfold MS.act
  dsimp only
  split
  · rename_i hk
    exact ⟨⟨hm hk, h2, h3, h4⟩, rfl, rfl, rfl, Nat.le_refl _, Nat.le_add_right _ _⟩
  · split
    · split
      · exact ⟨⟨h1, h2, h3, h4⟩, rfl, rfl, rfl, Nat.le_refl _, Nat.le_add_right _ _⟩
      · exact ⟨hx', rfl, rfl, rfl, Nat.le_refl _, Nat.le_add_right _ _⟩
    · split
      · exact ⟨hx', rfl, rfl, rfl, Nat.le_refl _, Nat.le_add_right _ _⟩
      · split
        · unfold MS.append
          dsimp only
          refine ⟨⟨h1, ⟨h2.1, ?_⟩, fun p hp => ?_, ?_⟩, rfl, rfl, rfl, ?_, ?_⟩
          · simp only [List.length_append]
            omega
          · simp only [List.mem_append, List.length_append, storedOf_len] at hp ⊢
            rcases hp with hp | hp
            · have := h3 p hp
              omega
            · have := rangeFrom_mem _ _ p hp
              omega
          · simp only [List.length_append, storedOf_len, rangeFrom_len]
            omega
          · simp only [List.length_append]
            omega
          · simp only [List.length_append, storedOf_len]
            omega
        · exact ⟨hx', rfl, rfl, rfl, Nat.le_refl _, Nat.le_add_right _ _⟩
/-- What a command that is in order says. -/
theorem check_zero {c : Cmd} (h : c.check = 0) : 1 ≤ c.kind ∧ c.kind ≤ 5 ∧ (0 ≤ c.time ∧ c.time ≤ 1099511627776) ∧ (c.kind = 2 → c.mt.ok = true) ∧ (c.kind = 1 → 1 ≤ c.events.length ∧ c.events.length ≤ 8) := by
  unfold Cmd.check at h
  split at h
  · omega
  · rename_i q1
    have ht : within c.time = true := by
      cases hw : within c.time
      · exact absurd (.inr (.inr hw)) q1
      · rfl
    simp only [within, Bool.and_eq_true, decide_eq_true_eq] at ht
    refine ⟨by omega, by omega, ht, fun hk => ?_, fun hk => ?_⟩
    · split at h
      · omega
      · split at h
        · omega
        · split at h
          · omega
          · split at h
            · omega
            · rename_i q2
              cases hw : c.mt.ok
              · exact absurd ⟨hk, hw⟩ q2
              · rfl
    · split at h
      · omega
      · split at h
        · rename_i q2
          exact absurd h q2.2
        · rename_i q2
          have he : eventsE c.events = 0 := by
            by_cases hz : eventsE c.events = 0
            · exact hz
            · exact absurd ⟨hk, hz⟩ q2
          unfold eventsE at he
          split at he
          · omega
          · split at he
            · omega
            · omega
end Go.Proofs.YteinoiicnmemhaaGreatDoor
/- Contract: Do on a stream that is there. -/
set_option linter.unusedVariables false
set_option linter.unusedSimpArgs false
namespace Go.Proofs.YteinoiicnmemhaaGreatDoor
open Go.RowKit
theorem StAt.tickedMore {w W : World} {M : List Nat} {sb mb : Nat} {av : Value} {pf : ByteArray → Value} {s : MS} {t n : Int} (h : StAt w M sb mb av pf s) (hO : Only [sb] w W) (hb : Blk W sb 72 #[av, .map (some mb), .int .i64 n, .int .i64 t]) (g : Nat) (h1 : w.heap.size ≤ g) (h2 : g < W.heap.size) :
    StAt W (g :: M) sb mb av pf { s with now := t, done := n } :=
  ⟨hb, own_only h.own hO (fun g hg => by simpa using (h.ownne g hg).1), h.map.only hO (by simpa using h.ne),
    fun k x hx => ((h.pl k x hx).ext (M' := g :: M) (fun i hi => by simp at hi; rcases hi with rfl | hi; exact .inr h1; exact .inl hi)).only hO (by simpa using .inr h.inM.1),
    ⟨List.mem_cons_of_mem _ h.inM.1, List.mem_cons_of_mem _ h.inM.2.1, fun i hi => List.mem_cons_of_mem _ (h.inM.2.2 i hi)⟩,
    fun i hi => by simp at hi; rcases hi with rfl | hi; exact h2; exact Nat.lt_of_lt_of_le (h.mlt i hi) hO.size⟩
theorem check_few {c : Cmd} (h : c.check = 0) : c.events.length ≤ 8 := by
  have hz := check_zero h
  by_cases hk : c.kind = 1
  · exact (hz.2.2.2.2 hk).2
  · unfold Cmd.check at h
    have hsp : c.spare = false := by
      cases hs : c.spare with
      | false => rfl
      | true =>
        rw [hs] at h
        simp only [if_true] at h
        repeat (split at h; first | omega | skip)
        all_goals omega
    unfold Cmd.spare at hsp
    simp only [Bool.or_eq_false_iff, Bool.and_eq_false_iff, decide_eq_false_iff_not] at hsp
    have := hsp.1.2
    omega
set_option maxRecDepth 100000 in
set_option maxHeartbeats 4000000 in
theorem do_act {w : World} {M : List Nat} {sb mb N : Nat} {av ev : Value} {pf : ByteArray → Value} {s : MS} {c : Cmd} (h : StAt w M sb mb av pf s) (hs : s.Ok N) (hN : N ≤ 100000) (hc : CmdOk c)
    (he : Rd M w 4 ev c.events.length (c.events.flatMap EventR.cells)) (hk : c.check = 0) (hm : ¬ (c.kind = 4 ∨ c.kind = 5)) (hd : (s.find c.stream).deleted = false) :
    Calls Tryz.prog 9 #[.pointer (some ⟨sb, 0, none⟩), c.val ev] w fun e w' => e = .returned (s.do c).1.val ∧ StLeads w M sb mb av (s.do c).2 w' := by
  obtain ⟨A1, cap1, hev, hn3, hn4, hes⟩ := he.1.openE EventR.cells (fun _ => rfl)
  obtain ⟨A2, cap2, hav, hnc2, hcm2, hel2⟩ := h.cell
  unfold maxLen at hn4 hcm2
  have hsb := h.blk.lt
  subst hev
  have HCk := Lib.hid (fun (W : World) (hw : Only [] w W) => show Calls Tryz.prog 20 #[.agg #[.int .i64 c.kind, .int .i64 c.time, .string c.stream, .int .i64 c.expected, .slice A1 c.events.length cap1, .int .i64 c.mt.maxCount, .int .i64 c.mt.maxAge, .int .i64 c.mt.before]] W fun e w' => e = .returned (.int .i64 c.check) ∧ Only [] W w' from check_any c _ W (he.1.only0 hw) hc)
  have h2 : ∀ o1 o2, Only [] w ((w.alloc o1).alloc o2) := fun o1 o2 => ((Only.refl [] w).alloc o1).alloc o2
  have kC : ∀ cs t o2, Blk ((w.alloc (.cells cs t)).alloc o2) w.heap.size t cs := fun cs t o2 => ((Only.refl [] _).alloc o2).blk (Blk.new w t cs) (by simp)
  have kA : ∀ cs t o1, Blk ((w.alloc o1).alloc (.cells cs t)) (w.heap.size + 1) t cs := fun cs t o1 => by
    have := Blk.new (w.alloc o1) t cs
    simpa using this
  obtain ⟨R, hR⟩ : ∃ R, R = s.do c := ⟨_, rfl⟩
  rw [← hR]
  have HR := Lib.hid hR
  clear hR
  rw [show c.val (.slice A1 c.events.length cap1) = .agg #[.int .i64 c.kind, .int .i64 c.time, .string c.stream, .int .i64 c.expected, .slice A1 c.events.length cap1, .int .i64 c.mt.maxCount, .int .i64 c.mt.maxAge, .int .i64 c.mt.before] from rfl]
  have HZ := Lib.hid (check_zero hk)
  have HFew := Lib.hid (check_few hk)
  have hxo := hs.xok c.stream
  have HK := Lib.hid hk
  rw [hk] at HCk
  have hk4 : ((c.kind : Int) == 4) = false := by rw [beq_eq_false_iff_ne]; omega
  have hk5 : ((c.kind : Int) == 5) = false := by rw [beq_eq_false_iff_ne]; omega
  have HM := Lib.hid hm
  clear hk hm
  obtain ⟨A3, cap3, hpv3, hn5, hn6, hps⟩ := (h.rd c.stream).1.openI
  have hfd : ∀ (W : World) (t : Int), StAt W M sb mb av pf { s with now := t, done := s.done + 1 } → Calls Tryz.prog 21 #[.pointer (some ⟨sb, 0, none⟩), .string c.stream] W fun e w' => e = .returned (.agg #[.slice A3 (s.find c.stream).places.length cap3, .int .i64 (s.find c.stream).mt.maxCount, .int .i64 (s.find c.stream).mt.maxAge, .int .i64 (s.find c.stream).mt.before, .int .i64 (s.find c.stream).floor, .bool (s.find c.stream).deleted]) ∧ Only [] W w' := fun W t hst => by
    have q := find_any hst c.stream
    rw [show pvOf { s with now := t, done := s.done + 1 } pf c.stream = pvOf s pf c.stream from rfl, hpv3] at q
    exact q
  have HFd := Lib.hid hfd
  clear hfd
  obtain ⟨x, hx⟩ : ∃ x, x = s.find c.stream := ⟨_, rfl⟩
  rw [← hx] at HFd
  have HXf := Lib.hid hx
  have hdn := IntWalk.i64_in (s.done + 1) ⟨by have := hs.done; omega, by have := hs.done; omega⟩
  have hne0 : w.heap.size ≠ sb := by omega
  rw [← hx] at hd hxo
  rw [hd] at HFd
  have HD := Lib.hid hd
  have hal : s.all.length ≤ 800000 := by have := hs.all; omega
  obtain ⟨t0, ht0⟩ : ∃ t0, t0 = max s.now c.time := ⟨_, rfl⟩
  have htb : 0 ≤ t0 ∧ t0 ≤ 1099511627776 := by
    have h1 := hs.now
    have h2 := HZ.out.2.2.1
    omega
  obtain ⟨s1, hs1⟩ : ∃ s1 : MS, s1 = { s with now := t0, done := s.done + 1 } := ⟨_, rfl⟩
  obtain ⟨M1, hM1⟩ : ∃ M1, M1 = (w.heap.size + 1) :: M := ⟨_, rfl⟩
  have hM1i : ∀ g ∈ M, g ∈ M1 := fun g hg => by rw [hM1]; exact List.mem_cons_of_mem _ hg
  have hM1o : ∀ g ∈ M1, g ∈ M ∨ w.heap.size ≤ g := fun g hg => by rw [hM1] at hg; simp at hg; rcases hg with rfl | hg; exact .inr (by omega); exact .inl hg
  have hxo1 : XOk s1 x := by rw [hs1]; exact ⟨hxo.mt, hxo.fl, hxo.pl, hxo.few⟩
  obtain ⟨fo, hfo⟩ : ∃ fo, fo = s1.floorOf x := ⟨_, rfl⟩
  have hfb := floorOf_bd s1 x
  rw [← hfo] at hfb
  have hpl3 : ∀ W, StAt W M1 sb mb av pf s1 → Rd M1 W 1 (.slice A3 x.places.length cap3) x.places.length (ints x.places) := fun W hW => by
    have q := hW.rd c.stream
    rw [hs1] at q
    rw [show pvOf { s with now := t0, done := s.done + 1 } pf c.stream = pvOf s pf c.stream from rfl, hpv3] at q
    rw [hx]
    exact q
  have hfl : ∀ W, StAt W M1 sb mb av pf s1 → Calls Tryz.prog 22 #[.pointer (some ⟨sb, 0, none⟩), .agg #[.slice A3 x.places.length cap3, .int .i64 x.mt.maxCount, .int .i64 x.mt.maxAge, .int .i64 x.mt.before, .int .i64 x.floor, .bool false]] W fun e w' => e = .returned (.int .i64 fo) ∧ Only [] W w' := fun W hW => by
    have q := floorOf_any (x := x) hW (by rw [hs1]; exact htb) (hpl3 W hW).1 hxo1.pl (by have := hxo.few; omega) hxo1.mt hxo1.fl
    rw [← hfo] at q
    unfold StreamR.val at q
    rw [HD.out] at q
    exact q
  have hxo2 : XOk s1 { x with floor := fo } := ⟨hxo1.mt, hfb, hxo1.pl, hxo1.few⟩
  obtain ⟨q, hq⟩ : ∃ q, q = s1.act c { x with floor := fo } := ⟨_, rfl⟩
  have hac : ∀ W, StAt W M1 sb mb av pf s1 → Only [sb] w W → Calls Tryz.prog 23 #[.pointer (some ⟨sb, 0, none⟩), .agg #[.int .i64 c.kind, .int .i64 c.time, .string c.stream, .int .i64 c.expected, .slice A1 c.events.length cap1, .int .i64 c.mt.maxCount, .int .i64 c.mt.maxAge, .int .i64 c.mt.before], .agg #[.slice A3 x.places.length cap3, .int .i64 x.mt.maxCount, .int .i64 x.mt.maxAge, .int .i64 x.mt.before, .int .i64 fo, .bool false]] W fun e w' => ∃ Aq capq, e = .returned (.tuple #[.agg #[.int .i64 q.1.err, .int .i64 q.1.version, .int .i64 q.1.position, .bool q.1.again], .agg #[.slice Aq q.2.1.places.length capq, .int .i64 q.2.1.mt.maxCount, .int .i64 q.2.1.mt.maxAge, .int .i64 q.2.1.mt.before, .int .i64 q.2.1.floor, .bool q.2.1.deleted]]) ∧ ActLeads W M1 sb mb av pf q.2.1 q.2.2 (.slice Aq q.2.1.places.length capq) w' := fun W hW hO => by
    have r := act_any (x := { x with floor := fo }) (c := c) hW hxo2 (hpl3 W hW) ((he.ext hM1o).only hO (by simpa using hM1i _ h.inM.1)) (by rw [hs1]; show s.all.length ≤ 1000000; omega) (by rw [hs1]; exact htb) (fun hk => HZ.out.2.2.2.2 (by have := HZ.out; have := HM.out; omega))
    rw [← hq] at r
    unfold StreamR.val at r
    rw [HD.out] at r
    refine r.mono ?_
    rintro e w' ⟨pv', rfl, hA⟩
    obtain ⟨M', av', hst, hrd, hr⟩ := hA
    obtain ⟨Aq, capq, rfl, _⟩ := hrd.1.openI
    exact ⟨Aq, capq, rfl, M', av', hst, hrd, hr⟩
  have hqx := act_xok hxo2 HZ.out.2.2.2.1
  rw [← hq] at hqx
  have hq10 : q.2.2.all.length ≤ 1000000000 := by
    have q1 := hqx.2.2.2.2.2
    have q2 : s1.all.length = s.all.length := by rw [hs1]
    have := HFew.out
    omega
  have hkp : ∀ W M' av' Aq capq, StAt W M' sb mb av' pf q.2.2 → Rd M' W 1 (.slice Aq q.2.1.places.length capq) q.2.1.places.length (ints q.2.1.places) → Calls Tryz.prog 24 #[.pointer (some ⟨sb, 0, none⟩), .string c.stream, .agg #[.slice Aq q.2.1.places.length capq, .int .i64 q.2.1.mt.maxCount, .int .i64 q.2.1.mt.maxAge, .int .i64 q.2.1.mt.before, .int .i64 q.2.1.floor, .bool q.2.1.deleted]] W fun e w' => e = .returned (.tuple #[]) ∧ (∃ pf', StAt w' M' sb mb av' pf' (q.2.2.keep c.stream q.2.1)) ∧ Only [mb] W w' := fun W M' av' Aq capq hW hR => by
    have r := keep_any (N := 0) hW (by rw [hqx.2.1, hs1]; exact htb) (hq10) hqx.1 c.stream hR
    refine r.mono ?_
    rintro e w' ⟨rfl, h1, h2⟩
    exact ⟨rfl, ⟨_, h1⟩, h2⟩
  have HKp := Lib.hid hkp
  have HFl := Lib.hid hfl
  have HAc := Lib.hid hac
  have HQ := Lib.hid hq
  have HQX := Lib.hid hqx
  have HFo := Lib.hid hfo
  have HM1 := Lib.hid hM1
  have HM1i := Lib.hid hM1i
  have HM1o := Lib.hid hM1o
  have HS1 := Lib.hid hs1
  have HT0 := Lib.hid ht0
  clear hM1i hM1o hq10 hfl hkp hac hq hqx hfo hd hx hfb hxo hxo1 hxo2
  go_enter Tryz.func9, Tryz.ntmps9
  go_wp2_with (go_at_call 20; refine (HCk.out _ (h2 _ _)).mono ?_; rintro e w1 ⟨rfl, ho1⟩)
  clear hs1 ht0 hM1
  obtain ⟨t, ht⟩ : ∃ t, t = max s.now c.time := ⟨_, rfl⟩
  have hmx : (if s.now < c.time then c.time else s.now) = t := by rw [ht]; split <;> omega
  have hmy : (if c.time > s.now then c.time else s.now) = t := hmx
  have HT := Lib.hid ht
  clear ht
  have bC1 := ho1.blk (kC _ _ _) (by simp)
  have bA1 := ho1.blk (kA _ _ _) (by simp)
  have hO1 : Only [] w w1 := (h2 _ _).trans ho1
  have bS1 := hO1.blk h.blk (by simp)
  have C1 := WithinE.cell (E := fun W => W.cell? ⟨sb, 2, none⟩ = some (.int .i64 s.done)) (S := [sb]) (bC1.cell 1) (by simp; omega)
  have D2 := fun p : WithinE [sb] (fun W => W.cell? ⟨sb, 2, none⟩ = some (.int .i64 s.done)) w1 => p.e
  refine wp_region_inE [sb] [0, 1, 2, 3, 4, 6, 7, 9, 10, 11, 12, 13] [5, 8, 14, 15, 16] [17, 18, 19] (fun W => W.cell? ⟨sb, 2, none⟩ = some (.int .i64 s.done)) (bS1.cell 2) (by kernel_rfl) (by kernel_rfl) (by intro c d u a w h; cases d <;> exact h) ?_
  intro hne
  show wpQuiet _ _ _ _ [_, _, _, _, _, _, _, _, _, _, _, _] _
  repeat (go_big_quiet_step (fail))
  refine wpQuiet_nil ?_
  show wpList _ _ _ [_] _ _
  have hSf := fun i => bS1.free i
  have hSc := fun i => bS1.cell i
  have N3 : w1.drew.cell? ⟨sb, 3, none⟩ = some (.int .i64 s.now) := bS1.cell 3
  go_wp2_with fail
  refine check_ofE (S := [sb]) (Only.refl _ _).drew (bS1.cell 2) ?_
  show wpList _ _ _ [_] _ _
  go_wp2_with fail
  refine check_ofE (S := [sb]) (Only.refl _ _).drew (bS1.cell 2) ?_
  show wpList _ _ _ [_] _ _
  go_wp2_with fail
  refine check_ofE (S := [sb]) (Only.refl _ _).drew (bS1.cell 2) ?_
  show wpList _ _ _ [_] _ _
  go_wp2_with fail
  refine check_ofE (S := [sb]) (Only.refl _ _).drew (bS1.cell 2) ?_
  show wpList _ _ _ [_] _ _
  go_wp2_with fail
  refine check_ofE (S := [sb]) (((Only.refl _ _).setCell (.inl (by simp)) _).drew) ((bS1.set 3 _).cell 2) ?_
  show wpList _ _ _ [_, _, _] _ _
  have htt : t = t0 := by rw [HT.out, HT0.out]
  have hO2 := fun u v => ((Only.refl [sb] w1).setCell (p := ⟨sb, 3, none⟩) (.inl (by simp)) u).setCell (p := ⟨sb, 2, none⟩) (.inl (by simp)) v
  have hC2 := fun u v i => ((hO2 u v).blk bC1 (by simp; omega)).cell i
  have hC2' := fun u v i => ((hO2 u v).drew.blk bC1 (by simp; omega)).cell i
  have hb0 := (bS1.set 3 (.int .i64 t)).set 2 (.int .i64 (s.done + 1))
  have hT2 := StAt.ticked h (hO1.of_nil.trans (hO2 (.int .i64 t) (.int .i64 (s.done + 1)))) hb0
  have hT3 := hT2.only0 (Only.refl [] _).drew
  have kA2 := fun u v => (hO2 u v).drew.blk bA1 (by simp; omega)
  subst htt
  have hT4 := StAt.tickedMore h (hO1.of_nil.trans (hO2 (.int .i64 t) (.int .i64 (s.done + 1)))) hb0 (w.heap.size + 1) (by omega) (by have q1 := ho1.size; simp [World.setCell] at q1 ⊢; omega)
  rw [← HM1.out] at hT4
  have hT5 := hT4.only0 (Only.refl [] _).drew
  rw [← HS1.out] at hT4 hT5
  go_wp2_with (first
    | (go_at_call 21; refine (HFd.out _ _ (by first | exact hT3 | exact hT2)).mono ?_; rintro e w2 ⟨rfl, ho2⟩; have hb2 := fun o : Obj => ((Only.refl [] w2).alloc o)
       have hX2 := fun cs t i => (Blk.new w2 t cs).cell i; have hX2f := fun cs t i => (Blk.new w2 t cs).free i)
    | (go_at_call 22; refine (HFl.out _ ((hT5.only0 ho2).only0 (hb2 _))).mono ?_; rintro e w3 ⟨rfl, ho3⟩; have hX3 := fun i => (ho3.blk (Blk.new w2 _ _) (by simp)).cell i; have hX3f := fun i => (ho3.blk (Blk.new w2 _ _) (by simp)).free i
       have hC3 := fun i => (ho3.blk (((Only.refl [] w2).alloc _).blk (ho2.blk ((hO2 _ _).drew.blk bC1 (by simp; omega)) (by simp)) (by simp)) (by simp)).cell i
       have hn3 : w.heap.size ≠ w2.heap.size := by have q1 := ho1.size; have q2 := ho2.size; simp at q1 q2; omega
       have hO3 := fun u => ((((Only.refl [] w2).alloc _).trans ho3).setCell (p := ⟨w2.heap.size, 4, none⟩) (.inr (Nat.le_refl _)) u)
       have hC3' := fun u i => ((((Only.refl [w2.heap.size] w3).setCell (p := ⟨w2.heap.size, 4, none⟩) (.inl (by simp)) u).blk (ho3.blk (((Only.refl [] w2).alloc _).blk (ho2.blk ((hO2 _ _).drew.blk bC1 (by simp; omega)) (by simp)) (by simp)) (by simp)) (by simpa using hn3))).cell i)
    | (go_at_call 23; refine (HAc.out _ ((hT5.only0 ho2).only0 (hO3 _)) (((hO1.of_nil.trans (hO2 _ _)).drew.trans ho2.of_nil).trans (hO3 _).of_nil)).mono ?_; rintro e w4 ⟨Aq, capq, rfl, M', av', hst, hrd, hO4, hin, hnew, hav'⟩
       have hnM : w.heap.size ∉ hM sb mb av := fun q => by have := h.lt _ q; omega
       have hC4 := fun o1 o2 i => ((((Only.refl [] w4).alloc o1).alloc o2).blk (hO4.blk ((((Only.refl [w2.heap.size] w3).setCell (p := ⟨w2.heap.size, 4, none⟩) (.inl (by simp)) _).blk (ho3.blk (((Only.refl [] w2).alloc _).blk (ho2.blk ((hO2 _ _).drew.blk bC1 (by simp; omega)) (by simp)) (by simp)) (by simp)) (by simpa using hn3))) hnM) (by simp)).cell i
       have hY4 := fun o1 cs i => by
         have := (Blk.new (w4.alloc o1) 75 cs).cell i
         rw [World.size_alloc] at this
         exact this)
    | (go_at_call 24; refine (HKp.out _ _ _ _ _ (hst.only0 (((Only.refl [] w4).alloc _).alloc _)) (hrd.only0 (((Only.refl [] w4).alloc _).alloc _))).mono ?_; rintro e w5 ⟨rfl, ⟨pf', hs5⟩, ho5⟩
       have hm4 : w4.heap.size ≠ mb := by have q1 := h.map.lt; have q2 := hO4.size; have q3 := ho3.size; have q4 := ho2.size; have q5 := hO1.size; simp [World.setCell] at q1 q2 q3 q4 q5; omega
       have hnA : w.heap.size + 1 ≠ w2.heap.size := by have q1 := ho1.size; have q2 := ho2.size; simp [World.setCell] at q1 q2; omega
       have hnA2 : w.heap.size + 1 ∉ hM sb mb av := fun q => by have := h.lt _ q; omega
       have hnA3 : w.heap.size + 1 ≠ mb := by have := h.map.lt; omega
       have hB5 := ho5.blk ((((Only.refl [] w4).alloc _).alloc _).blk (hO4.blk ((((Only.refl [w2.heap.size] w3).setCell (p := ⟨w2.heap.size, 4, none⟩) (.inl (by simp)) _).blk (ho3.blk (((Only.refl [] w2).alloc _).blk (ho2.blk (kA2 _ _) (by simp)) (by simp)) (by simp)) (by simpa using hnA))) hnA2) (by simp)) (by simpa using hnA3)
       have hB5c := fun i => hB5.cell i
       have hB5f := fun i => hB5.free i
       have hA5 := fun i => (ho5.blk (((Only.refl [] _).alloc _).blk (Blk.new w4 34 _) (by simp)) (by simpa using hm4)).cell i))
  have hR := HR.out
  subst hR
  have hE : s.do c = (q.1, q.2.2.keep c.stream q.2.1) := by
    unfold MS.do
    rw [if_neg (by rw [HK.out]; decide)]
    dsimp only
    rw [if_neg HM.out]
    have e1 : s.tick c.time = s1 := by
      rw [HS1.out, HT.out]
      rfl
    have e2 : s1.find c.stream = x := by
      rw [HS1.out, HXf.out]
      rfl
    rw [e1, e2, if_neg (by rw [HD.out]; decide), ← HFo.out, ← HQ.out]
  refine bodyPost_ret (v := .agg #[.int .i64 q.1.err, .int .i64 q.1.version, .int .i64 q.1.position, .bool q.1.again]) (by simp [results, Tryz.results9, go_sem, hB5c]) rfl ?_
  rw [hE]
  have hMw : w.heap.size + 1 ∈ M' := hin _ (by rw [HM1.out]; simp)
  have hall := fun u => ((hO1.of_nil.trans (hO2 (.int .i64 t) (.int .i64 (s.done + 1)))).drew.trans ho2.of_nil).trans (S := [sb]) (hO3 u).of_nil
  have hbig : w.heap.size + 1 < w2.heap.size := by have q1 := ho1.size; have q2 := ho2.size; simp [World.setCell] at q1 q2; omega
  have hbig3 : w2.heap.size + 1 ≤ w3.heap.size := by have q1 := ho3.size; simpa using q1
  have hvn : ∀ g, av'.ownBlock = some g → av.ownBlock = some g ∨ w.heap.size + 1 < g := fun g hg => by
    rcases hav' g hg with q | q
    · exact .inl q
    · simp [World.setCell] at q
      exact .inr (by omega)
  refine ⟨rfl, M', av', pf', hs5.only (S := [w.heap.size + 1]) ?ho (by simpa using hMw) (fun g hg => ?hg), ?hw, fun g hg => hin _ (HM1i.out g hg), fun g hg => ?hn, fun g hg => ?hv⟩
  case ho =>
    iterate 4 (refine Only.setCell ?_ (.inl (by simp)) _)
    exact Only.refl _ _
  case hw =>
    iterate 4 (refine Only.setCell ?_ (.inr (by simp <;> omega)) _)
    exact (((((hall _).mono (by simp [hM])).trans hO4).alloc _).alloc _).trans (ho5.mono (by simp [hM]))
  case hg =>
    simp only [hM, List.mem_cons, Option.mem_toList] at hg
    simp only [List.mem_singleton]
    rcases hg with rfl | rfl | hg
    · omega
    · exact fun e => hnA3 e.symm
    · rcases hvn g hg with q | q
      · have := h.own_lt g q
        omega
      · omega
  case hn =>
    rcases hnew g hg with q | q
    · exact HM1o.out g q
    · simp [World.setCell] at q
      exact .inr (by omega)
  case hv =>
    rcases hvn g hg with q | q
    · exact .inl q
    · exact .inr (by omega)
/-- Do, of whatever state and command. -/
theorem do_any {w : World} {M : List Nat} {sb mb N : Nat} {av ev : Value} {pf : ByteArray → Value} {s : MS} {c : Cmd} (h : StAt w M sb mb av pf s) (hs : s.Ok N) (hN : N ≤ 100000) (hc : CmdOk c)
    (he : Rd M w 4 ev c.events.length (c.events.flatMap EventR.cells)) :
    Calls Tryz.prog 9 #[.pointer (some ⟨sb, 0, none⟩), c.val ev] w fun e w' => e = .returned (s.do c).1.val ∧ StLeads w M sb mb av (s.do c).2 w' := by
  by_cases hk : c.check = 0
  · by_cases hm : c.kind = 4 ∨ c.kind = 5
    · exact do_mark h hs hN hc he hk hm
    · cases hd : (s.find c.stream).deleted
      · exact do_act h hs hN hc he hk hm hd
      · exact do_gone h hs hN hc he hk hm hd
  · exact do_bad h hs hN hc he hk
end Go.Proofs.YteinoiicnmemhaaGreatDoor
/- What Do keeps of a state's numbers. -/
set_option linter.unusedVariables false
set_option linter.unusedSimpArgs false
namespace Go.Proofs.YteinoiicnmemhaaGreatDoor
open Go.RowKit
theorem aput_mem {κ ν : Type} [DecidableEq κ] {l : List (κ × ν)} {k : κ} {v : ν} {p : κ × ν} (h : p ∈ aput l k v) : p = (k, v) ∨ p ∈ l := by
  induction l with
  | nil => simp [aput] at h; exact .inl h
  | cons q l ih =>
    obtain ⟨a, b⟩ := q
    simp only [aput] at h
    split at h
    · simp only [List.mem_cons] at h ⊢
      rcases h with h | h
      · exact .inl h
      · exact .inr (.inr h)
    · simp only [List.mem_cons] at h ⊢
      rcases h with h | h
      · exact .inr (.inl h)
      · exact (ih h).imp id .inr
namespace MS
variable {s : MS} {N : Nat} {c : Cmd}
theorem Ok.more (h : s.Ok N) {N' : Nat} (hn : N ≤ N') : s.Ok N' :=
  ⟨h.now, ⟨h.done.1, by have := h.done.2; omega⟩, by have := h.all; omega, h.st⟩
theorem Ok.tick (h : s.Ok N) {t : Int} (ht : 0 ≤ t ∧ t ≤ 1099511627776) : (s.tick t).Ok (N + 1) :=
  ⟨by show 0 ≤ max s.now t ∧ max s.now t ≤ _; have := h.now; omega, by show 0 ≤ s.done + 1 ∧ s.done + 1 ≤ _; have := h.done; omega, by show s.all.length ≤ _; have := h.all; omega, h.st⟩
theorem new_ok : MS.new.Ok 0 := ⟨by decide, by decide, by decide, fun n x hx => by cases hx⟩
theorem do_ok (h : s.Ok N) (c : Cmd) : (s.do c).2.Ok (N + 1) := by
  unfold MS.do
  split
  · exact h.more (Nat.le_succ _)
  · rename_i hk
    have hk : c.check = 0 := by simpa using hk
    have hz := check_zero hk
    have hf := check_few hk
    have ht := h.tick (t := c.time) hz.2.2.1
    have hal : (s.tick c.time).all.length = s.all.length := rfl
    dsimp only
    split
    · exact ht
    · split
      · exact ht
      · have hx := ht.xok c.stream
        have hb := floorOf_bd (s.tick c.time) ((s.tick c.time).find c.stream)
        have hx2 : XOk (s.tick c.time) { (s.tick c.time).find c.stream with floor := (s.tick c.time).floorOf ((s.tick c.time).find c.stream) } := ⟨hx.mt, hb, hx.pl, hx.few⟩
        have ha := act_xok (c := c) hx2 hz.2.2.2.1
        generalize (s.tick c.time).act c { (s.tick c.time).find c.stream with floor := (s.tick c.time).floorOf ((s.tick c.time).find c.stream) } = r at ha
        obtain ⟨a, y, s2⟩ := r
        obtain ⟨h1, h2, h3, h4, h5, h6⟩ := ha
        dsimp only at h1 h2 h3 h4 h5 h6 ⊢
        refine ⟨?_, ?_, ?_, fun n x hx => ?_⟩
        · show 0 ≤ s2.now ∧ s2.now ≤ _
          rw [h2]
          exact ht.now
        · show 0 ≤ s2.done ∧ s2.done ≤ _
          rw [h4]
          exact ht.done
        · show s2.all.length ≤ _
          have := h.all
          omega
        · have hx' : (n, x) ∈ aput s2.m c.stream { y with floor := s2.floorOf y } := hx
          show _ ∧ _ ∧ _ ∧ x.places.length ≤ s2.all.length ∧ ∀ p ∈ x.places, 0 ≤ p ∧ p < s2.all.length
          rcases aput_mem hx' with q | q
          · cases q
            have hb2 := floorOf_bd s2 y
            exact ⟨h1.mt, hb2.1, hb2.2, h1.few, h1.pl⟩
          · rw [h3] at q
            obtain ⟨e1, e2, e3, e4, e5⟩ := ht.st n x q
            refine ⟨e1, e2, e3, by omega, fun p hp => ?_⟩
            have := e5 p hp
            omega
end MS
end Go.Proofs.YteinoiicnmemhaaGreatDoor
/- Contracts of what only looks: New, Len, Done, Now, Count, Floor, Deleted, MetaOf. -/
set_option linter.unusedVariables false
set_option linter.unusedSimpArgs false
namespace Go.Proofs.YteinoiicnmemhaaGreatDoor
open Go.RowKit
def MS.floorS (s : MS) (n : ByteArray) : Int := s.floorOf (s.find n)
theorem fld1 (W : World) (a b c d e f : Value) : Sem.run Tryz.prog (Instr.field 75 (.agg #[a, b, c, d, e, f]) 1) W = .ok (.agg #[b, c, d]) W := by kernel_rfl
theorem fld3 (W : World) (a b c d e f : Value) : Sem.run Tryz.prog (Instr.field 75 (.agg #[a, b, c, d, e, f]) 3) W = .ok f W := by kernel_rfl
set_option maxRecDepth 100000 in
theorem newS_any (w : World) (pf : ByteArray → Value) : Calls Tryz.prog 8 #[] w fun e w' => e = .returned (.pointer (some ⟨w.heap.size + 1, 0, none⟩)) ∧ StAt w' [w.heap.size + 1, w.heap.size] (w.heap.size + 1) w.heap.size (.slice none 0 0) pf MS.new ∧ Only [] w w' := by
  have hmm := @run_makeMap Tryz.prog
  go_enter Tryz.func8, Tryz.ntmps8
  go_wp2
  go_ret
  refine ⟨rfl, ⟨?_, World.ownsRow_nil _ _ _ _, (MapIs.new Value.string w).alloc _, (fun n x hx => by simp [MS.new] at hx), ⟨by simp, by simp, (fun g hg => by cases hg)⟩, (fun g hg => ?_)⟩, ((Only.refl [] w).alloc _).alloc _⟩
  · have := Blk.new (w.alloc (.map #[] 0)) 72 #[.slice none 0 0, .map (some w.heap.size), .int .i64 0, .int .i64 0]
    simpa [MS.new] using this
  · simp at hg ⊢
    omega
section
variable {w : World} {M : List Nat} {sb mb N : Nat} {av : Value} {pf : ByteArray → Value} {s : MS}
set_option maxRecDepth 100000 in
theorem findv (h : StAt w M sb mb av pf s) (n : ByteArray) : ∃ A cap, pvOf s pf n = .slice A (s.find n).places.length cap ∧ cap ≤ maxLen ∧ ∀ W, Only [] w W → Calls Tryz.prog 21 #[.pointer (some ⟨sb, 0, none⟩), .string n] W fun e w' => e = .returned (.agg #[.slice A (s.find n).places.length cap, .int .i64 (s.find n).mt.maxCount, .int .i64 (s.find n).mt.maxAge, .int .i64 (s.find n).mt.before, .int .i64 (s.find n).floor, .bool (s.find n).deleted]) ∧ Only [] W w' := by
  obtain ⟨A, cap, hpv, h1, h2, _⟩ := (h.rd n).1.openI
  refine ⟨A, cap, hpv, h2, fun W hW => ?_⟩
  have := find_any (h.only0 hW) n
  rw [hpv] at this
  exact this
set_option maxRecDepth 100000 in
theorem deletedS_any (h : StAt w M sb mb av pf s) (n : ByteArray) : Calls Tryz.prog 38 #[.pointer (some ⟨sb, 0, none⟩), .string n] w fun e w' => e = .returned (.bool (s.find n).deleted) ∧ Only [] w w' := by
  obtain ⟨A, cap, _, hcm, hf⟩ := findv h n
  have HF := Lib.hid hf
  clear hf
  have hq := fld3
  go_enter Tryz.func38, Tryz.ntmps38
  go_wp2_with (go_at_call 21; refine (HF.out _ (Only.refl _ _)).mono ?_; rintro e w1 ⟨rfl, ho1⟩)
  go_ret
  exact ⟨rfl, ho1⟩
set_option maxRecDepth 100000 in
theorem metaOfS_any (h : StAt w M sb mb av pf s) (n : ByteArray) : Calls Tryz.prog 39 #[.pointer (some ⟨sb, 0, none⟩), .string n] w fun e w' => e = .returned (s.find n).mt.val ∧ Only [] w w' := by
  obtain ⟨A, cap, _, hcm, hf⟩ := findv h n
  have HF := Lib.hid hf
  unfold MetaR.val
  clear hf
  have hq := fld1
  go_enter Tryz.func39, Tryz.ntmps39
  go_wp2_with (go_at_call 21; refine (HF.out _ ((Only.refl _ _).alloc _)).mono ?_; rintro e w1 ⟨rfl, ho1⟩
               have hf := fun i => (ho1.blk (Blk.new w 38 _) (by simp)).free i
               have hc := fun i => (ho1.blk (Blk.new w 38 _) (by simp)).cell i)
  refine bodyPost_ret (v := .agg #[.int .i64 (s.find n).mt.maxCount, .int .i64 (s.find n).mt.maxAge, .int .i64 (s.find n).mt.before]) (by simp [results, Tryz.results39, go_sem, hc]) rfl ⟨rfl, ?hw⟩
  case hw =>
    iterate 3 (refine Only.setCell ?_ (.inr (Nat.le_refl _)) _)
    exact ((Only.refl [] w).alloc _).trans ho1
set_option maxRecDepth 100000 in
theorem floorS_any (h : StAt w M sb mb av pf s) (hs : s.Ok N) (hN : N ≤ 100000) (n : ByteArray) : Calls Tryz.prog 37 #[.pointer (some ⟨sb, 0, none⟩), .string n] w fun e w' => e = .returned (.int .i64 (s.floorS n)) ∧ Only [] w w' := by
  obtain ⟨A, cap, hpv, hcm, hf⟩ := findv h n
  have hx := hs.xok n
  have hal := hs.all
  have hfl : ∀ W, Only [] w W → Calls Tryz.prog 22 #[.pointer (some ⟨sb, 0, none⟩), .agg #[.slice A (s.find n).places.length cap, .int .i64 (s.find n).mt.maxCount, .int .i64 (s.find n).mt.maxAge, .int .i64 (s.find n).mt.before, .int .i64 (s.find n).floor, .bool (s.find n).deleted]] W fun e w' => e = .returned (.int .i64 (s.floorS n)) ∧ Only [] W w' := fun W hW => by
    have hW' := h.only0 hW
    have hr := (hW'.rd n).1
    rw [hpv] at hr
    exact floorOf_any (x := s.find n) hW' hs.now hr hx.pl (by have := hx.few; omega) hx.mt hx.fl
  have HF := Lib.hid hf
  have HG := Lib.hid hfl
  clear hf hfl hpv hx hal hcm
  go_enter Tryz.func37, Tryz.ntmps37
  go_wp2_with (first
    | (go_at_call 21; refine (HF.out _ (Only.refl _ _)).mono ?_; rintro e w1 ⟨rfl, ho1⟩)
    | (go_at_call 22; go_loud (refine (HG.out _ ho1).mono ?_; rintro e w2 ⟨rfl, ho2⟩)))
  go_ret
  exact ⟨rfl, ho1.trans ho2⟩
end
/-! ## of a nil state -/
end Go.Proofs.YteinoiicnmemhaaGreatDoor
/- Contracts: pages forward. -/
set_option linter.unusedVariables false
set_option linter.unusedSimpArgs false
namespace Go.Proofs.YteinoiicnmemhaaGreatDoor
open Go.RowKit
structure PageR where
  events : List StoredR
  next : Int
  isEnd : Bool
def PageR.zero : PageR := ⟨[], 0, false⟩
def wrongP (f n : Int) : Bool := decide (f < 0) || decide (n < 1) || decide (n > 100)
def fwdGo (key : StoredR → Int) (f n : Int) : List StoredR → List StoredR → Int → PageR
  | [], acc, nx => ⟨acc, nx, true⟩
  | s :: l, acc, nx => if key s < f then fwdGo key f n l acc nx else if (acc.length : Int) = n then ⟨acc, nx, false⟩ else fwdGo key f n l (acc ++ [s]) (key s + 1)
def forwardBy (key : StoredR → Int) (l : List StoredR) (f n : Int) : PageR × Int := if wrongP f n then (PageR.zero, 1) else (fwdGo key f n l [] f, 0)
def StoredR.val (s : StoredR) : Value := .agg #[.int .i64 s.ev.id, .string s.ev.type, .string s.ev.data, .float .f64 s.ev.value, .string s.stream, .int .i64 s.version, .int .i64 s.position, .int .i64 s.time]
/-- What stands at the head of a round of a page. -/
structure PgAt (w wr : World) (pb : Nat) (pv : Value) (acc : List StoredR) (nx : Int) : Prop where
  only : Only [] w wr
  blkR : Blk wr w.heap.size 57 #[.slice none 0 0, .int .i64 0, .bool false]
  blkP : Blk wr pb 57 #[pv, .int .i64 nx, .bool true]
  own : wr.ownsRow w.heap.size 92 8 pv acc.length (acc.flatMap StoredR.cells)
theorem PgAt.only0 {w wr w' : World} {pb : Nat} {pv : Value} {acc : List StoredR} {nx : Int} (h : PgAt w wr pb pv acc nx) (k : Only [] wr w') : PgAt w w' pb pv acc nx :=
  ⟨h.only.trans k, k.blk h.blkR (by simp), k.blk h.blkP (by simp), own_only h.own k (by simp)⟩
end Go.Proofs.YteinoiicnmemhaaGreatDoor
/- Contracts: seen, Read. -/
set_option linter.unusedVariables false
set_option linter.unusedSimpArgs false
namespace Go.Proofs.YteinoiicnmemhaaGreatDoor
open Go.RowKit
def StoredR.zero : StoredR := ⟨⟨0, ⟨#[]⟩, ⟨#[]⟩, 0⟩, ⟨#[]⟩, 0, 0, 0⟩
def evAt (all : List StoredR) (p : Int) : StoredR := (all[p.toNat]?).getD StoredR.zero
def MS.seenL (s : MS) (n : ByteArray) : List StoredR := if (s.find n).deleted then [] else ((s.find n).places.drop (s.floorS n).toNat).map (evAt s.all)
theorem evAt_nat {all : List StoredR} {q : Nat} (h : q < all.length) : evAt all (q : Int) = all[q] := by simp [evAt, h]
section
variable {w : World} {M : List Nat} {sb mb N : Nat} {av : Value} {pf : ByteArray → Value} {s : MS}
end
end Go.Proofs.YteinoiicnmemhaaGreatDoor
/- Contract: Read, forward. -/
set_option linter.unusedVariables false
set_option linter.unusedSimpArgs false
namespace Go.Proofs.YteinoiicnmemhaaGreatDoor
open Go.RowKit
def MS.readOk (n : ByteArray) (f k : Int) : Bool := nameOk n && decide (0 ≤ f) && decide (1 ≤ k) && decide (k ≤ 100)
def MS.readF (s : MS) (n : ByteArray) (f k : Int) : PageR × Int :=
  if MS.readOk n f k = false then (PageR.zero, 1) else if (s.find n).deleted then (PageR.zero, 23) else if (s.find n).places.length = 0 then (PageR.zero, 8) else forwardBy StoredR.version (s.seenL n) f k
section
variable {w : World} {M : List Nat} {sb mb N : Nat} {av : Value} {pf : ByteArray → Value} {s : MS}
end
end Go.Proofs.YteinoiicnmemhaaGreatDoor
/- What holds of every state that commands made. -/
set_option linter.unusedVariables false
set_option linter.unusedSimpArgs false
namespace Go.Proofs.YteinoiicnmemhaaGreatDoor
open Go.RowKit
structure MS.Inv (s : MS) : Prop where
  pos : ∀ i (h : i < s.all.length), s.all[i].position = i
  plc : ∀ n k (h : k < (s.find n).places.length), ∃ p : Nat, ∃ hp : p < s.all.length, (s.find n).places[k] = p ∧ s.all[p].stream = n ∧ s.all[p].version = k
  ver : ∀ i (h : i < s.all.length), ∃ k : Nat, s.all[i].version = k ∧ (s.find s.all[i].stream).places[k]? = some (i : Int)
theorem find_put (s : MS) (n m : ByteArray) (x : StreamR) : (s.put n x).find m = if n = m then x else s.find m := by
  unfold MS.put MS.find
  dsimp only
  rw [aget_aput]
  split <;> rfl
theorem find_m {s t : MS} (h : s.m = t.m) (n : ByteArray) : s.find n = t.find n := by unfold MS.find; rw [h]
theorem storedOf_get (stream : ByteArray) (now : Int) : ∀ (l : List EventR) (v at_ : Int) (i : Nat) (h : i < l.length), (storedOf stream now l v at_)[i]? = some (stOne stream now l[i] (v + i) (at_ + i))
  | [], _, _, _, h => absurd h (Nat.not_lt_zero _)
  | e :: l, v, at_, 0, _ => by simp [storedOf, stOne]
  | e :: l, v, at_, i + 1, h => by
    have := storedOf_get stream now l (v + 1) (at_ + 1) i (by simpa using h)
    simp only [storedOf, List.getElem?_cons_succ, List.getElem_cons_succ]
    rw [this]
    simp only [stOne, Option.some.injEq, StoredR.mk.injEq, true_and, and_true]
    constructor <;> omega
theorem rangeFrom_get : ∀ (k : Nat) (a : Int) (i : Nat), i < k → (rangeFrom k a)[i]? = some (a + i)
  | 0, _, _, h => absurd h (Nat.not_lt_zero _)
  | k + 1, a, 0, _ => by simp [rangeFrom]
  | k + 1, a, i + 1, h => by
    simp only [rangeFrom, List.getElem?_cons_succ]
    rw [rangeFrom_get k (a + 1) i (by omega)]
    congr 1
    omega
/-- What act may do to the stream's places and to all events. -/
theorem act_places (s : MS) (c : Cmd) (x : StreamR) : (s.act c x).2.2.m = s.m ∧
    ((s.act c x).2.1.places = x.places ∧ (s.act c x).2.2.all = s.all ∨
      (s.act c x).2.1.places = x.places ++ rangeFrom c.events.length s.all.length ∧ (s.act c x).2.2.all = s.all ++ storedOf c.stream s.now c.events x.places.length s.all.length) := by
  unfold MS.act
  dsimp only
  split
  · exact ⟨rfl, .inl ⟨rfl, rfl⟩⟩
  split
  · split <;> exact ⟨rfl, .inl ⟨rfl, rfl⟩⟩
  split
  · exact ⟨rfl, .inl ⟨rfl, rfl⟩⟩
  split
  · exact ⟨rfl, .inr ⟨rfl, rfl⟩⟩
  · exact ⟨rfl, .inl ⟨rfl, rfl⟩⟩
/-- What Do leaves, in the shape that all proofs use: nothing turned but time and count; or the stream kept, its places as they were; or events behind. -/
theorem do_shape (s : MS) (c : Cmd) : ((s.do c).2.m = s.m ∧ (s.do c).2.all = s.all) ∨
    ∃ y : StreamR, (s.do c).2.m = aput s.m c.stream y ∧ (y.places = (s.find c.stream).places ∧ (s.do c).2.all = s.all ∨
      y.places = (s.find c.stream).places ++ rangeFrom c.events.length s.all.length ∧ (s.do c).2.all = s.all ++ storedOf c.stream (max s.now c.time) c.events (s.find c.stream).places.length s.all.length) := by
  unfold MS.do
  split
  · exact .inl ⟨rfl, rfl⟩
  dsimp only
  split
  · exact .inl ⟨rfl, rfl⟩
  split
  · exact .inl ⟨rfl, rfl⟩
  · right
    obtain ⟨h1, h2⟩ := act_places (s.tick c.time) c { (s.tick c.time).find c.stream with floor := (s.tick c.time).floorOf ((s.tick c.time).find c.stream) }
    generalize hr : (s.tick c.time).act c { (s.tick c.time).find c.stream with floor := (s.tick c.time).floorOf ((s.tick c.time).find c.stream) } = r at h1 h2
    refine ⟨{ r.2.1 with floor := r.2.2.floorOf r.2.1 }, ?_, ?_⟩
    · show aput r.2.2.m _ _ = _
      rw [h1]
      rfl
    · exact h2
theorem inv_new : MS.new.Inv := ⟨fun i h => absurd h (Nat.not_lt_zero _), fun n k h => absurd h (Nat.not_lt_zero _), fun i h => absurd h (Nat.not_lt_zero _)⟩
theorem MS.Inv.same {s t : MS} (h : s.Inv) (hm : ∀ n, (t.find n).places = (s.find n).places) (ha : t.all = s.all) : t.Inv := by
  refine ⟨fun i hi => ?_, fun n k hk => ?_, fun i hi => ?_⟩
  · simp only [ha] at hi ⊢
    exact h.pos i hi
  · simp only [hm, ha] at hk ⊢
    exact h.plc n k hk
  · simp only [ha] at hi ⊢
    rw [hm]
    exact h.ver i hi
theorem inv_do {s : MS} (h : s.Inv) (c : Cmd) : (s.do c).2.Inv := by
  rcases do_shape s c with ⟨h1, h2⟩ | ⟨y, h1, ⟨h2, h3⟩ | ⟨h2, h3⟩⟩
  · exact h.same (fun n => by rw [find_m h1]) h2
  · refine h.same (fun n => ?_) h3
    have e : (s.do c).2.find n = (s.put c.stream y).find n := find_m h1 n
    rw [e, find_put]
    split
    · rename_i q; subst q; exact h2
    · rfl
  · have hfi : ∀ n, ((s.do c).2.find n).places = if c.stream = n then y.places else (s.find n).places := fun n => by
      have e : (s.do c).2.find n = (s.put c.stream y).find n := find_m h1 n
      rw [e, find_put]
      split <;> rfl
    generalize (s.do c).2 = t at *
    obtain ⟨x, hx⟩ : ∃ x, x = s.find c.stream := ⟨_, rfl⟩
    rw [← hx] at h2 h3
    have hpre : ∀ i, i < s.all.length → t.all[i]? = s.all[i]? := fun i hi => by rw [h3, List.getElem?_append_left hi]
    have hsuf : ∀ i (hi : i < c.events.length), t.all[s.all.length + i]? = some (stOne c.stream (max s.now c.time) c.events[i] (x.places.length + i) (s.all.length + i)) := fun i hi => by
      rw [h3, List.getElem?_append_right (by omega), show s.all.length + i - s.all.length = i by omega]
      exact storedOf_get _ _ _ _ _ i hi
    have hlen : t.all.length = s.all.length + c.events.length := by rw [h3, List.length_append, storedOf_len]
    refine ⟨fun i hi => ?_, fun n k hk => ?_, fun i hi => ?_⟩
    · by_cases q : i < s.all.length
      · have e := hpre i q
        rw [List.getElem?_eq_getElem hi, List.getElem?_eq_getElem q] at e
        injection e with e
        rw [e]
        exact h.pos i q
      · have e := hsuf (i - s.all.length) (by omega)
        rw [show s.all.length + (i - s.all.length) = i by omega, List.getElem?_eq_getElem hi] at e
        injection e with e
        rw [e]
        simp only [stOne]
        omega
    · by_cases hn : c.stream = n
      · subst hn
        have hp := hfi c.stream
        rw [if_pos rfl, h2] at hp
        by_cases q : k < x.places.length
        · obtain ⟨p, hp1, hp2, hp3, hp4⟩ := h.plc c.stream k (by rw [← hx]; exact q)
          have e := hpre p hp1
          rw [List.getElem?_eq_getElem (by omega), List.getElem?_eq_getElem hp1] at e
          injection e with e
          refine ⟨p, by omega, ?_, by rw [e]; exact hp3, by rw [e]; exact hp4⟩
          simp only [hp]
          rw [List.getElem_append_left q]
          simpa [hx] using hp2
        · have hk' : k < x.places.length + c.events.length := by
            rw [hp, List.length_append, rangeFrom_len] at hk
            exact hk
          have e := hsuf (k - x.places.length) (by omega)
          have hlt : s.all.length + (k - x.places.length) < t.all.length := by omega
          rw [List.getElem?_eq_getElem hlt] at e
          injection e with e
          refine ⟨s.all.length + (k - x.places.length), hlt, ?_, by rw [e]; rfl, by rw [e]; simp only [stOne]; omega⟩
          have e2 : (t.find c.stream).places[k]? = some ((s.all.length : Int) + ((k - x.places.length : Nat) : Int)) := by
            rw [hp, List.getElem?_append_right (by omega)]
            exact rangeFrom_get _ _ _ (by omega)
          rw [List.getElem?_eq_getElem hk] at e2
          injection e2
      · have hp := hfi n
        rw [if_neg hn] at hp
        obtain ⟨p, hp1, hp2, hp3, hp4⟩ := h.plc n k (by rw [← hp]; exact hk)
        have e := hpre p hp1
        rw [List.getElem?_eq_getElem (by omega), List.getElem?_eq_getElem hp1] at e
        injection e with e
        refine ⟨p, by omega, ?_, by rw [e]; exact hp3, by rw [e]; exact hp4⟩
        simp only [hp]
        exact hp2
    · by_cases q : i < s.all.length
      · have e := hpre i q
        rw [List.getElem?_eq_getElem hi, List.getElem?_eq_getElem q] at e
        injection e with e
        obtain ⟨k, hk1, hk2⟩ := h.ver i q
        refine ⟨k, by rw [e]; exact hk1, ?_⟩
        rw [e, hfi]
        split
        · rename_i hn
          rw [← hn, ← hx] at hk2
          rw [h2, List.getElem?_append_left (List.getElem?_eq_some_iff.1 hk2).1]
          exact hk2
        · exact hk2
      · have e := hsuf (i - s.all.length) (by omega)
        rw [show s.all.length + (i - s.all.length) = i by omega, List.getElem?_eq_getElem hi] at e
        injection e with e
        refine ⟨x.places.length + (i - s.all.length), by rw [e]; simp only [stOne]; omega, ?_⟩
        rw [e, hfi]
        rw [if_pos (by rfl), h2, List.getElem?_append_right (by omega), rangeFrom_get _ _ _ (by omega)]
        congr 1
        omega
theorem MS.Inv.evAt {s : MS} (h : s.Inv) {n : ByteArray} {e : StoredR} (he : e ∈ (s.find n).places.map (evAt s.all)) : ∃ k p : Nat, ∃ hp : p < s.all.length, e = s.all[p] ∧ k < (s.find n).places.length ∧ e.stream = n ∧ e.version = k ∧ e.position = p := by
  obtain ⟨q, hq, rfl⟩ := List.mem_map.1 he
  obtain ⟨k, hk, rfl⟩ := List.mem_iff_getElem.1 hq
  obtain ⟨p, hp, h1, h2, h3⟩ := h.plc n k hk
  rw [h1, evAt_nat hp]
  exact ⟨k, p, hp, rfl, hk, h2, h3, h.pos p hp⟩
end Go.Proofs.YteinoiicnmemhaaGreatDoor
/- A state as the laws see it: above a world that stays, beside blocks that are kept; the contracts in that form. -/
set_option linter.unusedVariables false
set_option linter.unusedSimpArgs false
namespace Go.Proofs.YteinoiicnmemhaaGreatDoor
open Go.RowKit
/-- Above the world a, which stays; R: blocks of the caller's own that may turn by his hand; E: blocks that only are read. -/
structure HasS (a w : World) (R E : List Nat) (sb mb : Nat) (s : MS) (N : Nat) : Prop where
  only : Only [] a w
  st : ∃ M av pf, StAt w M sb mb av pf s ∧ (∀ g ∈ M, a.heap.size ≤ g ∧ g ∉ E) ∧ (∀ g ∈ R, g ∈ M) ∧ ∀ g ∈ hM sb mb av, g ∉ R
  el : ∀ g ∈ E, g < w.heap.size
  ok : s.Ok N
  inv : s.Inv
section
variable {a w w' : World} {R R' E E' : List Nat} {sb mb N : Nat} {s : MS}
theorem HasS.rl (h : HasS a w R E sb mb s N) : ∀ g ∈ R, a.heap.size ≤ g ∧ g < w.heap.size ∧ g ∉ E := by
  obtain ⟨M, av, pf, q1, q2, q3, q4⟩ := h.st
  exact fun g hg => ⟨(q2 g (q3 g hg)).1, q1.mlt g (q3 g hg), (q2 g (q3 g hg)).2⟩
theorem HasS.keep (h : HasS a w R E sb mb s N) (k : Only [] w w') : HasS a w' R E sb mb s N := by
  obtain ⟨M, av, pf, h1, h2⟩ := h.st
  exact ⟨h.only.trans k, ⟨M, av, pf, h1.only0 k, h2⟩, fun g hg => Nat.lt_of_lt_of_le (h.el g hg) k.size, h.ok, h.inv⟩
theorem StAt.fresh {M : List Nat} {av : Value} {pf : ByteArray → Value} (h : StAt w M sb mb av pf s) (k : Only [] w w') {g : Nat} (h1 : w.heap.size ≤ g) (h2 : g < w'.heap.size) : StAt w' (g :: M) sb mb av pf s := by
  have h' := h.only0 k
  exact ⟨h'.blk, h'.own, h'.map, fun n x hx => ((h.pl n x hx).ext (M' := g :: M) (fun i hi => by simp at hi; rcases hi with rfl | hi; exact .inr h1; exact .inl hi)).only0 k,
    ⟨List.mem_cons_of_mem _ h.inM.1, List.mem_cons_of_mem _ h.inM.2.1, fun i hi => List.mem_cons_of_mem _ (h.inM.2.2 i hi)⟩,
    fun i hi => by simp at hi; rcases hi with rfl | hi; exact h2; exact h'.mlt i hi⟩
/-- One more block of one's own. -/
theorem HasS.addR (h : HasS a w R E sb mb s N) (k : Only [] w w') {g : Nat} (h1 : w.heap.size ≤ g) (h2 : g < w'.heap.size) : HasS a w' (g :: R) E sb mb s N := by
  obtain ⟨M, av, pf, q1, q2, q3, q4⟩ := h.st
  refine ⟨h.only.trans k, ⟨g :: M, av, pf, q1.fresh k h1 h2, fun i hi => ?_, fun i hi => ?_, fun i hi q => ?_⟩, fun g hg => Nat.lt_of_lt_of_le (h.el g hg) k.size, h.ok, h.inv⟩
  · rcases List.mem_cons.1 hi with rfl | hi
    · refine ⟨Nat.le_trans h.only.size h1, fun q => ?_⟩
      have := h.el i q
      omega
    · exact q2 i hi
  · rcases List.mem_cons.1 hi with rfl | hi
    · simp
    · exact List.mem_cons_of_mem _ (q3 i hi)
  · rcases List.mem_cons.1 q with rfl | q
    · have := q1.lt i hi
      omega
    · exact q4 i hi q
theorem HasS.less (h : HasS a w R E sb mb s N) (hr : ∀ g ∈ R', g ∈ R) (he : ∀ g ∈ E', g ∈ E) : HasS a w R' E' sb mb s N := by
  obtain ⟨M, av, pf, q1, q2, q3, q4⟩ := h.st
  exact ⟨h.only, ⟨M, av, pf, q1, fun g hg => ⟨(q2 g hg).1, fun q => (q2 g hg).2 (he g q)⟩, fun g hg => q3 g (hr g hg), fun g hg q => q4 g hg (hr g q)⟩, fun g hg => h.el g (he g hg), h.ok, h.inv⟩
/-- Blocks of one's own turn: the state stays. -/
theorem HasS.turn {S : List Nat} (h : HasS a w R E sb mb s N) (k : Only S w w') (hS : ∀ g ∈ S, g ∈ R) : HasS a w' R E sb mb s N := by
  obtain ⟨M, av, pf, q1, q2, q3, q4⟩ := h.st
  exact ⟨h.only.step k (fun g hg => .inr (q2 g (q3 g (hS g hg))).1), ⟨M, av, pf, q1.only k (fun g hg => q3 g (hS g hg)) (fun g hg q => q4 g hg (hS g q)), q2, q3, q4⟩, fun g hg => Nat.lt_of_lt_of_le (h.el g hg) k.size, h.ok, h.inv⟩
theorem HasS.setCell (h : HasS a w R E sb mb s N) {p : Addr} (hp : p.block ∈ R) (u : Value) : HasS a (w.setCell p u) R E sb mb s N := h.turn (S := [p.block]) ((Only.refl _ w).setCell (.inl (by simp)) u) (by simpa using hp)
theorem HasS.more (h : HasS a w R E sb mb s N) {N' : Nat} (hn : N ≤ N') : HasS a w R E sb mb s N' := ⟨h.only, h.st, h.el, h.ok.more hn, h.inv⟩
theorem has_newS (a w : World) (ha : Only [] a w) (E : List Nat) (hE : ∀ g ∈ E, g < w.heap.size) : Calls Tryz.prog 8 #[] w fun e w' => e = .returned (.pointer (some ⟨w.heap.size + 1, 0, none⟩)) ∧ HasS a w' [] E (w.heap.size + 1) w.heap.size MS.new 0 ∧ Only [] w w' :=
  (newS_any w (fun _ => .slice none 0 0)).mono fun e w' ⟨h1, h2, h3⟩ => ⟨h1, ⟨ha.trans h3, ⟨_, _, _, h2, fun g hg => by
    have := ha.size
    simp at hg
    refine ⟨by omega, fun q => ?_⟩
    have := hE g q
    omega, fun g hg => (by cases hg), fun g hg q => (by cases q)⟩, fun g hg => Nat.lt_of_lt_of_le (hE g hg) h3.size, MS.new_ok, inv_new⟩, h3⟩
/-- A command's events, where they lie. -/
def EvIn (a w : World) (E : List Nat) (ev : Value) (l : List EventR) : Prop := Slc w 4 ev l.length (l.flatMap EventR.cells) ∧ ∀ g, ev.ownBlock = some g → (g < a.heap.size ∨ g ∈ E) ∨ l.length = 0
theorem has_do {c : Cmd} {ev : Value} (h : HasS a w R E sb mb s N) (hN : N ≤ 100000) (hc : CmdOk c) (he : EvIn a w E ev c.events) :
    Calls Tryz.prog 9 #[.pointer (some ⟨sb, 0, none⟩), c.val ev] w fun e w' => e = .returned (s.do c).1.val ∧ HasS a w' R E sb mb (s.do c).2 (N + 1) ∧ Keeps a (R ++ E) w w' := by
  obtain ⟨M, av, pf, h1, h2, h3, h4⟩ := h.st
  have hrd : Rd M w 4 ev c.events.length (c.events.flatMap EventR.cells) := ⟨he.1, fun g hg => by
    rcases he.2 g hg with (q | q) | q
    · exact .inl ⟨fun q2 => by have := (h2 g q2).1; omega, Nat.lt_of_lt_of_le q h.only.size⟩
    · exact .inl ⟨fun q2 => (h2 g q2).2 q, h.el g q⟩
    · exact .inr q⟩
  refine (do_any h1 h.ok hN hc hrd).mono fun e w' ⟨q1, M', av', pf', q2, q3, q4, q5, q6⟩ => ⟨q1, ?_, ⟨_, q3, fun g hg => ⟨(h2 g (h1.hMM g hg)).1, fun q => ?_⟩⟩⟩
  · refine ⟨h.only.step q3 (fun g hg => .inr (h2 g (h1.hMM g hg)).1), ⟨M', av', pf', q2, fun g hg => ?_, fun g hg => q4 g (h3 g hg), fun g hg q => ?_⟩, fun g hg => Nat.lt_of_lt_of_le (h.el g hg) q3.size, MS.do_ok h.ok c, inv_do h.inv c⟩
    · rcases q5 g hg with q | q
      · exact h2 g q
      · refine ⟨Nat.le_trans h.only.size q, fun q7 => ?_⟩
        have := h.el g q7
        omega
    · simp only [hM, List.mem_cons, Option.mem_toList] at hg
      rcases hg with rfl | rfl | hg
      · exact h4 _ (by simp [hM]) q
      · exact h4 _ (by simp [hM]) q
      · rcases q6 g hg with q7 | q7
        · exact h4 g (by simp [hM, q7]) q
        · have := h1.mlt g (h3 g q)
          omega
  · rcases List.mem_append.1 q with q | q
    · exact h4 g hg q
    · exact (h2 g (h1.hMM g hg)).2 q
end
end Go.Proofs.YteinoiicnmemhaaGreatDoor
/- Contract: Seen. -/
set_option linter.unusedVariables false
set_option linter.unusedSimpArgs false
namespace Go.Proofs.YteinoiicnmemhaaGreatDoor
open Go.RowKit Go Go.Sort
section
variable {P : Program} {C : World → Prop} {Q : Exit → Act → World → Prop} {l : List Oper} {H A T2 : List Nat} {r : List (List Nat × List Nat)} {K : Act → World → Prop} {a : Act} {w : World}
theorem stagesFirst (h : wpQuiet P l.toArray C (fun a' => wpT1 P l.toArray C Q (opsAt l A) (wpStages P l C Q K r) a' w) (opsAt l H) a) : wpStages P l C Q K ((H, A) :: r) a w := h
theorem stagesEnd (h : wpList P l.toArray Q (opsAt l T2) a w) : wpT1 P l.toArray C Q (opsAt l []) (wpStages P l C Q (fun a w => wpList P l.toArray Q (opsAt l T2) a w) []) a w := h
end
def MS.seenAt (s : MS) (p : Int) : Bool := if p < 0 ∨ (s.all.length : Int) ≤ p then false else !(s.find (evAt s.all p).stream).deleted && decide (s.floorS (evAt s.all p).stream ≤ (evAt s.all p).version)
section
variable {w : World} {M : List Nat} {sb mb N : Nat} {av : Value} {pf : ByteArray → Value} {s : MS}
end
section
variable {a w : World} {R E : List Nat} {sb mb N : Nat} {s : MS}
end
end Go.Proofs.YteinoiicnmemhaaGreatDoor
/- Pure: what is seen of all and of a stream, and the pages of it, one behind the other. -/
set_option linter.unusedVariables false
set_option linter.unusedSimpArgs false
namespace Go.Proofs.YteinoiicnmemhaaGreatDoor
open Go.RowKit
/-- The places of a stream lead to just its events, in order; names are names. -/
def MS.Inv2 (s : MS) : Prop := (∀ n, (s.find n).places.map (evAt s.all) = s.all.filter (fun e => decide (e.stream = n))) ∧ ∀ e ∈ s.all, nameOk e.stream = true
theorem inv2_new : MS.new.Inv2 := ⟨fun n => rfl, fun e he => by cases he⟩
theorem storedOf_stream (stream : ByteArray) (now : Int) : ∀ (l : List EventR) (v at_ : Int), ∀ e ∈ storedOf stream now l v at_, e.stream = stream
  | [], _, _, e, h => by cases h
  | x :: l, v, at_, e, h => by
    simp only [storedOf, List.mem_cons] at h
    rcases h with rfl | h
    · rfl
    · exact storedOf_stream stream now l _ _ e h
theorem evAt_append {all l : List StoredR} {p : Nat} (h : p < all.length) : evAt (all ++ l) (p : Int) = evAt all (p : Int) := by
  simp [evAt, List.getElem?_append_left h]
theorem range_evAt (all st : List StoredR) : (rangeFrom st.length all.length).map (evAt (all ++ st)) = st := by
  apply List.ext_getElem?
  intro i
  by_cases h : i < st.length
  · rw [List.getElem?_map, rangeFrom_get _ _ _ h, Option.map_some]
    rw [show (all.length : Int) + (i : Int) = ((all.length + i : Nat) : Int) by omega]
    rw [evAt_nat (by simp; omega), List.getElem_append_right (by omega)]
    simp [h]
  · rw [List.getElem?_eq_none (by simp [rangeFrom_len]; omega), List.getElem?_eq_none (by omega)]
theorem MS.Inv2.same {s t : MS} (h : s.Inv2) (hm : ∀ n, (t.find n).places = (s.find n).places) (ha : t.all = s.all) : t.Inv2 :=
  ⟨fun n => by rw [hm, ha]; exact h.1 n, fun e he => h.2 e (by rw [← ha]; exact he)⟩
theorem inv2_do {s : MS} (h : s.Inv) (h2 : s.Inv2) (c : Cmd) : (s.do c).2.Inv2 := by
  by_cases hk : c.check = 0
  · by_cases hq : c.kind = 4 ∨ c.kind = 5
    · have e : (s.do c).2 = s.tick c.time := by
        unfold MS.do
        rw [if_neg (by simp [hk])]
        dsimp only
        rw [if_pos hq]
      rw [e]
      exact h2.same (fun _ => rfl) rfl
    · have hn : nameOk c.stream = true := by
        unfold Cmd.check at hk
        split at hk
        · cases hk
        · rename_i q1
          split at hk
          · cases hk
          · rename_i q2
            cases hb : nameOk c.stream with
            | true => rfl
            | false => exact absurd ⟨by omega, hb⟩ q2
      rcases do_shape s c with ⟨h1, h3⟩ | ⟨y, h1, ⟨h4, h3⟩ | ⟨h4, h3⟩⟩
      · exact h2.same (fun n => by rw [find_m h1]) h3
      · refine h2.same (fun n => ?_) h3
        have e : (s.do c).2.find n = (s.put c.stream y).find n := find_m h1 n
        rw [e, find_put]
        split
        · rename_i q; subst q; exact h4
        · rfl
      · have hfi : ∀ n, ((s.do c).2.find n).places = if c.stream = n then y.places else (s.find n).places := fun n => by
          have e : (s.do c).2.find n = (s.put c.stream y).find n := find_m h1 n
          rw [e, find_put]
          split <;> rfl
        generalize (s.do c).2 = t at *
        obtain ⟨st, hst⟩ : ∃ st, st = storedOf c.stream (max s.now c.time) c.events (s.find c.stream).places.length s.all.length := ⟨_, rfl⟩
        rw [← hst] at h3
        have hsl : st.length = c.events.length := by rw [hst, storedOf_len]
        have hss : ∀ e ∈ st, e.stream = c.stream := by rw [hst]; exact storedOf_stream _ _ _ _ _
        have hold : ∀ n, (s.find n).places.map (evAt t.all) = s.all.filter (fun e => decide (e.stream = n)) := fun n => by
          rw [← h2.1 n]
          apply List.map_congr_left
          intro p hp
          obtain ⟨k, hk, rfl⟩ := List.mem_iff_getElem.1 hp
          obtain ⟨q, hq1, hq2, _⟩ := h.plc n k hk
          rw [hq2, h3]
          exact evAt_append hq1
        refine ⟨fun n => ?_, fun e he => ?_⟩
        · rw [hfi]
          split
          · rename_i q
            subst q
            rw [h4, List.map_append, hold, h3, List.filter_append, ← hsl, range_evAt]
            congr 1
            exact (List.filter_eq_self.2 (fun e he => by simpa using hss e he)).symm
          · rename_i q
            rw [hold, h3, List.filter_append]
            rw [show st.filter (fun e => decide (e.stream = n)) = [] from List.filter_eq_nil_iff.2 (fun e he => by simpa [hss e he] using q), List.append_nil]
        · rw [h3] at he
          rcases List.mem_append.1 he with he | he
          · exact h2.2 e he
          · rw [hss e he]
            exact hn
  · have e : (s.do c).2 = s := by
      unfold MS.do
      rw [if_pos (by simpa using hk)]
    rw [e]
    exact h2
theorem drop_filter (f : StoredR → Int) : ∀ (L : List StoredR) (b : Int) (h : ∀ k (hk : k < L.length), f L[k] = b + k) (a : Nat), L.drop a = L.filter (fun e => decide (b + a ≤ f e))
  | [], _, _, _ => by simp
  | x :: l, b, h, 0 => by
    rw [List.drop_zero, List.filter_eq_self.2]
    intro e he
    obtain ⟨k, hk, rfl⟩ := List.mem_iff_getElem.1 he
    rw [h k hk]
    simp
    omega
  | x :: l, b, h, a + 1 => by
    have h0 := h 0 (by simp)
    simp only [List.getElem_cons_zero] at h0
    rw [List.drop_succ_cons, drop_filter f l (b + 1) (fun k hk => by
      have := h (k + 1) (by simpa using hk)
      simp only [List.getElem_cons_succ] at this
      rw [this]
      omega) a, List.filter_cons, if_neg (by simp [h0]; omega)]
    congr 1
    funext e
    congr 1
    apply propext
    constructor <;> intro <;> omega
def MS.seenAll (s : MS) : List StoredR := s.all.filter (fun e => s.seenAt e.position)
theorem seenAt_of {s : MS} (h : s.Inv) {e : StoredR} (he : e ∈ s.all) : s.seenAt e.position = (!(s.find e.stream).deleted && decide (s.floorS e.stream ≤ e.version)) := by
  obtain ⟨i, hi, rfl⟩ := List.mem_iff_getElem.1 he
  rw [h.pos i hi]
  unfold MS.seenAt
  rw [if_neg (by omega), evAt_nat hi]
theorem floorS_bd (s : MS) (n : ByteArray) : 0 ≤ s.floorS n ∧ s.floorS n ≤ (s.find n).places.length := floorOf_bd s (s.find n)
theorem streamEvs_vers {s : MS} (h : s.Inv) (h2 : s.Inv2) (n : ByteArray) : ∀ k (hk : k < (s.all.filter (fun e => decide (e.stream = n))).length), (s.all.filter (fun e => decide (e.stream = n)))[k].version = 0 + (k : Int) := by
  intro k hk
  have e := h2.1 n
  simp only [← e] at hk ⊢
  rw [List.getElem_map]
  obtain ⟨p, hp, h3, h4, h5⟩ := h.plc n k (by simpa using hk)
  rw [h3, evAt_nat hp, h5]
  omega
theorem seenL_filter {s : MS} (h : s.Inv) (h2 : s.Inv2) (n : ByteArray) : s.seenL n = s.seenAll.filter (fun e => decide (e.stream = n)) := by
  have e1 : s.seenAll.filter (fun e => decide (e.stream = n)) = (s.all.filter (fun e => decide (e.stream = n))).filter (fun e => !(s.find n).deleted && decide (s.floorS n ≤ e.version)) := by
    unfold MS.seenAll
    rw [List.filter_filter, List.filter_filter]
    apply List.filter_congr
    intro e he
    by_cases q : e.stream = n
    · rw [seenAt_of h he, q]
      simp
    · simp [q]
  rw [e1]
  unfold MS.seenL
  cases (s.find n).deleted with
  | true =>
    simp only [if_true, Bool.not_true, Bool.false_and]
    rw [List.filter_eq_nil_iff.2 (by simp)]
  | false =>
    simp only [Bool.false_eq_true, if_false, Bool.not_false, Bool.true_and]
    rw [List.map_drop, h2.1 n, drop_filter StoredR.version _ 0 (streamEvs_vers h h2 n)]
    have := floorS_bd s n
    congr 1
    funext e
    congr 1
    apply propext
    constructor <;> intro <;> omega
/-! ## pages one behind the other -/
end Go.Proofs.YteinoiicnmemhaaGreatDoor
/- Contracts: Every, SameStored. -/
set_option linter.unusedVariables false
set_option linter.unusedSimpArgs false
namespace Go.Proofs.YteinoiicnmemhaaGreatDoor
open Go.RowKit
set_option maxRecDepth 100000 in
theorem cloneS_any {w : World} {pv : Value} {l : List StoredR} (h : Slc w 8 pv l.length (l.flatMap StoredR.cells)) (hb : l.length ≤ 1000000000) :
    Calls Tryz.prog 121 #[pv] w fun e w' => ∃ v', e = .returned v' ∧ w'.ownsRow w.heap.size 92 8 v' l.length (l.flatMap StoredR.cells) ∧ Only [] w w' := by
  obtain ⟨j0, hj, hy0, hy1, hy2⟩ := info_parts infoSt
  obtain ⟨A, cap, rfl, hnc, hcm, hl, hc⟩ := h.cell
  have hq := fun W a n c n' c' => Lib.run_eql_slice_nil (P := Tryz.prog) W 28 _ a n c n' c' Tryz.underlying28
  cases A with
  | none =>
    have h0 : l = [] := by
      rcases hc with q | ⟨b, off, q, _⟩
      · exact List.length_eq_zero_iff.1 q
      · cases q
    subst h0
    go_enter Tryz.func121, Tryz.ntmps121
    go_wp2
    go_ret
    exact ⟨_, rfl, World.ownsRow_nil _ _ _ _, Only.refl _ _⟩
  | some ad =>
    obtain ⟨b, off, sp⟩ := ad
    have hcell : ∀ j u, (l.flatMap StoredR.cells)[j]? = some u → (w.alloc (.cells #[] 92)).cell? ((⟨b, off, sp⟩ : Addr).add j) = some u := by
      intro j u hu
      have hj : j < (l.flatMap StoredR.cells).length := (List.getElem?_eq_some_iff.1 hu).1
      rcases hc with q | ⟨b', off', q, hb', hcc⟩
      · rw [hl] at hj; omega
      · cases q
        have := hcc j hj
        rw [hu] at this
        rw [show ((⟨b, off, none⟩ : Addr).add j) = ⟨b, off + j, none⟩ by simp [Addr.add]]
        exact (World.cell?_alloc_lt w _ ⟨b, off + j, none⟩ hb').trans this
    have hone : ∀ u ∈ l.flatMap StoredR.cells, u.oneCell' = true := by
      intro u hu
      obtain ⟨x, _, hx⟩ := List.mem_flatMap.1 hu
      simp [StoredR.cells, EventR.cells] at hx
      rcases hx with rfl | rfl | rfl | rfl | rfl | rfl | rfl | rfl <;> rfl
    unfold maxLen at hcm
    obtain ⟨cs, hcs⟩ : ∃ cs, cs = l.flatMap StoredR.cells := ⟨_, rfl⟩
    rw [← hcs] at hcell hone hl ⊢
    clear hc hcs
    go_enter Tryz.func121, Tryz.ntmps121
    go_wp2_with (at_builtin; refine wpList_append_own _ rfl (.tmp 5) (.tmp 6) 28 rfl w.heap.size 92 j0 (.agg #[.int .i64 0, .string ⟨#[]⟩, .string ⟨#[]⟩, .float .f64 0, .string ⟨#[]⟩, .int .i64 0, .int .i64 0, .int .i64 0]) 8 88 Tryz.underlying28 hj hy0 hy1 hy2 rfl (by decide) _ 0 [] rfl (World.ownsRow_made w #[] 0 (Nat.le_refl _) (Nat.zero_le _) rfl) ⟨b, off, sp⟩ l.length cap cs rfl hl hcell ?c2 ?c3 ?c4 ?c5 ?_)
    case c2 => exact hone
    case c3 => unfold maxLen; omega
    case c4 => omega
    case c5 => simp
    intro v' w4 hown' hgrow _
    have hown2 : w4.ownsRow w.heap.size 92 8 v' l.length cs := by simpa using hown'
    have ho4 : Only [] w w4 := ((Only.refl [] w).alloc _).grown hgrow (fun k hk => .inr (by cases hk; exact Nat.le_refl _))
    clear hgrow
    go_wp2
    go_ret
    exact ⟨_, rfl, hown2, ho4⟩
section
variable {a w : World} {R E : List Nat} {sb mb N : Nat} {s : MS}
end
/-! ## SameStored -/
def bitsOf (b : Nat) : Nat := if isNaN b then 9221120237041090560 else b
end Go.Proofs.YteinoiicnmemhaaGreatDoor
/- alive: a first call whose answer is fixed. -/
set_option linter.unusedVariables false
set_option linter.unusedSimpArgs false
namespace Go.Proofs.YteinoiicnmemhaaGreatDoor
open Go.RowKit Go Go.Sort
section
variable {a w : World} {R E : List Nat} {sb mb N : Nat} {s : MS}
end
end Go.Proofs.YteinoiicnmemhaaGreatDoor
/- Contracts: an event is the same as itself (view.Same, event.SameEvent, real.Same); EqualFunc of a list with itself. -/
set_option linter.unusedVariables false
set_option linter.unusedSimpArgs false
namespace Go.Proofs.YteinoiicnmemhaaGreatDoor
open Go.RowKit
set_option maxRecDepth 100000 in
theorem rbits_any (b : Nat) (w : World) : Calls Tryz.prog 140 #[.float .f64 b] w fun e w' => e = .returned (.int .u64 (canon b : Int)) ∧ w = w' := by
  have hf := fun b W => to_run b W
  go_enter Tryz.func140, Tryz.ntmps140
  go_wp2_with (go_at_call 100; refine (canon_any _ _).mono ?_; rintro e w' ⟨rfl, rfl⟩)
  go_ret
  exact ⟨rfl, rfl⟩
end Go.Proofs.YteinoiicnmemhaaGreatDoor
/- Contracts: SameStored. -/
set_option linter.unusedVariables false
set_option linter.unusedSimpArgs false
namespace Go.Proofs.YteinoiicnmemhaaGreatDoor
open Go.RowKit
set_option maxRecDepth 100000 in
theorem r1bits_any (b : Nat) (w : World) : Calls Tryz.prog 71 #[.float .f64 b] w fun e w' => e = .returned (.int .u64 (bitsOf b : Int)) ∧ w = w' := by
  have hf := fun W => to_run b W
  cases hb : isNaN b
  · have hr : Hid (bitsOf b = b) := by unfold Hid bitsOf; rw [hb]; rfl
    unfold isNaN at hb
    go_enter Tryz.func71, Tryz.ntmps71
    go_wp2
    go_ret
    exact ⟨by rw [hr.out]; rfl, rfl⟩
  · have hr : Hid (bitsOf b = 9221120237041090560) := by unfold Hid bitsOf; rw [hb]; rfl
    unfold isNaN at hb
    go_enter Tryz.func71, Tryz.ntmps71
    go_wp2
    go_ret
    exact ⟨by rw [hr.out]; rfl, rfl⟩
end Go.Proofs.YteinoiicnmemhaaGreatDoor
/- Contracts: SameStored of lists. -/
set_option linter.unusedVariables false
set_option linter.unusedSimpArgs false
namespace Go.Proofs.YteinoiicnmemhaaGreatDoor
open Go.RowKit
end Go.Proofs.YteinoiicnmemhaaGreatDoor
/- ModelHides, the plain law: what is hidden stays hidden, what is deleted stays deleted, events stay. -/
set_option linter.unusedVariables false
set_option linter.unusedSimpArgs false
namespace Go.Proofs.YteinoiicnmemhaaGreatDoor
open Go.RowKit
theorem young_mono (age : Int) : ∀ (ts : List Int) (n1 n2 : Int), n1 ≤ n2 → young age n1 ts ≤ young age n2 ts
  | [], _, _, _ => Int.le_refl _
  | t :: ts, n1, n2, h => by
    have hn : ∀ (l : List Int) (n : Int), 0 ≤ young age n l := fun l n => (young_bd age n l).1
    simp only [young]
    by_cases h1 : n1 - age < t
    · rw [if_pos h1]
      split
      · exact Int.le_refl _
      · have := hn ts n2
        omega
    · rw [if_neg h1, if_neg (by omega)]
      have := young_mono age ts n1 n2 h
      omega
theorem floorE_mono (m : MetaR) (f n1 n2 : Int) (ts : List Int) (h : n1 ≤ n2) : floorE m f n1 ts ≤ floorE m f n2 ts := by
  unfold floorE
  dsimp only
  have := young_mono m.maxAge ts n1 n2 h
  split
  · omega
  · exact Int.le_refl _
theorem floorE_ge (m : MetaR) (f now : Int) (ts : List Int) : min f ts.length ≤ floorE m f now ts := by
  unfold floorE
  dsimp only
  generalize young m.maxAge now ts = y
  split <;> split <;> omega
theorem times_congr {all all' : List StoredR} {x : StreamR} (hb : ∀ p ∈ x.places, 0 ≤ p ∧ p < all.length) (ha : ∃ more, all' = all ++ more) : times all' x = times all x := by
  obtain ⟨more, rfl⟩ := ha
  unfold times
  refine List.map_congr_left fun p hp => ?_
  obtain ⟨h0, h1⟩ := hb p hp
  obtain ⟨q, rfl⟩ := Int.eq_ofNat_of_zero_le h0
  have hq : q < all.length := by omega
  unfold timeAt
  rw [Int.toNat_natCast, List.getElem?_append_left hq]
end Go.Proofs.YteinoiicnmemhaaGreatDoor
/- The document's state (chronicleref15) as plain data, and when it is the same as the program's. No program is named. -/
set_option linter.unusedVariables false
set_option linter.unusedSimpArgs false
namespace Go.Proofs.YteinoiicnmemhaaGreatDoor
open Go.RowKit
structure DStr where
  name : ByteArray
  mt : MetaR
  kept : Int
  deleted : Bool
structure RS where
  l : List StoredR
  s : List DStr
  now : Int
  done : Int
def putD : List DStr → DStr → List DStr
  | [], x => [x]
  | y :: l, x => if y.name = x.name then x :: l else y :: putD l x
def firstAt (id : Int) : List StoredR → Int → Int
  | [], _ => -1
  | e :: l, k => if e.ev.id = id then k else firstAt id l (k + 1)
def idsAt : List EventR → List StoredR → Bool
  | [], _ => true
  | _ :: _, [] => false
  | e :: es, x :: xs => decide (x.ev.id = e.id) && idsAt es xs
def fitsD (e count : Int) : Bool := if e = -2 then true else if e = -1 then decide (count = 0) else if e = -4 then decide (0 < count) else decide (e = count - 1) && decide (0 < count)
namespace RS
def new : RS := ⟨[], [], 0, 0⟩
def get (r : RS) (n : ByteArray) : DStr := (r.s.find? (fun x => decide (x.name = n))).getD ⟨n, MetaR.zero, 0, false⟩
def put (r : RS) (x : DStr) : RS := { r with s := putD r.s x }
def of (r : RS) (n : ByteArray) : List StoredR := r.l.filter (fun e => decide (e.stream = n))
def floor (r : RS) (n : ByteArray) : Int := floorE (r.get n).mt (r.get n).kept r.now ((r.of n).map (·.time))
def keep (r : RS) (n : ByteArray) : RS := r.put { r.get n with kept := r.floor n }
def tick (r : RS) (t : Int) : RS := { r with now := max r.now t, done := r.done + 1 }
def goodAt (c : Cmd) (l : List StoredR) (v : Int) : Bool :=
  decide (v + c.events.length ≤ l.length) && (decide (c.expected = -2) || decide (c.expected = -4) || decide (c.expected = v - 1)) && idsAt c.events (l.drop v.toNat)
def wrongD (l : List StoredR) : Ans := ⟨22, l.length - 1, 0, false⟩
def act (r : RS) (c : Cmd) : Ans × RS :=
  let l := r.of c.stream
  let here : Ans := ⟨0, l.length, r.l.length, false⟩
  if c.kind = 2 then (here, ((r.keep c.stream).put { (r.keep c.stream).get c.stream with mt := c.mt }).keep c.stream)
  else if c.kind = 3 then
    if fitsD c.expected l.length = false then (wrongD l, r.keep c.stream)
    else (here, (r.put { r.get c.stream with deleted := true }).keep c.stream)
  else
    let v := firstAt ((c.events.head?).map (·.id) |>.getD 0) l 0
    if 0 ≤ v then (if goodAt c l v then ⟨0, v, ((l[(v + c.events.length - 1).toNat]?).map (·.position)).getD 0, true⟩ else wrongD l, r.keep c.stream)
    else if fitsD c.expected l.length = false then (wrongD l, r.keep c.stream)
    else (⟨0, l.length, r.l.length + c.events.length - 1, false⟩, { r with l := r.l ++ storedOf c.stream r.now c.events l.length r.l.length }.keep c.stream)
end RS
def RS.do (r : RS) (c : Cmd) : Ans × RS :=
  if c.check ≠ 0 then (⟨c.check, 0, 0, false⟩, r)
  else
    let r1 := r.tick c.time
    if 4 ≤ c.kind then (⟨0, 0, r.l.length, false⟩, r1)
    else if (r1.get c.stream).deleted then (⟨23, 0, 0, false⟩, r1.keep c.stream)
    else r1.act c
theorem get_name (r : RS) (n : ByteArray) : (r.get n).name = n := by
  unfold RS.get
  cases h : r.s.find? (fun x => decide (x.name = n)) with
  | none => rfl
  | some x => simpa using List.find?_some h
theorem putD_find (n : ByteArray) : ∀ (l : List DStr) (x : DStr), (putD l x).find? (fun y => decide (y.name = n)) = if x.name = n then some x else l.find? (fun y => decide (y.name = n))
  | [], x => by
    by_cases h : x.name = n
    · simp [putD, h]
    · simp [putD, h]
  | y :: l, x => by
    unfold putD
    by_cases h : y.name = x.name
    · rw [if_pos h, List.find?_cons, List.find?_cons]
      by_cases q : x.name = n
      · simp [q]
      · simp [q, h]
    · rw [if_neg h, List.find?_cons, List.find?_cons, putD_find n l x]
      by_cases q : x.name = n
      · have hy : ¬y.name = n := fun e => h (e.trans q.symm)
        simp [q, hy]
      · simp [q]
theorem get_put (r : RS) (x : DStr) (n : ByteArray) : (r.put x).get n = if x.name = n then x else r.get n := by
  unfold RS.put RS.get
  dsimp only
  rw [putD_find]
  split <;> rfl
theorem get_keep (r : RS) (m n : ByteArray) : (r.keep m).get n = if m = n then { r.get m with kept := r.floor m } else r.get n := by
  unfold RS.keep
  rw [get_put]
  dsimp only
  rw [get_name]
/-- What the two floors come to. -/
theorem floorE_mid {m : MetaR} {f k now : Int} {ts : List Int} (h1 : f ≤ k) (h2 : k ≤ floorE m f now ts) : floorE m k now ts = floorE m f now ts := by
  unfold floorE at *
  dsimp only at *
  generalize young m.maxAge now ts = y at *
  by_cases q1 : 0 < m.maxCount
  · by_cases q2 : 0 < m.maxAge
    · simp only [if_pos q1, if_pos q2] at *
      omega
    · simp only [if_pos q1, if_neg q2] at *
      omega
  · by_cases q2 : 0 < m.maxAge
    · simp only [if_neg q1, if_pos q2] at *
      omega
    · simp only [if_neg q1, if_neg q2] at *
      omega
theorem floorE_self (m : MetaR) (f now : Int) (ts : List Int) (hf : f ≤ ts.length) : floorE m (floorE m f now ts) now ts = floorE m f now ts :=
  floorE_mid (by have := floorE_ge m f now ts; omega) (Int.le_refl _)
theorem young_app (age now : Int) : ∀ (ts us : List Int), young age now ts ≤ young age now (ts ++ us)
  | [], us => (young_bd age now us).1
  | t :: ts, us => by
    simp only [List.cons_append, young]
    split
    · exact Int.le_refl _
    · have := young_app age now ts us
      omega
theorem floorE_app {m : MetaR} {f k now : Int} {ts us : List Int} (h0 : f ≤ ts.length) (h1 : f ≤ k) (h2 : k ≤ floorE m f now ts) : floorE m (floorE m f now ts) now (ts ++ us) = floorE m k now (ts ++ us) := by
  have hy := young_app m.maxAge now ts us
  unfold floorE at *
  dsimp only at *
  rw [List.length_append]
  generalize young m.maxAge now ts = y at *
  generalize young m.maxAge now (ts ++ us) = y' at *
  by_cases q1 : 0 < m.maxCount
  · by_cases q2 : 0 < m.maxAge
    · simp only [if_pos q1, if_pos q2] at *
      omega
    · simp only [if_pos q1, if_neg q2] at *
      omega
  · by_cases q2 : 0 < m.maxAge
    · simp only [if_neg q1, if_pos q2] at *
      omega
    · simp only [if_neg q1, if_neg q2] at *
      omega
/-- The document's state is the same as the program's. -/
structure Alike (s : MS) (r : RS) : Prop where
  l : r.l = s.all
  now : r.now = s.now
  done : r.done = s.done
  mt : ∀ n, (r.get n).mt = (s.find n).mt
  del : ∀ n, (r.get n).deleted = (s.find n).deleted
  kept : ∀ n, (s.find n).floor ≤ (r.get n).kept ∧ (r.get n).kept ≤ s.floorS n
section
variable {s : MS} {r : RS} {N : Nat}
theorem alike_new : Alike MS.new RS.new := ⟨rfl, rfl, rfl, fun _ => rfl, fun _ => rfl, fun n => ⟨Int.le_refl _, (floorS_bd _ n).1⟩⟩
theorem Alike.of (h : Alike s r) (h2 : s.Inv2) (n : ByteArray) : r.of n = (s.find n).places.map (evAt s.all) := by
  unfold RS.of
  rw [h.l, h2.1 n]
theorem times_evAt (all : List StoredR) (x : StreamR) : (x.places.map (evAt all)).map (·.time) = times all x := by
  unfold times
  rw [List.map_map]
  refine List.map_congr_left fun p _ => ?_
  show (evAt all p).time = timeAt all p
  unfold evAt timeAt
  cases all[p.toNat]? <;> rfl
theorem Alike.times (h : Alike s r) (h2 : s.Inv2) (n : ByteArray) : (r.of n).map (·.time) = times s.all (s.find n) := by rw [h.of h2, times_evAt]
theorem Alike.len (h : Alike s r) (h2 : s.Inv2) (n : ByteArray) : (r.of n).length = (s.find n).places.length := by rw [h.of h2, List.length_map]
theorem Alike.floor (h : Alike s r) (h2 : s.Inv2) (n : ByteArray) : r.floor n = s.floorS n := by
  unfold RS.floor MS.floorS MS.floorOf
  rw [h.times h2, h.mt, h.now]
  exact floorE_mid (h.kept n).1 (h.kept n).2
theorem Alike.tick (h : Alike s r) (t : Int) : Alike (s.tick t) (r.tick t) :=
  ⟨h.l, by show max r.now t = max s.now t; rw [h.now], by show r.done + 1 = s.done + 1; rw [h.done], h.mt, h.del, fun n => ⟨(h.kept n).1, Int.le_trans (h.kept n).2 (floorE_mono _ _ _ _ _ (by show s.now ≤ max s.now t; omega))⟩⟩
end
end Go.Proofs.YteinoiicnmemhaaGreatDoor
/- The document's state does what the program's does. No program is named. -/
set_option linter.unusedVariables false
set_option linter.unusedSimpArgs false
namespace Go.Proofs.YteinoiicnmemhaaGreatDoor
open Go.RowKit
section
variable {s s1 : MS} {r r1 R : RS} {N : Nat} {c : Cmd} {n : ByteArray} {A more : List StoredR} {y : StreamR} {X : DStr}
theorem floorOf_eq (s : MS) (x : StreamR) : s.floorOf x = floorE x.mt x.floor s.now (times s.all x) := rfl
theorem alike_put (h : Alike s1 r1) (hpl : ∀ m, ∀ p ∈ (s1.find m).places, 0 ≤ p ∧ p < s1.all.length) (hA : A = s1.all ++ more) (hR1 : R.l = A) (hR2 : R.now = r1.now) (hR3 : R.done = r1.done)
    (hget : ∀ m, R.get m = if n = m then X else r1.get m) (hm : X.mt = y.mt) (hd : X.deleted = y.deleted) (hk : X.kept = floorE y.mt y.floor s1.now (times A y)) (hf : y.floor ≤ (times A y).length) :
    Alike (({ s1 with all := A } : MS).keep n y) R := by
  have hfind : ∀ m, (({ s1 with all := A } : MS).keep n y).find m = if n = m then { y with floor := floorE y.mt y.floor s1.now (times A y) } else s1.find m := fun m => by
    unfold MS.keep
    rw [find_put]
    rfl
  have hnow : (({ s1 with all := A } : MS).keep n y).now = s1.now := rfl
  have hall : (({ s1 with all := A } : MS).keep n y).all = A := rfl
  have hfs : ∀ m, (({ s1 with all := A } : MS).keep n y).floorS m = if n = m then floorE y.mt (floorE y.mt y.floor s1.now (times A y)) s1.now (times A y) else s1.floorS m := fun m => by
    unfold MS.floorS
    rw [floorOf_eq, hfind, hnow, hall]
    by_cases e : n = m
    · rw [if_pos e, if_pos e]
      rfl
    · rw [if_neg e, if_neg e, times_congr (hpl m) ⟨more, hA⟩]
      rfl
  refine ⟨hR1, hR2.trans h.now, hR3.trans h.done, fun m => ?_, fun m => ?_, fun m => ?_⟩
  · rw [hget, hfind]
    split
    · exact hm
    · exact h.mt m
  · rw [hget, hfind]
    split
    · exact hd
    · exact h.del m
  · rw [hget, hfind, hfs]
    split
    · dsimp only
      rw [floorE_self _ _ _ _ hf, hk]
      exact ⟨Int.le_refl _, Int.le_refl _⟩
    · exact h.kept m
theorem get_putkeep (r : RS) {x : DStr} {n : ByteArray} (hx : x.name = n) (m : ByteArray) : ((r.put x).keep n).get m = if n = m then { x with kept := floorE x.mt x.kept r.now ((r.of n).map (·.time)) } else r.get m := by
  have h1 : (r.put x).get n = x := by rw [get_put, if_pos hx]
  have h2 : (r.put x).floor n = floorE x.mt x.kept r.now ((r.of n).map (·.time)) := by
    unfold RS.floor
    rw [h1]
    rfl
  rw [get_keep, h1, h2]
  by_cases e : n = m
  · rw [if_pos e, if_pos e]
  · rw [if_neg e, if_neg e, get_put, hx, if_neg e]
theorem same_all (s : MS) : ({ s with all := s.all } : MS) = s := rfl
theorem check_expects (h : c.check = 0) (hk : c.kind = 1 ∨ c.kind = 3) : expects c.expected = true := by
  unfold Cmd.check at h
  split at h
  · cases h
  · split at h
    · cases h
    · split at h
      · rename_i q
        exact absurd h q.2
      · split at h
        · cases h
        · rename_i q
          cases he : expects c.expected with
          | true => rfl
          | false => exact absurd ⟨hk, he⟩ q
theorem fits_expected {e : Int} (h : expects e = true) (k : Nat) : fitsD e k = expected e k := by
  unfold fitsD expected
  split
  · rfl
  · split
    · rfl
    · split
      · rfl
      · unfold expects within at h
        simp only [Bool.or_eq_true, Bool.and_eq_true, decide_eq_true_eq] at h
        by_cases q : e = (k : Int) - 1
        · rw [decide_eq_true q, decide_eq_true (by omega : (0 : Int) < k)]
          rfl
        · rw [decide_eq_false q]
          rfl
theorem idAt_ev (all : List StoredR) (p : Int) : idAt all p = (evAt all p).ev.id := by
  unfold idAt evAt
  cases all[p.toNat]? <;> rfl
theorem first_ev (all : List StoredR) (id : Int) : ∀ (ps : List Int) (k : Int), firstAt id (ps.map (evAt all)) k = firstOf all id ps k
  | [], _ => rfl
  | p :: ps, k => by
    simp only [List.map_cons, firstAt, firstOf, idAt_ev]
    split
    · rfl
    · exact first_ev all id ps (k + 1)
theorem ids_ev (all : List StoredR) : ∀ (es : List EventR) (ps : List Int), idsAt es (ps.map (evAt all)) = sameIds all es ps
  | [], ps => by cases ps <;> rfl
  | e :: es, [] => rfl
  | e :: es, p :: ps => by
    simp only [List.map_cons, idsAt, sameIds, idAt_ev]
    rw [ids_ev all es ps]
theorem again_good (h : Alike s r) (hi : s.Inv) (h2 : s.Inv2) (hl : 1 ≤ c.events.length) {v : Int} (hv : 0 ≤ v) (f : Int) :
    (if RS.goodAt c (r.of n) v then (⟨0, v, (((r.of n)[(v + c.events.length - 1).toNat]?).map (·.position)).getD 0, true⟩ : Ans) else RS.wrongD (r.of n)) = s.again c { s.find n with floor := f } v := by
  have hlen : (r.of n).length = (s.find n).places.length := h.len h2 n
  have hw : RS.wrongD (r.of n) = wrong { s.find n with floor := f } := by unfold RS.wrongD wrong; rw [hlen]
  have hids : idsAt c.events ((r.of n).drop v.toNat) = sameIds s.all c.events ((s.find n).places.drop v.toNat) := by rw [h.of h2, ← List.map_drop, ids_ev]
  unfold MS.again
  dsimp only
  by_cases h1 : v + c.events.length ≤ (s.find n).places.length
  · by_cases h3 : fitsAgain c v = true
    · have h4 : (decide (c.expected = -2) || decide (c.expected = -4) || decide (c.expected = v - 1)) = true := by
        unfold fitsAgain at h3
        simp only [Bool.or_eq_true, Bool.and_eq_true, decide_eq_true_eq] at h3 ⊢
        omega
      have hg : RS.goodAt c (r.of n) v = sameIds s.all c.events ((s.find n).places.drop v.toNat) := by
        unfold RS.goodAt
        rw [h4, hlen, decide_eq_true h1, hids]
        simp
      have hc : ¬(fitsAgain c v = false ∨ ((s.find n).places.length : Int) - v < c.events.length) := by rw [h3]; simp; omega
      rw [if_neg hc, hg]
      cases hs : sameIds s.all c.events ((s.find n).places.drop v.toNat) with
      | false => simp [hw]
      | true =>
        simp only [if_true]
        congr 1
        obtain ⟨k, hk⟩ : ∃ k : Nat, (v + c.events.length - 1).toNat = k := ⟨_, rfl⟩
        rw [hk, h.of h2, List.getElem?_map]
        have hkl : k < (s.find n).places.length := by omega
        rw [List.getElem?_eq_getElem hkl]
        simp only [Option.map_some, Option.getD_some]
        obtain ⟨p, hp, q1, q2, q3⟩ := hi.plc n k hkl
        rw [q1, evAt_nat hp]
        exact hi.pos p hp
    · have h4 : RS.goodAt c (r.of n) v = false := by
        unfold RS.goodAt
        unfold fitsAgain at h3
        simp only [Bool.or_eq_true, Bool.and_eq_true, decide_eq_true_eq] at h3
        have : (decide (c.expected = -2) || decide (c.expected = -4) || decide (c.expected = v - 1)) = false := by
          simp only [Bool.or_eq_false_iff, decide_eq_false_iff_not]
          omega
        rw [this]
        simp
      have hc : fitsAgain c v = false ∨ ((s.find n).places.length : Int) - v < c.events.length := .inl (by simpa using h3)
      rw [h4, if_pos hc, if_neg (by simp)]
      exact hw
  · have h4 : RS.goodAt c (r.of n) v = false := by
      unfold RS.goodAt
      rw [hlen, decide_eq_false h1]
      simp
    have hc : fitsAgain c v = false ∨ ((s.find n).places.length : Int) - v < c.events.length := .inr (by omega)
    rw [h4, if_pos hc, if_neg (by simp)]
    exact hw
/-- One command: the same answer, and the states stay alike. -/
theorem alike_do (h : Alike s r) (hi : s.Inv) (h2 : s.Inv2) (ho : s.Ok N) (c : Cmd) : (r.do c).1 = (s.do c).1 ∧ Alike (s.do c).2 (r.do c).2 := by
  unfold RS.do MS.do
  by_cases hk : c.check = 0
  · have hc : ¬ c.check ≠ 0 := by simp [hk]
    rw [if_neg hc, if_neg hc]
    dsimp only
    have hz := check_zero hk
    by_cases h4 : c.kind = 4 ∨ c.kind = 5
    · have h5 : 4 ≤ c.kind := by omega
      rw [if_pos h5, if_pos h4]
      exact ⟨by rw [h.l], h.tick c.time⟩
    · have h5 : ¬ 4 ≤ c.kind := by omega
      rw [if_neg h5, if_neg h4]
      have h1 := h.tick c.time
      have hi1 : (s.tick c.time).Inv := ⟨hi.pos, hi.plc, hi.ver⟩
      have h21 : (s.tick c.time).Inv2 := ⟨h2.1, h2.2⟩
      have hfi : ∀ m, ((s.tick c.time).find m).floor ≤ ((s.tick c.time).find m).places.length ∧ ∀ p ∈ ((s.tick c.time).find m).places, 0 ≤ p ∧ p < (s.tick c.time).all.length := fun m => ⟨(ho.find m).2.2.1, (ho.find m).2.2.2.2⟩
      obtain ⟨s1, hs1⟩ : ∃ s1, s.tick c.time = s1 := ⟨_, rfl⟩
      obtain ⟨r1, hr1⟩ : ∃ r1, r.tick c.time = r1 := ⟨_, rfl⟩
      rw [hs1] at h1 hi1 h21 hfi ⊢
      rw [hr1] at h1 ⊢
      clear hs1 hr1 h hi h2 ho
      obtain ⟨n, hn⟩ : ∃ n, c.stream = n := ⟨_, rfl⟩
      have hpl := fun m => (hfi m).2
      have hlen := h1.len h21 n
      have hfl := h1.floor h21 n
      have hbd := floorS_bd s1 n
      have hts := h1.times h21 n
      have htl : (times s1.all (s1.find n)).length = (s1.find n).places.length := times_len _ _
      rw [hn]
      rw [h1.del n]
      by_cases hdel : (s1.find n).deleted = true
      · rw [if_pos hdel, if_pos hdel]
        refine ⟨rfl, h1.l, h1.now, h1.done, fun m => ?_, fun m => ?_, fun m => ?_⟩
        · rw [get_keep]
          split
          · rename_i e; subst e; exact h1.mt _
          · exact h1.mt m
        · rw [get_keep]
          split
          · rename_i e; subst e; exact h1.del _
          · exact h1.del m
        · rw [get_keep]
          split
          · rename_i e
            subst e
            dsimp only
            rw [hfl]
            refine ⟨?_, Int.le_refl _⟩
            have h5 := floorE_ge (s1.find n).mt (s1.find n).floor s1.now (times s1.all (s1.find n))
            have h6 := (hfi n).1
            unfold MS.floorS
            rw [floorOf_eq]
            omega
          · exact h1.kept m
      · rw [if_neg hdel, if_neg hdel]
        have hfo : s1.floorOf (s1.find n) = s1.floorS n := rfl
        have hself : floorE (s1.find n).mt (s1.floorS n) s1.now (times s1.all (s1.find n)) = s1.floorS n := by
          rw [← hfo, floorOf_eq]
          exact floorE_self _ _ _ _ (by rw [htl]; exact (hfi n).1)
        -- the stream is kept as it is
        have hkeep : Alike (s1.keep n { s1.find n with floor := s1.floorS n }) (r1.keep n) := by
          rw [← same_all s1]
          refine alike_put (more := []) h1 hpl (by simp) h1.l rfl rfl (fun m => get_keep r1 n m) (h1.mt n) (h1.del n) ?_ ?_
          · show r1.floor n = floorE (s1.find n).mt (s1.floorS n) s1.now (times s1.all (s1.find n))
            rw [hfl, hself]
          · show s1.floorS n ≤ (times s1.all (s1.find n)).length
            rw [htl]
            exact hbd.2
        unfold RS.act MS.act
        dsimp only
        rw [hn]
        by_cases k2 : c.kind = 2
        · rw [if_pos k2, if_pos k2]
          refine ⟨by rw [hlen, h1.l], ?_⟩
          rw [← same_all s1]
          refine alike_put (more := []) (X := { r1.get n with mt := c.mt, kept := floorE c.mt (s1.floorS n) s1.now (times s1.all (s1.find n)) }) h1 hpl (by simp) h1.l rfl rfl (fun m => ?_) rfl (h1.del n) rfl ?_
          · have hq : (r1.keep n).get n = { r1.get n with kept := r1.floor n } := by rw [get_keep, if_pos rfl]
            refine (get_putkeep (r1.keep n) (x := { (r1.keep n).get n with mt := c.mt }) (n := n) (get_name _ _) m).trans ?_
            by_cases e : n = m
            · rw [if_pos e, if_pos e, hq]
              show ({ name := (r1.get n).name, mt := c.mt, kept := floorE c.mt (r1.floor n) r1.now ((r1.of n).map (·.time)), deleted := (r1.get n).deleted } : DStr) = _
              rw [hfl, hts, h1.now]
            · rw [if_neg e, if_neg e, get_keep, if_neg e]
          · show s1.floorS n ≤ (times s1.all (s1.find n)).length
            rw [htl]
            exact hbd.2
        · rw [if_neg k2, if_neg k2]
          have hw : RS.wrongD (r1.of n) = wrong { s1.find n with floor := s1.floorS n } := by unfold RS.wrongD wrong; rw [hlen]
          by_cases k3 : c.kind = 3
          · rw [if_pos k3, if_pos k3, hlen, fits_expected (check_expects hk (.inr k3))]
            cases hex : expected c.expected (s1.find n).places.length with
            | false =>
              simp only [if_true, Bool.false_eq_true, if_false]
              exact ⟨hw, hkeep⟩
            | true =>
              simp only [Bool.true_eq_false, if_false, if_true]
              refine ⟨by rw [h1.l], ?_⟩
              rw [← same_all s1]
              refine alike_put (more := []) (X := { r1.get n with deleted := true, kept := s1.floorS n }) h1 hpl (by simp) h1.l rfl rfl (fun m => ?_) (h1.mt n) rfl ?_ ?_
              · refine (get_putkeep r1 (x := { r1.get n with deleted := true }) (n := n) (get_name _ _) m).trans ?_
                by_cases e : n = m
                · rw [if_pos e, if_pos e]
                  show ({ name := (r1.get n).name, mt := (r1.get n).mt, kept := r1.floor n, deleted := true } : DStr) = _
                  rw [hfl]
                · rw [if_neg e, if_neg e]
              · show s1.floorS n = floorE (s1.find n).mt (s1.floorS n) s1.now (times s1.all (s1.find n))
                rw [hself]
              · show s1.floorS n ≤ (times s1.all (s1.find n)).length
                rw [htl]
                exact hbd.2
          · rw [if_neg k3, if_neg k3]
            have k1 : c.kind = 1 := by omega
            have hel := (hz.2.2.2.2 k1).1
            have hfirst : firstAt (((c.events.head?).map (·.id)).getD 0) (r1.of n) 0 = s1.first { s1.find n with floor := s1.floorS n } (((c.events.head?).map (·.id)).getD 0) := by
              rw [h1.of h21, first_ev]
              rfl
            rw [hfirst]
            obtain ⟨v, hv⟩ : ∃ v, s1.first { s1.find n with floor := s1.floorS n } (((c.events.head?).map (·.id)).getD 0) = v := ⟨_, rfl⟩
            have hv' : s1.first { s1.find n with floor := s1.floorOf (s1.find n) } (((c.events.head?).map (·.id)).getD 0) = v := hv
            rw [hv, hv']
            by_cases hv0 : 0 ≤ v
            · rw [if_pos hv0, if_pos hv0]
              exact ⟨again_good h1 hi1 h21 hel hv0 _, hkeep⟩
            · rw [if_neg hv0, if_neg hv0, hlen, fits_expected (check_expects hk (.inl k1))]
              cases hex : expected c.expected (s1.find n).places.length with
              | false =>
                simp only [if_true, Bool.false_eq_true, if_false]
                exact ⟨hw, hkeep⟩
              | true =>
                simp only [Bool.true_eq_false, if_false, if_true]
                unfold MS.append
                dsimp only
                rw [hn, h1.l, h1.now]
                refine ⟨rfl, ?_⟩
                obtain ⟨st, hst⟩ : ∃ st, storedOf n s1.now c.events (s1.find n).places.length s1.all.length = st := ⟨_, rfl⟩
                have hsl : st.length = c.events.length := by rw [← hst, storedOf_len]
                have hss : ∀ e ∈ st, e.stream = n := by rw [← hst]; exact storedOf_stream _ _ _ _ _
                rw [hst]
                -- the times behind it
                have hof : ({ r1 with l := s1.all ++ st, now := s1.now } : RS).of n = (s1.find n).places.map (evAt s1.all) ++ st := by
                  show (s1.all ++ st).filter _ = _
                  rw [List.filter_append, h21.1 n]
                  congr 1
                  exact List.filter_eq_self.2 (fun e he => by simpa using hss e he)
                have htimes : times (s1.all ++ st) { s1.find n with places := (s1.find n).places ++ rangeFrom c.events.length s1.all.length, floor := s1.floorOf (s1.find n) } = times s1.all (s1.find n) ++ st.map (·.time) := by
                  rw [← times_evAt, ← times_evAt]
                  dsimp only
                  rw [List.map_append, List.map_append, ← hsl, range_evAt]
                  congr 2
                  refine List.map_congr_left fun p hp => ?_
                  obtain ⟨q0, q1⟩ := hpl n p hp
                  obtain ⟨q, rfl⟩ := Int.eq_ofNat_of_zero_le q0
                  exact evAt_append (by omega)
                have happ := floorE_app (m := (s1.find n).mt) (f := (s1.find n).floor) (k := (r1.get n).kept) (now := s1.now) (ts := times s1.all (s1.find n)) (us := st.map (·.time)) (by rw [htl]; exact (hfi n).1) (h1.kept n).1 (h1.kept n).2
                refine alike_put (more := st) (A := s1.all ++ st) (X := { r1.get n with kept := floorE (s1.find n).mt (r1.get n).kept s1.now (times s1.all (s1.find n) ++ st.map (·.time)) }) h1 hpl rfl rfl h1.now.symm rfl (fun m => ?_) (h1.mt n) (h1.del n) ?_ ?_
                · rw [get_keep]
                  by_cases e : n = m
                  · rw [if_pos e, if_pos e]
                    show ({ (r1.get n) with kept := _ } : DStr) = _
                    congr 1
                    unfold RS.floor
                    rw [hof, List.map_append, times_evAt]
                    have hg : ({ r1 with l := s1.all ++ st, now := s1.now } : RS).get n = r1.get n := rfl
                    rw [hg, h1.mt n]
                  · rw [if_neg e, if_neg e]
                    rfl
                · rw [htimes]
                  exact happ.symm
                · rw [htimes, List.length_append, htl]
                  have : s1.floorOf (s1.find n) ≤ (s1.find n).places.length := hbd.2
                  show s1.floorOf (s1.find n) ≤ _
                  omega
  · have hc : c.check ≠ 0 := hk
    rw [if_pos hc, if_pos hc]
    exact ⟨rfl, h⟩
end
end Go.Proofs.YteinoiicnmemhaaGreatDoor
/- Contracts: numbers are laid into bytes (codec.Out). -/
set_option linter.unusedVariables false
set_option linter.unusedSimpArgs false
namespace Go.Proofs.YteinoiicnmemhaaGreatDoor.J
open Go Go.RowKit Go.Sort
def bytesV (l : List UInt8) : List Value := l.map fun b => .int .u8 (b.toNat : Int)
/-- An Out in memory that is new since a: its bytes, its error. -/
structure OutAt (a w : World) (ob : Nat) (l : List UInt8) (e : Int) : Prop where
  only : Only [] a w
  ab : a.heap.size ≤ ob
  st : ∃ A cap, Blk w ob 267 #[.slice A l.length cap, .int .i64 e] ∧ w.ownsRow a.heap.size 5 1 (.slice A l.length cap) l.length (bytesV l)
theorem bytesV_app (l m : List UInt8) : bytesV (l ++ m) = bytesV l ++ bytesV m := List.map_append
theorem bytesV_one (l : List UInt8) : ∀ u ∈ bytesV l, u.oneCell' = true := by
  intro u hu
  obtain ⟨b, _, rfl⟩ := List.mem_map.1 hu
  rfl
theorem beN_get (n v : Nat) {k : Nat} (h : k < n) : (beN n v)[k]? = some (UInt8.ofNat (v / 256 ^ (n - 1 - k))) := by
  induction n generalizing k with
  | zero => omega
  | succ n ih =>
    unfold beN
    cases k with
    | zero => simp
    | succ k =>
      rw [List.getElem?_cons_succ, ih (by omega)]
      congr 4
      omega
theorem beN_take (n v : Nat) {k : Nat} (h : k < n) : (beN n v).take (k + 1) = (beN n v).take k ++ [UInt8.ofNat (v / 256 ^ (n - 1 - k))] := by
  rw [List.take_add_one, beN_get n v h]
  rfl
theorem app1b {W : World} {base : Nat} {v : Value} {l : List UInt8} (hown : W.ownsRow base 5 1 v l.length (bytesV l)) (hb : base ≤ W.heap.size) (hl : l.length ≤ 10000000) (x : UInt8) :
    ∃ A cap w', (Builtin.append_ #[251, 251] 251 #[v, .slice (some ⟨W.heap.size, 0, none⟩) 1 1]).run Tryz.prog (W.alloc (.cells #[.int .u8 (x.toNat : Int)] 5)).drew = .ok (.slice A (l.length + 1) cap) w' ∧ w'.ownsRow base 5 1 (.slice A (l ++ [x]).length cap) (l ++ [x]).length (bytesV (l ++ [x])) ∧ Only v.ownBlock.toList (W.alloc (.cells #[.int .u8 (x.toNat : Int)] 5)).drew w' := by
  have hO : Only [] W (W.alloc (.cells #[.int .u8 (x.toNat : Int)] 5)).drew := ((Only.refl [] W).alloc _).drew
  obtain ⟨A, cap, w', h1, h2, h3, _⟩ := run_app (P := Tryz.prog) (w := (W.alloc (.cells #[.int .u8 (x.toNat : Int)] 5)).drew) 251 251 base 5 (.int .u8 0) 1 1 Tryz.underlying251 infoU8 rfl (by decide) (own_only hown hO (by simp)) ((slc_new1 (w := W) (e := 5) (size := 1) (cs := bytesV [x]) rfl).only0 ((Only.refl [] _).drew)) (bytesV_one [x]) (by omega) (by unfold maxLen; omega) (Nat.le_trans hb hO.size)
  refine ⟨A, cap, w', h1, ?_, h3⟩
  rw [List.length_append, bytesV_app]
  exact h2
set_option maxRecDepth 100000 in
set_option maxHeartbeats 2000000 in
theorem high_any {a w : World} {ob : Nat} {l : List UInt8} {e : Int} (h : OutAt a w ob l e) (hl : l.length ≤ 1000000) (v n : Nat) (hv : v < 18446744073709551616) (hn : n ≤ 8) :
    Calls Tryz.prog 220 #[.pointer (some ⟨ob, 0, none⟩), .int .u64 v, .int .i64 n] w fun e' w' => e' = .returned (.pointer (some ⟨ob, 0, none⟩)) ∧ OutAt a w' ob (l ++ beN n v) e := by
  have e0 := IntWalk.i64_in ((n : Int) - 1) ⟨by omega, by omega⟩
  go_enter Tryz.func220, Tryz.ntmps220
  go_wp2
  go_loopw [7] (fun i wr => ∃ j : Nat, j ≤ n ∧ i = .int .i64 ((j : Int) - 1) ∧ OutAt a wr ob (l ++ (beN n v).take (n - j)) e) (fun i _ => (intOf i + 1).toNat)
  case atStart => exact ⟨n, Nat.le_refl _, rfl, by simpa using h⟩
  case round =>
    obtain ⟨j, hj, rfl, hA⟩ := hrel
    by_cases hj0 : 0 < j
    · have hd : decide ((j : Int) - 1 ≥ 0) = true := decide_eq_true (by omega)
      obtain ⟨A, cap, hB, hown⟩ := hA.st
      have hnx := beN_take n v (k := n - j) (by omega)
      have e1 := IntWalk.i64_in (8 * ((j : Int) - 1)) ⟨by omega, by omega⟩
      have e2 := IntWalk.i64_in ((j : Int) - 1 - 1) ⟨by omega, by omega⟩
      obtain ⟨M, hM⟩ : ∃ M, l ++ (beN n v).take (n - j) = M := ⟨_, rfl⟩
      rw [hM] at hB hown
      have hML : M.length ≤ 1000008 := by rw [← hM, List.length_append, List.length_take, beN_len]; omega
      obtain ⟨_, _, e3, hnc, hcm⟩ := own_form hown
      cases e3
      unfold maxLen at hcm
      obtain ⟨So, hSo⟩ : ∃ So, So = (Value.slice A M.length cap).ownBlock.toList := ⟨_, rfl⟩
      have hno : ob ∉ So := fun q => by
        rw [hSo] at q
        obtain ⟨cur, hcur⟩ := own_type hown (by simpa using q)
        exact (hB.other hcur (by decide)) rfl
      have k0 := Within.cell (S := So) (hB.cell 0) hno
      go_wp2_with fail
      refine wp_region_in So [0, 1, 2, 3, 4, 5, 6, 7, 8, 9] [10, 11] [12, 13, 14] (by kernel_rfl) (by kernel_rfl) (by intro c d u a w h; cases d <;> exact h) ?_
      show wpQuiet _ _ _ _ [_, _, _, _, _, _, _, _, _, _] _
      repeat (go_big_quiet_step (fail))
      refine wpQuiet_nil ?_
      clear k0
      obtain ⟨x, hx⟩ : ∃ x : Int, (v : Int) / 2 ^ (8 * (j - 1)) % 256 = x := ⟨_, rfl⟩
      have hxb : x = ((UInt8.ofNat (v / 256 ^ (n - 1 - (n - j)))).toNat : Int) := by
        have e4 : n - 1 - (n - j) = j - 1 := by omega
        have e5 : (256 : Nat) ^ (j - 1) = 2 ^ (8 * (j - 1)) := by rw [Nat.pow_mul]
        rw [← hx, e4, e5, UInt8.toNat_ofNat']
        have e6 : ((v : Int) / 2 ^ (8 * (j - 1))) = ((v / 2 ^ (8 * (j - 1)) : Nat) : Int) := by
          rw [Int.natCast_ediv, Int.natCast_pow]
          rfl
        rw [e6]
        omega
      rw [hx]
      obtain ⟨A4, c4, w4, hr4, hown4, hO4⟩ := app1b hown hA.only.size (by omega) (UInt8.ofNat (v / 256 ^ (n - 1 - (n - j))))
      rw [← hxb] at hr4 hO4
      have hO3 : Only So wr (wr.alloc (.cells #[.int .u8 x] 5)).drew := ((Only.refl So wr).alloc _).drew
      rw [← hSo] at hO4
      have hB4 := hO4.blk (hO3.blk hB hno) hno
      have hf4 := hB4.free 0
      have hc4 := hB4.cell 0
      have hset := hB4.set 0 (.slice A4 (M ++ [UInt8.ofNat (v / 256 ^ (n - 1 - (n - j)))]).length c4)
      have hge : ∀ g ∈ So, a.heap.size ≤ g := fun g hg => by
        rw [hSo] at hg
        exact (World.ownsRow.lt hown g (by simpa using hg)).1
      have hon4 : Only [] a w4 := ((hA.only.alloc (.cells #[.int .u8 x] 5)).drew).step hO4 (fun g hg => .inr (hge g hg))
      have hown5 := own_only hown4 ((Only.refl [ob] w4).setCell (p := ⟨ob, 0, none⟩) (.inl (by simp)) (.slice A4 (M ++ [UInt8.ofNat (v / 256 ^ (n - 1 - (n - j)))]).length c4)) (fun g hg q => by
        rw [List.mem_singleton] at q
        subst q
        obtain ⟨cur, hcur⟩ := own_type hown4 hg
        exact (hB4.other hcur (by decide)) rfl)
      have hML2 : (M ++ [UInt8.ofNat (v / 256 ^ (n - 1 - (n - j)))]).length = M.length + 1 := by simp
      rw [hML2] at hset hown5
      have hnew : OutAt a (w4.setCell ⟨ob, 0, none⟩ (.slice A4 (M.length + 1) c4)) ob (M ++ [UInt8.ofNat (v / 256 ^ (n - 1 - (n - j)))]) e :=
        ⟨hon4.setCell (.inr hA.ab) _, hA.ab, A4, c4, by rw [hML2]; exact hset, by rw [hML2]; exact hown5⟩
      have hnew2 : OutAt a (w4.setCell ⟨ob, 0, none⟩ (.slice A4 (M.length + 1) c4)) ob (l ++ (beN n v).take (n - (j - 1))) e := by
        have e7 : n - (j - 1) = n - j + 1 := by omega
        rw [e7, hnx, ← List.append_assoc, hM]
        exact hnew
      have HR4 := Lib.hid hr4
      have HN := Lib.hid hnew2
      have HO := Lib.hid (hO3.trans hO4)
      clear hxb hx hnew hnew2 hset hown5 hown4 hO4 hr4 hB hown hA hB4 hon4 hge hML2 hnx hM
      show wpList _ _ _ [_] _ _
      go_wp2_with fail
      refine check_of (S := So) hO3 ?_
      show wpList _ _ _ [_] _ _
      go_wp2_with (at_builtin; refine Lib.wpList_append_run _ rfl (.tmp 18) (.tmp 24) 251 251 rfl _ _ rfl rfl _ _ HR4.out ?_)
      refine check_of (S := So) HO.out ?_
      show wpList _ _ _ [_, _, _] _ _
      go_wp2
      exact ⟨⟨j - 1, by omega, by simp; omega, HN.out⟩, by simp [intOf]; omega⟩
    · have hd : decide ((j : Int) - 1 ≥ 0) = false := decide_eq_false (by omega)
      have : j = 0 := by omega
      have hfin : OutAt a wr ob (l ++ beN n v) e := by
        have h1 := hA
        rw [this, Nat.sub_zero, List.take_of_length_le (by rw [beN_len]; omega)] at h1
        exact h1
      clear hA this
      go_wp2
      go_ret
      exact ⟨rfl, hfin⟩
set_option maxRecDepth 100000 in
theorem ofail_any {a w : World} {ob : Nat} {l : List UInt8} (h : OutAt a w ob l 0) :
    Calls Tryz.prog 219 #[.pointer (some ⟨ob, 0, none⟩), .bool false, .int .i64 1] w fun e' w' => e' = .returned (.bool false) ∧ w = w' := by
  obtain ⟨A, cap, hB, _⟩ := h.st
  have c1 := hB.cell 1
  clear h hB
  go_enter Tryz.func219, Tryz.ntmps219
  go_wp2
  go_ret
  exact ⟨rfl, rfl⟩
set_option maxRecDepth 100000 in
theorem osmall4_any {a w : World} {ob : Nat} {l : List UInt8} (h : OutAt a w ob l 0) (hl : l.length ≤ 1000000) (v : Nat) (hv : v < 4294967296) :
    Calls Tryz.prog 217 #[.pointer (some ⟨ob, 0, none⟩), .int .i64 v, .int .i64 4] w fun e' w' => e' = .returned (.pointer (some ⟨ob, 0, none⟩)) ∧ OutAt a w' ob (l ++ beN 4 v) 0 := by
  have hh := high_any h hl v 4 (by omega) (by omega)
  have hh : Calls Tryz.prog 220 #[.pointer (some ⟨ob, 0, none⟩), .int .u64 v, .int .i64 4] w fun e' w' => e' = .returned (.pointer (some ⟨ob, 0, none⟩)) ∧ OutAt a w' ob (l ++ beN 4 v) 0 := hh
  have HH := Lib.hid hh
  have HF := Lib.hid (ofail_any h)
  have hsh : (v : Int) / 4294967296 = 0 := by omega
  have hd : decide ((v : Int) < 0) = false := decide_eq_false (by omega)
  clear h hh
  go_enter Tryz.func217, Tryz.ntmps217
  go_wp2_with (first
    | (go_at_call 219; refine HF.out.mono ?_; rintro e1 w1 ⟨rfl, rfl⟩)
    | (go_at_call 220; refine HH.out.mono ?_; rintro e1 w1 ⟨rfl, h1⟩))
  go_ret
  exact ⟨rfl, h1⟩
set_option maxRecDepth 100000 in
theorem ou32_any {a w : World} {ob : Nat} {l : List UInt8} (h : OutAt a w ob l 0) (hl : l.length ≤ 1000000) (v : Nat) (hv : v < 4294967296) :
    Calls Tryz.prog 238 #[.pointer (some ⟨ob, 0, none⟩), .int .i64 v] w fun e' w' => e' = .returned (.pointer (some ⟨ob, 0, none⟩)) ∧ OutAt a w' ob (l ++ beN 4 v) 0 := by
  have HH := Lib.hid (osmall4_any h hl v hv)
  clear h
  go_enter Tryz.func238, Tryz.ntmps238
  go_wp2_with (go_at_call 217; refine HH.out.mono ?_; rintro e1 w1 ⟨rfl, h1⟩)
  go_ret
  exact ⟨rfl, h1⟩
theorem strOf_bytes (l : List UInt8) : strOfNums (l.map fun b => (b.toNat : Int)) = baL l := by
  unfold strOfNums baL
  rw [List.map_map]
  congr 1
  congr 1
  conv => rhs; rw [← List.map_id l]
  apply List.map_congr_left
  intro b _
  simp
theorem conv_bytes {w : World} {v : Value} {l : List UInt8} (h : Slc w 1 v l.length (bytesV l)) : (convert 251 9 v).run Tryz.prog w = .ok (.string (baL l)) w := by
  obtain ⟨A, cap, rfl, hl, hc1, hc2, hc⟩ := h
  have hu8 : Tryz.prog.underlying 5 = some (.int .u8) := Tryz.underlying5
  by_cases h0 : l.length = 0
  · have : l = [] := List.length_eq_zero_iff.1 h0
    subst this
    cases A with
    | none => exact run_convert_bytes_nil w 251 5 Tryz.underlying251 hu8 0 cap 9 Tryz.underlying9
    | some p =>
      obtain ⟨b, off, spot⟩ := p
      show (convert 251 9 (.slice (some ⟨b, off, spot⟩) 0 cap)).run Tryz.prog w = _
      rw [run_convert_bytes_string w 251 9 5 _ 0 cap Tryz.underlying251 hu8 Tryz.underlying9]
      simp [Conv.bytesToString, loadCells, loadCellsFrom]
      rfl
  · obtain ⟨b, off, rfl, hb, hcell⟩ := hc (by omega)
    rw [← strOf_bytes]
    refine run_convert_bytes_arg w 251 5 Tryz.underlying251 hu8 b off l.length cap _ (by simp) (fun i hi => ?_) 9 Tryz.underlying9
    rw [hcell i (by rw [hl]; omega)]
    simp [bytesV, hi]
set_option maxRecDepth 100000 in
theorem odone_any {a w : World} {ob : Nat} {l : List UInt8} (h : OutAt a w ob l 0) (hl : l.length ≤ 1000000) :
    Calls Tryz.prog 196 #[.pointer (some ⟨ob, 0, none⟩)] w fun e' w' => e' = .returned (.tuple #[.string (baL l), .int .i64 0]) ∧ w = w' := by
  obtain ⟨A, cap, hB, hown⟩ := h.st
  have c0 := hB.cell 0
  have c1 := hB.cell 1
  have HC := conv_bytes (Slc.of_own hown).1
  clear h hB hown
  go_enter Tryz.func196, Tryz.ntmps196
  go_wp2
  go_ret2
  exact ⟨rfl, rfl⟩
end Go.Proofs.YteinoiicnmemhaaGreatDoor.J
/- Contracts: two stored events, or two lists of them, are the same or not (view.Same, event.SameEvent, real.Same, EqualFunc), for any two. -/
set_option linter.unusedVariables false
set_option linter.unusedSimpArgs false
namespace Go.Proofs.YteinoiicnmemhaaGreatDoor
open Go.RowKit
def sameFQ (a b : Nat) : Bool := decide (canon a = canon b)
def sameEQ (x y : EventR) : Bool := decide (x.id = y.id) && decide (x.type.toList = y.type.toList) && decide (x.data.toList = y.data.toList) && sameFQ x.value y.value
def sameSQ (x y : StoredR) : Bool := sameEQ x.ev y.ev && decide (x.stream.toList = y.stream.toList) && decide (x.version = y.version) && decide (x.position = y.position) && decide (x.time = y.time)
def sameLQ : List StoredR → List StoredR → Bool
  | [], [] => true
  | x :: l, y :: m => sameSQ x y && sameLQ l m
  | _, _ => false
theorem dec_comm {α : Type} [DecidableEq α] (x y : α) : decide (x = y) = decide (y = x) := by
  by_cases h : x = y
  · subst h; rfl
  · rw [decide_eq_false h, decide_eq_false (fun q => h q.symm)]
theorem sameFQ_comm (a b : Nat) : sameFQ a b = sameFQ b a := dec_comm _ _
theorem sameEQ_comm (x y : EventR) : sameEQ x y = sameEQ y x := by
  unfold sameEQ
  rw [dec_comm x.id, dec_comm x.type.toList, dec_comm x.data.toList, sameFQ_comm]
theorem sameSQ_comm (x y : StoredR) : sameSQ x y = sameSQ y x := by
  unfold sameSQ
  rw [sameEQ_comm, dec_comm x.stream.toList, dec_comm x.version, dec_comm x.position, dec_comm x.time]
theorem sameLQ_comm : ∀ (l m : List StoredR), sameLQ l m = sameLQ m l
  | [], [] => rfl
  | [], _ :: _ => rfl
  | _ :: _, [] => rfl
  | x :: l, y :: m => by
    show (sameSQ x y && sameLQ l m) = (sameSQ y x && sameLQ m l)
    rw [sameSQ_comm, sameLQ_comm l m]
theorem sameSQ_refl (x : StoredR) : sameSQ x x = true := by simp [sameSQ, sameEQ, sameFQ]
theorem sameLQ_refl : ∀ l : List StoredR, sameLQ l l = true
  | [] => rfl
  | x :: l => by show (sameSQ x x && sameLQ l l) = true; rw [sameSQ_refl, sameLQ_refl l]; rfl
set_option maxRecDepth 100000 in
theorem rsameQ_any (a b : Nat) (w : World) : Calls Tryz.prog 104 #[.float .f64 a, .float .f64 b] w fun e w' => e = .returned (.bool (sameFQ a b)) ∧ w = w' := by
  have HB := Lib.hid (fun (b : Nat) W => rbits_any b W)
  by_cases h : canon a = canon b
  · have hb : ((canon a : Int) == (canon b : Int)) = true := by rw [h]; simp
    have e : sameFQ a b = true := decide_eq_true h
    rw [e]
    clear e h
    go_enter Tryz.func104, Tryz.ntmps104
    go_wp2_with (go_at_call 140; refine (HB.out _ _).mono ?_; rintro e w' ⟨rfl, rfl⟩)
    go_ret
    exact ⟨ret_b (by simp), rfl⟩
  · have hb : ((canon a : Int) == (canon b : Int)) = false := by rw [beq_eq_false_iff_ne]; omega
    have e : sameFQ a b = false := decide_eq_false h
    rw [e]
    clear e h
    go_enter Tryz.func104, Tryz.ntmps104
    go_wp2_with (go_at_call 140; refine (HB.out _ _).mono ?_; rintro e w' ⟨rfl, rfl⟩)
    go_ret
    exact ⟨ret_b (by simp), rfl⟩
set_option maxRecDepth 100000 in
set_option maxHeartbeats 2000000 in
theorem esameQ_any (x y : EventR) (w : World) : Calls Tryz.prog 72 #[.agg #[.int .i64 x.id, .string x.type, .string x.data, .float .f64 x.value], .agg #[.int .i64 y.id, .string y.type, .string y.data, .float .f64 y.value]] w fun e w' => e = .returned (.bool (sameEQ x y)) ∧ Only [] w w' := by
  have HS := Lib.hid (fun W => rsameQ_any x.value y.value W)
  by_cases h1 : x.id = y.id
  · by_cases h2 : x.type.toList = y.type.toList
    · have b2 : (x.type.toList == y.type.toList) = true := by rw [beq_iff_eq]; exact h2
      by_cases h3 : x.data.toList = y.data.toList
      · have b3 : (x.data.toList == y.data.toList) = true := by rw [beq_iff_eq]; exact h3
        go_enter Tryz.func72, Tryz.ntmps72
        go_wp2_with (go_at_call 104; refine (HS.out _).mono ?_; rintro e w' ⟨rfl, rfl⟩)
        go_ret
        exact ⟨ret_b (by simp [sameEQ, h1, h2, h3]), ((Only.refl [] w).alloc _).alloc _⟩
      · have b3 : (x.data.toList == y.data.toList) = false := by rw [beq_eq_false_iff_ne]; exact h3
        go_enter Tryz.func72, Tryz.ntmps72
        go_wp2_with (go_at_call 104; refine (HS.out _).mono ?_; rintro e w' ⟨rfl, rfl⟩)
        go_ret
        exact ⟨ret_b (by simp [sameEQ, h1, h2, h3]), ((Only.refl [] w).alloc _).alloc _⟩
    · have b2 : (x.type.toList == y.type.toList) = false := by rw [beq_eq_false_iff_ne]; exact h2
      go_enter Tryz.func72, Tryz.ntmps72
      go_wp2_with (go_at_call 104; refine (HS.out _).mono ?_; rintro e w' ⟨rfl, rfl⟩)
      go_ret
      exact ⟨ret_b (by simp [sameEQ, h1, h2]), ((Only.refl [] w).alloc _).alloc _⟩
  · go_enter Tryz.func72, Tryz.ntmps72
    go_wp2_with (go_at_call 104; refine (HS.out _).mono ?_; rintro e w' ⟨rfl, rfl⟩)
    go_ret
    exact ⟨ret_b (by simp [sameEQ, h1]), ((Only.refl [] w).alloc _).alloc _⟩
set_option maxRecDepth 100000 in
set_option maxHeartbeats 2000000 in
theorem vsameQ_any (x y : StoredR) (w : World) : Calls Tryz.prog 33 #[.agg #[.int .i64 x.ev.id, .string x.ev.type, .string x.ev.data, .float .f64 x.ev.value, .string x.stream, .int .i64 x.version, .int .i64 x.position, .int .i64 x.time], .agg #[.int .i64 y.ev.id, .string y.ev.type, .string y.ev.data, .float .f64 y.ev.value, .string y.stream, .int .i64 y.version, .int .i64 y.position, .int .i64 y.time]] w fun e w' => e = .returned (.bool (sameSQ x y)) ∧ Only [] w w' := by
  have HE := Lib.hid (fun W => esameQ_any x.ev y.ev W)
  have kB : ∀ cs t o1, Blk ((w.alloc o1).alloc (.cells cs t)) (w.heap.size + 1) t cs := fun cs t o1 => by
    have := Blk.new (w.alloc o1) t cs
    rw [World.size_alloc] at this
    exact this
  cases h1 : sameEQ x.ev y.ev with
  | false =>
    rw [h1] at HE
    go_enter Tryz.func33, Tryz.ntmps33
    go_wp2_with (go_at_call 72; refine (HE.out _).mono ?_; rintro e w1 ⟨rfl, ho1⟩
                 have ha := fun i => (ho1.blk (((Only.refl [] _).alloc _).blk (Blk.new w 92 _) (by simp)) (by simp)).cell i
                 have hb := fun i => (ho1.blk (kB _ _ _) (by simp)).cell i)
    go_ret
    exact ⟨ret_b (by simp [sameSQ, h1]), (((Only.refl [] w).alloc _).alloc _).trans ho1⟩
  | true =>
    rw [h1] at HE
    by_cases h2 : x.stream.toList = y.stream.toList
    · have b2 : (x.stream.toList == y.stream.toList) = true := by rw [beq_iff_eq]; exact h2
      by_cases h3 : x.version = y.version
      · by_cases h4 : x.position = y.position
        · by_cases h5 : x.time = y.time
          · go_enter Tryz.func33, Tryz.ntmps33
            go_wp2_with (go_at_call 72; refine (HE.out _).mono ?_; rintro e w1 ⟨rfl, ho1⟩
                         have ha := fun i => (ho1.blk (((Only.refl [] _).alloc _).blk (Blk.new w 92 _) (by simp)) (by simp)).cell i
                         have hb := fun i => (ho1.blk (kB _ _ _) (by simp)).cell i)
            go_ret
            exact ⟨ret_b (by simp [sameSQ, h1, h2, h3, h4, h5]), (((Only.refl [] w).alloc _).alloc _).trans ho1⟩
          · have b5 : (x.time == y.time) = false := by rw [beq_eq_false_iff_ne]; exact h5
            go_enter Tryz.func33, Tryz.ntmps33
            go_wp2_with (go_at_call 72; refine (HE.out _).mono ?_; rintro e w1 ⟨rfl, ho1⟩
                         have ha := fun i => (ho1.blk (((Only.refl [] _).alloc _).blk (Blk.new w 92 _) (by simp)) (by simp)).cell i
                         have hb := fun i => (ho1.blk (kB _ _ _) (by simp)).cell i)
            go_ret
            exact ⟨ret_b (by simp [sameSQ, h1, h2, h3, h4, h5]), (((Only.refl [] w).alloc _).alloc _).trans ho1⟩
        · have b5 : (x.position == y.position) = false := by rw [beq_eq_false_iff_ne]; exact h4
          go_enter Tryz.func33, Tryz.ntmps33
          go_wp2_with (go_at_call 72; refine (HE.out _).mono ?_; rintro e w1 ⟨rfl, ho1⟩
                       have ha := fun i => (ho1.blk (((Only.refl [] _).alloc _).blk (Blk.new w 92 _) (by simp)) (by simp)).cell i
                       have hb := fun i => (ho1.blk (kB _ _ _) (by simp)).cell i)
          go_ret
          exact ⟨ret_b (by simp [sameSQ, h1, h2, h3, h4]), (((Only.refl [] w).alloc _).alloc _).trans ho1⟩
      · have b5 : (x.version == y.version) = false := by rw [beq_eq_false_iff_ne]; exact h3
        go_enter Tryz.func33, Tryz.ntmps33
        go_wp2_with (go_at_call 72; refine (HE.out _).mono ?_; rintro e w1 ⟨rfl, ho1⟩
                     have ha := fun i => (ho1.blk (((Only.refl [] _).alloc _).blk (Blk.new w 92 _) (by simp)) (by simp)).cell i
                     have hb := fun i => (ho1.blk (kB _ _ _) (by simp)).cell i)
        go_ret
        exact ⟨ret_b (by simp [sameSQ, h1, h2, h3]), (((Only.refl [] w).alloc _).alloc _).trans ho1⟩
    · have b2 : (x.stream.toList == y.stream.toList) = false := by rw [beq_eq_false_iff_ne]; exact h2
      go_enter Tryz.func33, Tryz.ntmps33
      go_wp2_with (go_at_call 72; refine (HE.out _).mono ?_; rintro e w1 ⟨rfl, ho1⟩
                   have ha := fun i => (ho1.blk (((Only.refl [] _).alloc _).blk (Blk.new w 92 _) (by simp)) (by simp)).cell i
                   have hb := fun i => (ho1.blk (kB _ _ _) (by simp)).cell i)
      go_ret
      exact ⟨ret_b (by simp [sameSQ, h1, h2]), (((Only.refl [] w).alloc _).alloc _).trans ho1⟩
theorem sameLQ_drop {l m : List StoredR} {k : Nat} (h1 : k < l.length) (h2 : k < m.length) : sameLQ (l.drop k) (m.drop k) = (sameSQ l[k] m[k] && sameLQ (l.drop (k + 1)) (m.drop (k + 1))) := by
  rw [List.drop_eq_getElem_cons h1, List.drop_eq_getElem_cons h2]
  rfl
theorem sameLQ_len : ∀ (l m : List StoredR), l.length ≠ m.length → sameLQ l m = false
  | [], [], h => absurd rfl h
  | [], _ :: _, _ => rfl
  | _ :: _, [], _ => rfl
  | x :: l, y :: m, h => by
    simp only [sameLQ, sameLQ_len l m (by simpa using h), Bool.and_false]
set_option maxRecDepth 100000 in
set_option maxHeartbeats 2000000 in
theorem eqStQ_any {w : World} {v1 v2 : Value} {l m : List StoredR} (h1 : Slc w 8 v1 l.length (l.flatMap StoredR.cells)) (h2 : Slc w 8 v2 m.length (m.flatMap StoredR.cells)) (hbl : l.length ≤ 1000000) (hbm : m.length ≤ 1000000) :
    Calls Tryz.prog 32 #[v1, v2, .func (.func 33) #[] #[]] w fun e w' => e = .returned (.bool (sameLQ l m)) ∧ Only [] w w' := by
  obtain ⟨A1, cap1, rfl, hn1, hc1, hel1⟩ := h1.openE StoredR.cells (fun _ => rfl)
  obtain ⟨A2, cap2, rfl, hn2, hc2, hel2⟩ := h2.openE StoredR.cells (fun _ => rfl)
  unfold maxLen at hc1 hc2
  clear h1 h2
  by_cases hlm : l.length = m.length
  · have hb : ((l.length : Int) != m.length) = false := by rw [hlm]; simp
    have HLM := Lib.hid hlm
    have hR : Hid (sameLQ l m = sameLQ (l.drop 0) (m.drop 0)) := rfl
    clear hlm
    go_enter Tryz.func32, Tryz.ntmps32
    go_wp2
    go_loopw [17] (fun i wr => ∃ k : Nat, k ≤ l.length ∧ i = .int .i64 k ∧ Hid (sameLQ l m = sameLQ (l.drop k) (m.drop k)) ∧ Only [] w wr) (fun i _ => l.length - (intOf i).toNat)
    case atStart => exact ⟨0, Nat.zero_le _, rfl, hR, Only.refl _ _⟩
    case round =>
      obtain ⟨k, hk, rfl, hT, hO⟩ := hrel
      by_cases hlt : k < l.length
      · have hlt2 : k < m.length := by rw [← HLM.out]; exact hlt
        obtain ⟨b1, off1, rfl, hb1, hcc1⟩ := hel1 k hlt
        obtain ⟨b2, off2, rfl, hb2, hcc2⟩ := hel2 k hlt2
        have hd := sameLQ_drop hlt hlt2
        obtain ⟨x, hx⟩ : ∃ x, x = l[k] := ⟨_, rfl⟩
        obtain ⟨y, hy⟩ : ∃ y, y = m[k] := ⟨_, rfl⟩
        rw [← hx] at hcc1 hd
        rw [← hy] at hcc2 hd
        have c0 : wr.cell? ⟨b1, off1 + k * 8, none⟩ = some (.int .i64 x.ev.id) := (hO.cell hb1 (by simp)).trans (hcc1 0 (by omega))
        have c1 : wr.cell? ⟨b1, off1 + k * 8 + 1, none⟩ = some (.string x.ev.type) := (hO.cell hb1 (by simp)).trans (hcc1 1 (by omega))
        have c2 : wr.cell? ⟨b1, off1 + k * 8 + 2, none⟩ = some (.string x.ev.data) := (hO.cell hb1 (by simp)).trans (hcc1 2 (by omega))
        have c3 : wr.cell? ⟨b1, off1 + k * 8 + 3, none⟩ = some (.float .f64 x.ev.value) := (hO.cell hb1 (by simp)).trans (hcc1 3 (by omega))
        have c4 : wr.cell? ⟨b1, off1 + k * 8 + 4, none⟩ = some (.string x.stream) := (hO.cell hb1 (by simp)).trans (hcc1 4 (by omega))
        have c5 : wr.cell? ⟨b1, off1 + k * 8 + 5, none⟩ = some (.int .i64 x.version) := (hO.cell hb1 (by simp)).trans (hcc1 5 (by omega))
        have c6 : wr.cell? ⟨b1, off1 + k * 8 + 6, none⟩ = some (.int .i64 x.position) := (hO.cell hb1 (by simp)).trans (hcc1 6 (by omega))
        have c7 : wr.cell? ⟨b1, off1 + k * 8 + 7, none⟩ = some (.int .i64 x.time) := (hO.cell hb1 (by simp)).trans (hcc1 7 (by omega))
        have kk : ∀ (o : Obj) (r : Nat) u, (y.cells)[r]? = some u → r < 8 → (wr.alloc o).cell? ⟨b2, off2 + k * 8 + r, none⟩ = some u := fun o r u hu hr => (((hO.alloc o).cell hb2 (by simp)).trans (hcc2 r hr)).trans hu
        have d0 : ∀ o, (wr.alloc o).cell? ⟨b2, off2 + k * 8, none⟩ = some (.int .i64 y.ev.id) := fun o => kk o 0 _ rfl (by omega)
        have d1 : ∀ o, (wr.alloc o).cell? ⟨b2, off2 + k * 8 + 1, none⟩ = some (.string y.ev.type) := fun o => kk o 1 _ rfl (by omega)
        have d2 : ∀ o, (wr.alloc o).cell? ⟨b2, off2 + k * 8 + 2, none⟩ = some (.string y.ev.data) := fun o => kk o 2 _ rfl (by omega)
        have d3 : ∀ o, (wr.alloc o).cell? ⟨b2, off2 + k * 8 + 3, none⟩ = some (.float .f64 y.ev.value) := fun o => kk o 3 _ rfl (by omega)
        have d4 : ∀ o, (wr.alloc o).cell? ⟨b2, off2 + k * 8 + 4, none⟩ = some (.string y.stream) := fun o => kk o 4 _ rfl (by omega)
        have d5 : ∀ o, (wr.alloc o).cell? ⟨b2, off2 + k * 8 + 5, none⟩ = some (.int .i64 y.version) := fun o => kk o 5 _ rfl (by omega)
        have d6 : ∀ o, (wr.alloc o).cell? ⟨b2, off2 + k * 8 + 6, none⟩ = some (.int .i64 y.position) := fun o => kk o 6 _ rfl (by omega)
        have d7 : ∀ o, (wr.alloc o).cell? ⟨b2, off2 + k * 8 + 7, none⟩ = some (.int .i64 y.time) := fun o => kk o 7 _ rfl (by omega)
        have HS := Lib.hid (fun W => vsameQ_any x y W)
        have hsf := stF
        have hki : (k : Int) < m.length := by omega
        clear hcc1 hcc2 hx hy hel1 hel2 kk
        cases hs : sameSQ x y with
        | true =>
          rw [hs] at HS
          have HN : Hid (sameLQ l m = sameLQ (l.drop (k + 1)) (m.drop (k + 1))) := by unfold Hid; rw [hT.out, hd, hs, Bool.true_and]
          clear hd hs hT
          go_wp2_with (go_at_call 33; refine (HS.out _).mono ?_; rintro e w1 ⟨rfl, ho1⟩)
          exact ⟨⟨k + 1, hlt, by simp, HN, ((hO.alloc _).alloc _).trans ho1⟩, by simp [intOf]; omega⟩
        | false =>
          rw [hs] at HS
          have HN : Hid (sameLQ l m = false) := by unfold Hid; rw [hT.out, hd, hs, Bool.false_and]
          clear hd hs hT
          go_wp2_with (go_at_call 33; refine (HS.out _).mono ?_; rintro e w1 ⟨rfl, ho1⟩)
          go_ret
          exact ⟨ret_b (by rw [HN.out]), ((hO.alloc _).alloc _).trans ho1⟩
      · have HN : Hid (sameLQ l m = true) := by
          unfold Hid
          rw [hT.out, List.drop_of_length_le (by omega), List.drop_of_length_le (by have := HLM.out; omega)]
          rfl
        clear hel1 hel2
        go_wp2
        go_ret
        exact ⟨ret_b (by rw [HN.out]), hO⟩
  · have hb : ((l.length : Int) != m.length) = true := by rw [bne_iff_ne]; omega
    have HN : Hid (sameLQ l m = false) := sameLQ_len l m hlm
    clear hlm hel1 hel2
    go_enter Tryz.func32, Tryz.ntmps32
    go_wp2
    go_ret
    exact ⟨ret_b (by rw [HN.out]), Only.refl _ _⟩
end Go.Proofs.YteinoiicnmemhaaGreatDoor
/- Lists of stored events in memory that are searched, set and cleared. No program is named. -/
set_option linter.unusedVariables false
set_option linter.unusedSimpArgs false
namespace Go.Proofs.YteinoiicnmemhaaGreatDoor
open Go.RowKit
section
variable {w : World} {g : Nat} {t : TypeId} {cs : Array Value}
end
/-! ## an own row as a block -/
/-- What stands at the head of a round: of ys the first i are the kept ones of the first j of xs, from j on it is xs. -/
structure KeptAt (p : StoredR → Bool) (xs ys : List StoredR) (i j : Nat) : Prop where
  len : ys.length = xs.length
  lt : i < j
  le : j ≤ xs.length
  done : ys.take i = (xs.take j).filter (fun x => !p x)
  rest : ys.drop j = xs.drop j
theorem KeptAt.get {p : StoredR → Bool} {xs ys : List StoredR} {i j : Nat} (h : KeptAt p xs ys i j) (hj : j < xs.length) : ∃ h2 : j < ys.length, ys[j] = xs[j] := by
  have h2 : j < ys.length := by rw [h.len]; exact hj
  refine ⟨h2, ?_⟩
  have := h.rest
  rw [List.drop_eq_getElem_cons hj, List.drop_eq_getElem_cons h2] at this
  exact (List.cons.inj this).1
theorem KeptAt.skip {p : StoredR → Bool} {xs ys : List StoredR} {i j : Nat} (h : KeptAt p xs ys i j) (hj : j < xs.length) (hp : p xs[j] = true) : KeptAt p xs ys i (j + 1) := by
  refine ⟨h.len, by have := h.lt; omega, hj, ?_, ?_⟩
  · rw [h.done, List.take_succ_eq_append_getElem hj, List.filter_append]
    simp [hp]
  · rw [← List.drop_drop, ← List.drop_drop, h.rest]
theorem KeptAt.keep {p : StoredR → Bool} {xs ys : List StoredR} {i j : Nat} (h : KeptAt p xs ys i j) (hj : j < xs.length) (hp : p xs[j] = false) : KeptAt p xs (ys.set i xs[j]) (i + 1) (j + 1) := by
  have hlt := h.lt
  have hlen := h.len
  refine ⟨by simpa using h.len, by omega, hj, ?_, ?_⟩
  · rw [List.take_succ_eq_append_getElem hj, List.filter_append, ← h.done, List.take_succ_eq_append_getElem (by simp; omega)]
    rw [List.take_set_of_le (Nat.le_refl _)]
    simp [hp]
  · rw [List.drop_set_of_lt (by omega), ← List.drop_drop, ← List.drop_drop, h.rest]
end Go.Proofs.YteinoiicnmemhaaGreatDoor
/- Contracts: IndexFunc and DeleteFunc of stored events, by a closure that looks at a state. -/
set_option linter.unusedVariables false
set_option linter.unusedSimpArgs false
namespace Go.Proofs.YteinoiicnmemhaaGreatDoor
open Go.RowKit
end Go.Proofs.YteinoiicnmemhaaGreatDoor
/- Contracts: Forward, All forward. -/
set_option linter.unusedVariables false
set_option linter.unusedSimpArgs false
namespace Go.Proofs.YteinoiicnmemhaaGreatDoor
open Go.RowKit
section
variable {a w : World} {R E : List Nat} {sb mb N : Nat} {s : MS}
end
end Go.Proofs.YteinoiicnmemhaaGreatDoor
