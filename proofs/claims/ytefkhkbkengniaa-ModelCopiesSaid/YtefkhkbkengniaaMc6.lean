/- Contracts: floorOf, put, keep. -/
import Derived.Test.YtefkhkbkengniaaMc5
import Derived.Test.YtefkhkbkengniaaRegion
import Derived.StillTailTactics
set_option linter.unusedVariables false
set_option linter.unusedSimpArgs false
namespace Go.Proofs.Ytefkhkbkengniaa
open Go.RowKit
theorem StAt.tm {w : World} {M : List Nat} {sb mb : Nat} {av : Value} {pf : ByteArray → Value} {s : MS} (h : StAt w M sb mb av pf s) : w.cell? ⟨sb, 3, none⟩ = some (.int .i64 s.now) := h.blk.cell 3
set_option maxHeartbeats 2000000 in
theorem floorOf_any {w : World} {M : List Nat} {sb mb : Nat} {av pv : Value} {pf : ByteArray → Value} {s : MS} {x : StreamR} (h : StAt w M sb mb av pf s) (hn : 0 ≤ s.now ∧ s.now ≤ 1099511627776) (hp : Slc w 1 pv x.places.length (ints x.places))
    (hx : ∀ p ∈ x.places, 0 ≤ p ∧ p < s.all.length) (hl : x.places.length ≤ 1000000000) (hm : x.mt.ok = true) (hf : 0 ≤ x.floor ∧ x.floor ≤ x.places.length) :
    Calls Try.prog 38 #[.pointer (some ⟨sb, 0, none⟩), x.val pv] w fun e w' => e = .returned (.int .i64 (s.floorOf x)) ∧ Only [] w w' := by
  obtain ⟨A, cap, hpv, _⟩ := hp.openI
  have htl := times_len s.all x
  have hW : Only [] w (w.alloc (.cells #[pv, .int .i64 x.mt.maxCount, .int .i64 x.mt.maxAge, .int .i64 x.mt.before, .int .i64 x.floor, .bool x.deleted] 77)).drew := ((Only.refl [] w).alloc _).drew
  have HT := Lib.hid (times_any (h.only0 hW) (hp.only0 hW) hx hl)
  have HF := Lib.hid (fun (W : World) (v : Value) (hv : Slc W 1 v (times s.all x).length (ints (times s.all x))) => floor_any (m := x.mt) (floor := x.floor) (now := s.now) hv ⟨hn.1, by omega⟩ hm ⟨hf.1, by omega⟩ (by omega))
  have c3 : w.cell? ⟨sb, 3, none⟩ = some (.int .i64 s.now) := h.blk.cell 3
  have hbl := h.blk.lt
  have HN : Hid (s.floorOf x = floorE x.mt x.floor s.now (times s.all x)) := rfl
  obtain ⟨nw, hnw⟩ : ∃ nw, nw = s.now := ⟨_, rfl⟩
  rw [← hnw] at c3 HN HF
  obtain ⟨ts, hts⟩ : ∃ ts, ts = times s.all x := ⟨_, rfl⟩
  rw [← hts] at HT HF HN
  clear htl hn hts hnw
  rw [HN.out]
  subst hpv
  obtain ⟨places, ⟨a, b, d⟩, fl, del⟩ := x
  simp only [StreamR.val, MetaR.val] at HT HF hW HN ⊢
  clear hf hm hx hp HN
  go_enter Try.func38, Try.ntmps38
  go_wp2_with fail
  go_region_held3 (fun w' => w'.cell? ⟨w.heap.size, 0, none⟩ = some (.slice A places.length cap) ∧ w'.cell? ⟨w.heap.size, 1, none⟩ = some (.int .i64 a) ∧ w'.cell? ⟨w.heap.size, 2, none⟩ = some (.int .i64 b) ∧ w'.cell? ⟨w.heap.size, 3, none⟩ = some (.int .i64 d) ∧
      w'.cell? ⟨w.heap.size, 4, none⟩ = some (.int .i64 fl) ∧ w'.cell? ⟨w.heap.size, 5, none⟩ = some (.bool del) ∧ w'.cell? ⟨sb, 3, none⟩ = some (.int .i64 nw))
    (first | go_keep | (go_split_ands; refine ⟨?_, ?_, ?_, ?_, ?_, ?_, ?_⟩ <;> (rw [ho1.cell (block_lt_of_cell (by assumption)) (by simp)]; assumption)) | (go_split_ands; refine ⟨?_, ?_, ?_, ?_, ?_, ?_, ?_⟩ <;> (rw [ho2.cell (block_lt_of_cell (by assumption)) (by simp)]; assumption)))
    (first
      | (go_at_call 70; refine HT.out.mono ?_; rintro e w1 ⟨v1, rfl, hv1, ho1⟩)
      | (go_at_call 69; refine (HF.out _ _ hv1).mono ?_; rintro e w2 ⟨rfl, ho2⟩))
  go_wp2
  go_ret
  exact ⟨rfl, (hW.trans ho1).trans ho2⟩
set_option maxRecDepth 100000 in
theorem put_any {w : World} {M : List Nat} {sb mb : Nat} {av pv : Value} {pf : ByteArray → Value} {s : MS} {x : StreamR} (h : StAt w M sb mb av pf s) (n : ByteArray) (hp : Rd M w 1 pv x.places.length (ints x.places)) :
    Calls Try.prog 76 #[.pointer (some ⟨sb, 0, none⟩), .string n, x.val pv] w fun e w' => e = .returned (.tuple #[]) ∧ StAt w' M sb mb av (fun k => if k = n then pv else pf k) (s.put n x) ∧ Only [mb] w w' := by
  obtain ⟨A, cap, hpv, _⟩ := hp.1.openI
  have hfin : ∀ w', MapIs Value.string w' mb (aput (s.m.map fun p => (p.1, p.2.val (pf p.1))) n (x.val pv)) → Only [mb] w w' → StAt w' M sb mb av (fun k => if k = n then pv else pf k) (s.put n x) := by
    intro w' hm hO
    refine ⟨hO.blk h.blk (by simp; exact fun e => h.ne e.symm), own_only h.own hO (fun g hg => by simp; exact (h.ownne g hg).2), ?_, fun k y hy => ?_, h.inM, fun g hg => Nat.lt_of_lt_of_le (h.mlt g hg) hO.size⟩
    · rw [aput_mapk (fun k x => StreamR.val x (pf k)) (fun k x => StreamR.val x (if k = n then pv else pf k)) s.m h.nodup n x (x.val pv) (by simp) (fun a ha => by funext y; rw [if_neg ha])] at hm
      exact hm
    · have hk := aget_of_mem (aput_nodup h.nodup n x) hy
      rw [aget_aput] at hk
      by_cases e : n = k
      · subst e
        rw [if_pos rfl] at hk
        injection hk with hk
        subst hk
        simp only [if_true]
        exact hp.only hO (by simp; exact h.inM.2.1)
      · rw [if_neg e] at hk
        rw [if_neg (fun q => e q.symm)]
        exact (h.pl k y (aget_mem hk)).only hO (by simp; exact h.inM.2.1)
  have HF := Lib.hid hfin
  have c1 : ∀ o, (w.alloc o).cell? ⟨sb, 1, none⟩ = some (.map (some mb)) := fun o => (World.cell?_alloc_lt w o _ h.blk.lt).trans (h.blk.cell 1)
  have hne := fun w => run_eql_map_nil (P := Try.prog) w 73 _ _ (some mb) Try.underlying73
  have hM : ∀ o, MapIs Value.string (w.alloc o).drew mb (s.m.map fun p => (p.1, p.2.val (pf p.1))) := fun o => (h.map.alloc o).drew
  clear hfin
  subst hpv
  obtain ⟨places, ⟨a, b, d⟩, fl, del⟩ := x
  simp only [StreamR.val] at HF ⊢
  clear hp
  go_enter Try.func76, Try.ntmps76
  go_wp2
  refine wp_region_stail 6 (by kernel_rfl) (by kernel_rfl) ?_
  simp only [List.take_succ_cons, List.take_zero, List.drop_succ_cons, List.drop_zero]
  repeat still_step
  refine wpStill_nil ?_
  refine wpList_update_is rfl 73 rfl keyEnc_string Try.underlying73 Try.underlying9 n (.agg #[.slice A places.length cap, .int .i64 a, .int .i64 b, .int .i64 d, .int .i64 fl, .bool del]) (by rfl) (by rfl) (by rfl) (hM _) ?_
  intro w5 hm5 hu5
  have hO : Only [mb] w w5 := (((Only.refl [mb] w).alloc _).drew).trans hu5
  have hF := HF.out w5 hm5 hO
  go_wp2
  go_end0
  exact ⟨rfl, hF, hO⟩
end Go.Proofs.Ytefkhkbkengniaa
