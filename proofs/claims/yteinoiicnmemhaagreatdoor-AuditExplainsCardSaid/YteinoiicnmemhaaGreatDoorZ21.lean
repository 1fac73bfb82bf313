/- Proved here: contracts of functions and plain laws, part 21 of one proof. Conditions: each theorem names its own. -/
import Derived.Test.YteinoiicnmemhaaGreatDoorZ15
import Derived.Test.YteinoiicnmemhaaGreatDoorZ20
set_option linter.unusedSimpArgs false
set_option linter.unusedVariables false
namespace Go.Proofs.YteinoiicnmemhaaGreatDoor
section
open Go Go.RowKit Go.Sort
theorem openK {w : World} {v : Value} {ks : List Int} (h : Slc w 1 v ks.length (ints ks)) : ∃ A cap, v = .slice A ks.length cap ∧ ks.length ≤ cap ∧ cap ≤ maxLen ∧ ∀ k (hk : k < ks.length), ∃ b off, A = some ⟨b, off, none⟩ ∧ b < w.heap.size ∧ w.cell? ⟨b, off + k, none⟩ = some (.int .i64 ks[k]) := by
  obtain ⟨A, cap, e, h1, h2, h3, h4⟩ := h
  refine ⟨A, cap, e, h2, h3, fun k hk => ?_⟩
  obtain ⟨b, off, rfl, hb, hc⟩ := h4 (by omega)
  refine ⟨b, off, rfl, hb, ?_⟩
  rw [hc k (by simpa [ints] using hk)]
  simp [ints, hk]
set_option maxRecDepth 100000 in
set_option maxHeartbeats 4000000 in
theorem dpage_err {w : World} {v kv : Value} {l : List StoredR} {key : StoredR → Int} {f n : Int} {back : Bool} (hw : wrongP f n = true) :
    Calls Tryz.prog 107 #[v, kv, .int .i64 f, .int .i64 n, .bool back] w (PageOut w key l f n (pageBy key l f n back)) := by
  have hR : pageBy key l f n back = (PageR.zero, 1) := by unfold pageBy; rw [hw]; rfl
  rw [hR]
  clear hR
  by_cases h1 : f < 0
  · clear hw
    go_enter Tryz.func107, Tryz.ntmps107
    go_wp2
    exact bodyPost_ret (v := .tuple #[.agg #[.slice none 0 0, .int .i64 0, .bool false], .int .i64 1]) (by simp [results, Tryz.results107, go_sem]) rfl ⟨_, rfl, World.ownsRow_nil _ _ _ _, (Only.refl [] w).alloc _⟩
  · by_cases h2 : n < 1
    · clear hw
      go_enter Tryz.func107, Tryz.ntmps107
      go_wp2
      exact bodyPost_ret (v := .tuple #[.agg #[.slice none 0 0, .int .i64 0, .bool false], .int .i64 1]) (by simp [results, Tryz.results107, go_sem]) rfl ⟨_, rfl, World.ownsRow_nil _ _ _ _, (Only.refl [] w).alloc _⟩
    · have h3 : n > 100 := by simp [wrongP] at hw; omega
      clear hw
      go_enter Tryz.func107, Tryz.ntmps107
      go_wp2
      exact bodyPost_ret (v := .tuple #[.agg #[.slice none 0 0, .int .i64 0, .bool false], .int .i64 1]) (by simp [results, Tryz.results107, go_sem]) rfl ⟨_, rfl, World.ownsRow_nil _ _ _ _, (Only.refl [] w).alloc _⟩
set_option maxRecDepth 100000 in
set_option maxHeartbeats 4000000 in
theorem dpage_fwd {w : World} {v kv : Value} {l : List StoredR} {key : StoredR → Int} {f n : Int} (hl : Slc w 8 v l.length (l.flatMap StoredR.cells)) (hkv : Slc w 1 kv (l.map key).length (ints (l.map key))) (hb : l.length ≤ 1000000) (hk : ∀ s ∈ l, 0 ≤ key s ∧ key s ≤ 1000000000) :
    Calls Tryz.prog 107 #[v, kv, .int .i64 f, .int .i64 n, .bool false] w (PageOut w key l f n (pageBy key l f n false)) := by
  cases hw : wrongP f n with
  | true => exact dpage_err hw
  | false =>
    obtain ⟨A, cap, rfl, hnc, hcm, hel⟩ := hl.openE StoredR.cells (fun _ => rfl)
    obtain ⟨B, kc, rfl, hkc1, hkc2, hke⟩ := openK hkv
    rw [List.length_map] at hkc1
    have hlm : (l.map key).length = l.length := List.length_map ..
    rw [hlm]
    unfold maxLen at hcm
    have hn : (1 ≤ n ∧ n ≤ 100) ∧ 0 ≤ f := by simp [wrongP] at hw; omega
    have hR : pageBy key l f n false = (fwdGo key f n l [] f, 0) := by unfold pageBy; rw [hw]; rfl
    rw [hR]
    clear hR hw hl hkv
    obtain ⟨R, hR⟩ : ∃ R, R = fwdGo key f n l [] f := ⟨_, rfl⟩
    rw [← hR]
    have HR := Lib.hid hR
    clear hR
    go_enter Tryz.func107, Tryz.ntmps107
    go_wp2
    go_loopw [13] (fun i wr => ∃ (k : Nat) (pv : Value) (acc : List StoredR) (nx : Int), k ≤ l.length ∧ acc.length ≤ k ∧ (acc.length : Int) ≤ n ∧ i = .int .i64 k ∧ Hid (R = fwdGo key f n (l.drop k) acc nx) ∧ PgAt w wr (w.heap.size + 1) pv acc nx) (fun i _ => l.length - (intOf i).toNat)
    case atStart =>
      refine ⟨0, .slice none 0 0, [], f, Nat.zero_le _, Nat.le_refl _, by simp; omega, rfl, HR, ((Only.refl [] w).alloc _).alloc _, ((Only.refl [] _).alloc _).blk (Blk.new w _ _) (by simp), ?_, World.ownsRow_nil _ _ _ _⟩
      have := Blk.new (w.alloc (.cells #[.slice none 0 0, .int .i64 0, .bool false] 57)) 57 #[.slice none 0 0, .int .i64 f, .bool true]
      simpa using this
    case round =>
      obtain ⟨k, pv, acc, nx, hkl, hak, han, rfl, HR, hP⟩ := hrel
      obtain ⟨Ap, capp, rfl, hap1, hap2⟩ := own_form hP.own
      have hbR := fun i => hP.blkR.cell i
      have hbRf := fun i => hP.blkR.free i
      have hbP := fun i => hP.blkP.cell i
      have hbPf := fun i => hP.blkP.free i
      by_cases hlt : k < l.length
      · obtain ⟨b, off, rfl, hbb, hcc⟩ := hel k hlt
        obtain ⟨b2, off2, rfl, hbb2, hkk⟩ := hke k (by rw [hlm]; exact hlt)
        rw [List.getElem_map] at hkk
        have hd := fwdGo_drop key f n l k hlt acc nx
        have hks := hk _ (List.getElem_mem hlt)
        obtain ⟨x, hs⟩ : ∃ x, x = l[k] := ⟨_, rfl⟩
        rw [← hs] at hd hcc hks hkk
        have q0 : wr.cell? ⟨b2, off2 + k, none⟩ = some (.int .i64 (key x)) := (hP.only.cell hbb2 (by simp)).trans hkk
        have hO := hP.only
        have c0 : wr.cell? ⟨b, off + k * 8, none⟩ = some (.int .i64 x.ev.id) := (hO.cell hbb (by simp)).trans (hcc 0 (by omega))
        have c1 : wr.cell? ⟨b, off + k * 8 + 1, none⟩ = some (.string x.ev.type) := (hO.cell hbb (by simp)).trans (hcc 1 (by omega))
        have c2 : wr.cell? ⟨b, off + k * 8 + 2, none⟩ = some (.string x.ev.data) := (hO.cell hbb (by simp)).trans (hcc 2 (by omega))
        have c3 : wr.cell? ⟨b, off + k * 8 + 3, none⟩ = some (.float .f64 x.ev.value) := (hO.cell hbb (by simp)).trans (hcc 3 (by omega))
        have c4 : wr.cell? ⟨b, off + k * 8 + 4, none⟩ = some (.string x.stream) := (hO.cell hbb (by simp)).trans (hcc 4 (by omega))
        have c5 : wr.cell? ⟨b, off + k * 8 + 5, none⟩ = some (.int .i64 x.version) := (hO.cell hbb (by simp)).trans (hcc 5 (by omega))
        have c6 : wr.cell? ⟨b, off + k * 8 + 6, none⟩ = some (.int .i64 x.position) := (hO.cell hbb (by simp)).trans (hcc 6 (by omega))
        have c7 : wr.cell? ⟨b, off + k * 8 + 7, none⟩ = some (.int .i64 x.time) := (hO.cell hbb (by simp)).trans (hcc 7 (by omega))
        obtain ⟨ky, hky⟩ : ∃ ky, ky = key x := ⟨_, rfl⟩
        have HKY := Lib.hid hky
        rw [← hky] at q0 hd hks
        have hsf := stF
        clear hcc hkk hky
        by_cases h1 : ky < f
        · have HN : Hid (R = fwdGo key f n (l.drop (k + 1)) acc nx) := by
            unfold Hid
            rw [HR.out, hd, if_pos h1]
          have HP := Lib.hid hP
          clear hd hP HR hs hel hke
          go_wp2
          go_round
          case rel => exact ⟨k + 1, _, acc, nx, hlt, by omega, han, by simp, HN, HP.out⟩
          case measure => simp [intOf]; omega
        · by_cases h2 : (acc.length : Int) = n
          · have HN : R = ⟨acc, nx, false⟩ := by
              rw [HR.out, hd, if_neg h1, if_pos h2]
            have h2b : n ≤ (acc.length : Int) := by omega
            subst HN
            have HP := Lib.hid hP
            have d3 := fun u v i => (((Only.refl [w.heap.size + 1] wr).setCell (p := ⟨w.heap.size + 1, u, none⟩) (.inl (by simp)) v).blk hP.blkR (by simp)).cell i
            have d4 := fun u v i => (((Only.refl [w.heap.size + 1] wr).setCell (p := ⟨w.heap.size + 1, u, none⟩) (.inl (by simp)) v).blk hP.blkR (by simp)).free i
            clear hd hP HR hs hel hke
            go_wp2
            refine bodyPost_ret (v := .tuple #[.agg #[.slice Ap acc.length capp, .int .i64 nx, .bool false], .int .i64 0]) (by simp [results, Tryz.results107, go_sem, d3]) rfl ⟨_, rfl, ?own, ?only⟩
            case own =>
              refine own_only HP.out.own (S := [w.heap.size, w.heap.size + 1]) ?_ (fun g hg => by have := HP.out.nown g hg; simp; omega)
              iterate 4 (refine Only.setCell ?_ (.inl (by simp)) _)
              exact Only.refl _ _
            case only =>
              iterate 4 (refine Only.setCell ?_ (.inr (by simp)) _)
              exact HP.out.only
          · have h2b : ¬ n ≤ (acc.length : Int) := by omega
            have HN : Hid (R = fwdGo key f n (l.drop (k + 1)) (acc ++ [x]) (ky + 1)) := by
              unfold Hid
              rw [HR.out, hd, if_neg h1, if_neg h2]
            have HP := Lib.hid hP
            have hkb : (ky < 9223372036854775807) := by omega
            have hakb : acc.length + 1 ≤ 1000001 := by omega
            have hrw := HP.out.only.size
            clear hd hP HR hs hel hke
            obtain ⟨So, hSo⟩ : ∃ So, So = (Value.slice Ap acc.length capp).ownBlock.toList := ⟨_, rfl⟩
            have hSn : ∀ g ∈ So, w.heap.size ≤ g ∧ g ≠ w.heap.size ∧ g ≠ w.heap.size + 1 ∧ g < wr.heap.size := by
              intro g hg
              rw [hSo] at hg
              have hg' : (Value.slice Ap acc.length capp).ownBlock = some g := by simpa using hg
              have h3 := HP.out.nown g hg'
              have h4 := HP.out.own.lt g hg'
              exact ⟨h4.1, h3.1, h3.2, h4.2⟩
            have nP : w.heap.size + 1 ∉ So := fun q => (hSn _ q).2.2.1 rfl
            have nR : w.heap.size ∉ So := fun q => (hSn _ q).2.1 rfl
            have nB : b ∉ So := fun q => by have := (hSn _ q).1; omega
            have nB2 : b2 ∉ So := fun q => by have := (hSn _ q).1; omega
            have F0 := Within.cell (S := So) (HP.out.blkP.cell 0) nP
            have G0 := Within.cell (S := So) c0 nB
            have G1 := Within.cell (S := So) c1 nB
            have G2 := Within.cell (S := So) c2 nB
            have G3 := Within.cell (S := So) c3 nB
            have G4 := Within.cell (S := So) c4 nB
            have G5 := Within.cell (S := So) c5 nB
            have G6 := Within.cell (S := So) c6 nB
            have G7 := Within.cell (S := So) c7 nB
            have hki : (k : Int) < l.length := by omega
            go_wp2_with fail
            refine wp_region_in So [0, 1, 2, 3, 4, 5] [6, 7] [8, 9] (by kernel_rfl) (by kernel_rfl) (by intro c d u a w h; cases d <;> exact h) ?_
            show wpQuiet _ _ _ _ [_, _, _, _, _, _] _
            repeat (go_big_quiet_step (fail))
            refine wpQuiet_nil ?_
            show wpList _ _ _ [_] _ _
            go_wp2_with fail
            refine check_of (S := So) (((Only.refl So wr).alloc _).drew) ?_
            show wpList _ _ _ [_] _ _
            obtain ⟨A4, c4', w4, hr4, hown4, hO4⟩ := app8 (W := wr.drew) (base := w.heap.size) (own_only HP.out.own (Only.refl [] wr).drew (by simp)) hrw (by omega) x
            have ho24 : Only So wr w4 := ((Only.refl So wr).drew.alloc _).trans (by rw [hSo]; exact hO4)
            have hP4 := ho24.blk HP.out.blkP nP
            have hR4 := ho24.blk HP.out.blkR nR
            have e1 := fun i => hP4.cell i
            have e2 := fun i => hP4.free i
            have q4 : w4.cell? ⟨b2, off2 + k, none⟩ = some (.int .i64 ky) := (ho24.cell (Nat.lt_of_lt_of_le hbb2 hrw) nB2).trans q0
            have HR4 := Lib.hid hr4
            clear hr4 F0 G0 G1 G2 G3 G4 G5 G6 G7
            refine Lib.wpList_append_run _ rfl (.tmp 69) (.tmp 74) 28 28 rfl _ _ rfl rfl _ _ HR4.out ?_
            refine wpList_nil ?_
            refine check_of ho24 ?_
            show wpList _ _ _ [_, _] _ _
            have hOs : ∀ u v, Only [w.heap.size + 1] w4 ((w4.setCell ⟨w.heap.size + 1, 0, none⟩ u).setCell ⟨w.heap.size + 1, 1, none⟩ v) := fun u v => ((Only.refl _ w4).setCell (.inl (by simp)) u).setCell (.inl (by simp)) v
            have q5 : ∀ u, (w4.setCell ⟨w.heap.size + 1, 0, none⟩ u).cell? ⟨b2, off2 + k, none⟩ = some (.int .i64 ky) := fun u => (((Only.refl [w.heap.size + 1] w4).setCell (p := ⟨w.heap.size + 1, 0, none⟩) (.inl (by simp)) u).cell (Nat.lt_of_lt_of_le (Nat.lt_of_lt_of_le hbb2 hrw) ho24.size) (by simp; omega)).trans q4
            have hNext : ∀ v, PgAt w ((w4.setCell ⟨w.heap.size + 1, 0, none⟩ (.slice A4 (acc.length + 1) c4')).setCell ⟨w.heap.size + 1, 1, none⟩ (.int .i64 v)) (w.heap.size + 1) (.slice A4 (acc.length + 1) c4') (acc ++ [x]) v := fun v => by
              refine ⟨(HP.out.only.step ho24 (fun g hg => .inr (hSn g hg).1)).step (hOs _ _) (fun g hg => by simp at hg; right; omega), (hOs _ _).blk hR4 (by simp), (hP4.set 0 _).set 1 _, ?_⟩
              exact own_only hown4 (hOs _ _) (fun g hg => by
                obtain ⟨cur, hcur⟩ := own_type hown4 hg
                simp
                exact hcur.other hP4 (by decide))
            have HNext := Lib.hid hNext
            clear hNext
            go_wp2
            go_round
            case rel => exact ⟨k + 1, _, acc ++ [x], _, hlt, by simp; omega, by simp; omega, by simp, HN, HNext.out _⟩
            case measure => simp [intOf]; omega
      · have hkn : R = ⟨acc, nx, true⟩ := by
          rw [HR.out, List.drop_of_length_le (by omega)]
          rfl
        subst hkn
        have HP := Lib.hid hP
        clear hP HR hel hke
        go_wp2
        refine bodyPost_ret (v := .tuple #[.agg #[.slice Ap acc.length capp, .int .i64 nx, .bool true], .int .i64 0]) (by simp [results, Tryz.results107, go_sem, hbR]) rfl ⟨_, rfl, ?own, ?only⟩
        case own =>
          refine own_only HP.out.own (S := [w.heap.size]) ?_ (fun g hg => by simpa using (HP.out.nown g hg).1)
          iterate 3 (refine Only.setCell ?_ (.inl (by simp)) _)
          exact Only.refl _ _
        case only =>
          iterate 3 (refine Only.setCell ?_ (.inr (Nat.le_refl _)) _)
          exact HP.out.only
end
section
open Go Go.RowKit Go.Sort
theorem bwdGo_drop (key : StoredR → Int) (f n : Int) (l : List StoredR) (k : Nat) (h : k < l.length) (acc : List StoredR) (nx : Int) :
    bwdGo key f n (l.reverse.drop k) acc nx = if f < key (l[l.length - 1 - k]'(by omega)) then bwdGo key f n (l.reverse.drop (k + 1)) acc nx else if (acc.length : Int) = n then ⟨acc, nx, false⟩ else bwdGo key f n (l.reverse.drop (k + 1)) (acc ++ [l[l.length - 1 - k]'(by omega)]) (max (key (l[l.length - 1 - k]'(by omega))) 0 - 1) := by
  rw [List.drop_eq_getElem_cons (by simpa using h)]
  rw [List.getElem_reverse]
  rfl
set_option maxRecDepth 100000 in
set_option maxHeartbeats 4000000 in
theorem dpage_bwd {w : World} {v kv : Value} {l : List StoredR} {key : StoredR → Int} {f n : Int} (hl : Slc w 8 v l.length (l.flatMap StoredR.cells)) (hkv : Slc w 1 kv (l.map key).length (ints (l.map key))) (hb : l.length ≤ 1000000) (hk : ∀ s ∈ l, 0 ≤ key s ∧ key s ≤ 1000000000) :
    Calls Tryz.prog 107 #[v, kv, .int .i64 f, .int .i64 n, .bool true] w (PageOut w key l f n (pageBy key l f n true)) := by
  cases hw : wrongP f n with
  | true => exact dpage_err hw
  | false =>
    obtain ⟨A, cap, rfl, hnc, hcm, hel⟩ := hl.openE StoredR.cells (fun _ => rfl)
    obtain ⟨B, kc, rfl, hkc1, hkc2, hke⟩ := openK hkv
    rw [List.length_map] at hkc1
    have hlm : (l.map key).length = l.length := List.length_map ..
    rw [hlm]
    unfold maxLen at hcm
    have hn : (1 ≤ n ∧ n ≤ 100) ∧ 0 ≤ f := by simp [wrongP] at hw; omega
    have hR : pageBy key l f n true = (bwdGo key f n l.reverse [] f, 0) := by unfold pageBy; rw [hw]; rfl
    rw [hR]
    clear hR hw hl hkv
    obtain ⟨R, hR⟩ : ∃ R, R = bwdGo key f n l.reverse [] f := ⟨_, rfl⟩
    rw [← hR]
    have HR := Lib.hid hR
    clear hR
    go_enter Tryz.func107, Tryz.ntmps107
    go_wp2
    go_loopw [13] (fun i wr => ∃ (k : Nat) (pv : Value) (acc : List StoredR) (nx : Int), k ≤ l.length ∧ acc.length ≤ k ∧ (acc.length : Int) ≤ n ∧ i = .int .i64 k ∧ Hid (R = bwdGo key f n (l.reverse.drop k) acc nx) ∧ PgAt w wr (w.heap.size + 1) pv acc nx) (fun i _ => l.length - (intOf i).toNat)
    case atStart =>
      refine ⟨0, .slice none 0 0, [], f, Nat.zero_le _, Nat.le_refl _, by simp; omega, rfl, HR, ((Only.refl [] w).alloc _).alloc _, ((Only.refl [] _).alloc _).blk (Blk.new w _ _) (by simp), ?_, World.ownsRow_nil _ _ _ _⟩
      have := Blk.new (w.alloc (.cells #[.slice none 0 0, .int .i64 0, .bool false] 57)) 57 #[.slice none 0 0, .int .i64 f, .bool true]
      simpa using this
    case round =>
      obtain ⟨k, pv, acc, nx, hkl, hak, han, rfl, HR, hP⟩ := hrel
      obtain ⟨Ap, capp, rfl, hap1, hap2⟩ := own_form hP.own
      have hbR := fun i => hP.blkR.cell i
      have hbRf := fun i => hP.blkR.free i
      have hbP := fun i => hP.blkP.cell i
      have hbPf := fun i => hP.blkP.free i
      by_cases hlt : k < l.length
      · obtain ⟨m, hm⟩ : ∃ m, m = l.length - 1 - k := ⟨_, rfl⟩
        have hml : m < l.length := by omega
        have hmi : (l.length : Int) - 1 - k = m := by omega
        obtain ⟨b, off, rfl, hbb, hcc⟩ := hel m hml
        obtain ⟨b2, off2, rfl, hbb2, hkk⟩ := hke m (by rw [hlm]; exact hml)
        have e10 := IntWalk.i64_in ((l.length : Int) - 1) ⟨by omega, by omega⟩
        have e11 := IntWalk.i64_in ((l.length : Int) - 1 - k) ⟨by omega, by omega⟩
        rw [hmi] at e11
        rw [List.getElem_map] at hkk
        have hd := bwdGo_drop key f n l k hlt acc nx
        have hks := hk _ (List.getElem_mem hml)
        obtain ⟨x, hs⟩ : ∃ x, x = l[m] := ⟨_, rfl⟩
        rw [show l[l.length - 1 - k] = l[m] from by simp [hm]] at hd
        rw [← hs] at hd hcc hks hkk
        clear hm
        have q0 : wr.cell? ⟨b2, off2 + m, none⟩ = some (.int .i64 (key x)) := (hP.only.cell hbb2 (by simp)).trans hkk
        have hO := hP.only
        have c0 : wr.cell? ⟨b, off + m * 8, none⟩ = some (.int .i64 x.ev.id) := (hO.cell hbb (by simp)).trans (hcc 0 (by omega))
        have c1 : wr.cell? ⟨b, off + m * 8 + 1, none⟩ = some (.string x.ev.type) := (hO.cell hbb (by simp)).trans (hcc 1 (by omega))
        have c2 : wr.cell? ⟨b, off + m * 8 + 2, none⟩ = some (.string x.ev.data) := (hO.cell hbb (by simp)).trans (hcc 2 (by omega))
        have c3 : wr.cell? ⟨b, off + m * 8 + 3, none⟩ = some (.float .f64 x.ev.value) := (hO.cell hbb (by simp)).trans (hcc 3 (by omega))
        have c4 : wr.cell? ⟨b, off + m * 8 + 4, none⟩ = some (.string x.stream) := (hO.cell hbb (by simp)).trans (hcc 4 (by omega))
        have c5 : wr.cell? ⟨b, off + m * 8 + 5, none⟩ = some (.int .i64 x.version) := (hO.cell hbb (by simp)).trans (hcc 5 (by omega))
        have c6 : wr.cell? ⟨b, off + m * 8 + 6, none⟩ = some (.int .i64 x.position) := (hO.cell hbb (by simp)).trans (hcc 6 (by omega))
        have c7 : wr.cell? ⟨b, off + m * 8 + 7, none⟩ = some (.int .i64 x.time) := (hO.cell hbb (by simp)).trans (hcc 7 (by omega))
        obtain ⟨ky, hky⟩ : ∃ ky, ky = key x := ⟨_, rfl⟩
        have HKY := Lib.hid hky
        rw [← hky] at q0 hd hks
        have hsf := stF
        clear hcc hkk hky
        by_cases h1 : f < ky
        · have HN : Hid (R = bwdGo key f n (l.reverse.drop (k + 1)) acc nx) := by
            unfold Hid
            rw [HR.out, hd, if_pos h1]
          have HP := Lib.hid hP
          clear hd hP HR hs hel hke
          go_wp2
          go_round
          case rel => exact ⟨k + 1, _, acc, nx, hlt, by omega, han, by simp, HN, HP.out⟩
          case measure => simp [intOf]; omega
        · by_cases h2 : (acc.length : Int) = n
          · have HN : R = ⟨acc, nx, false⟩ := by
              rw [HR.out, hd, if_neg h1, if_pos h2]
            have h2b : n ≤ (acc.length : Int) := by omega
            subst HN
            have HP := Lib.hid hP
            have d3 := fun u v i => (((Only.refl [w.heap.size + 1] wr).setCell (p := ⟨w.heap.size + 1, u, none⟩) (.inl (by simp)) v).blk hP.blkR (by simp)).cell i
            have d4 := fun u v i => (((Only.refl [w.heap.size + 1] wr).setCell (p := ⟨w.heap.size + 1, u, none⟩) (.inl (by simp)) v).blk hP.blkR (by simp)).free i
            clear hd hP HR hs hel hke
            go_wp2
            refine bodyPost_ret (v := .tuple #[.agg #[.slice Ap acc.length capp, .int .i64 nx, .bool false], .int .i64 0]) (by simp [results, Tryz.results107, go_sem, d3]) rfl ⟨_, rfl, ?own, ?only⟩
            case own =>
              refine own_only HP.out.own (S := [w.heap.size, w.heap.size + 1]) ?_ (fun g hg => by have := HP.out.nown g hg; simp; omega)
              iterate 4 (refine Only.setCell ?_ (.inl (by simp)) _)
              exact Only.refl _ _
            case only =>
              iterate 4 (refine Only.setCell ?_ (.inr (by simp)) _)
              exact HP.out.only
          · have h2b : ¬ n ≤ (acc.length : Int) := by omega
            have HN : Hid (R = bwdGo key f n (l.reverse.drop (k + 1)) (acc ++ [x]) (max ky 0 - 1)) := by
              unfold Hid
              rw [HR.out, hd, if_neg h1, if_neg h2]
            have HP := Lib.hid hP
            have hkb : (ky < 9223372036854775807) := by omega
            have hakb : acc.length + 1 ≤ 1000001 := by omega
            have hrw := HP.out.only.size
            clear hd hP HR hs hel hke
            obtain ⟨So, hSo⟩ : ∃ So, So = (Value.slice Ap acc.length capp).ownBlock.toList := ⟨_, rfl⟩
            have hSn : ∀ g ∈ So, w.heap.size ≤ g ∧ g ≠ w.heap.size ∧ g ≠ w.heap.size + 1 ∧ g < wr.heap.size := by
              intro g hg
              rw [hSo] at hg
              have hg' : (Value.slice Ap acc.length capp).ownBlock = some g := by simpa using hg
              have h3 := HP.out.nown g hg'
              have h4 := HP.out.own.lt g hg'
              exact ⟨h4.1, h3.1, h3.2, h4.2⟩
            have nP : w.heap.size + 1 ∉ So := fun q => (hSn _ q).2.2.1 rfl
            have nR : w.heap.size ∉ So := fun q => (hSn _ q).2.1 rfl
            have nB : b ∉ So := fun q => by have := (hSn _ q).1; omega
            have nB2 : b2 ∉ So := fun q => by have := (hSn _ q).1; omega
            have F0 := Within.cell (S := So) (HP.out.blkP.cell 0) nP
            have G0 := Within.cell (S := So) c0 nB
            have G1 := Within.cell (S := So) c1 nB
            have G2 := Within.cell (S := So) c2 nB
            have G3 := Within.cell (S := So) c3 nB
            have G4 := Within.cell (S := So) c4 nB
            have G5 := Within.cell (S := So) c5 nB
            have G6 := Within.cell (S := So) c6 nB
            have G7 := Within.cell (S := So) c7 nB
            have hki : (m : Int) < l.length := by omega
            go_wp2_with fail
            refine wp_region_in So [0, 1, 2, 3, 4, 5] [6, 7] [8, 9] (by kernel_rfl) (by kernel_rfl) (by intro c d u a w h; cases d <;> exact h) ?_
            show wpQuiet _ _ _ _ [_, _, _, _, _, _] _
            repeat (go_big_quiet_step (fail))
            refine wpQuiet_nil ?_
            show wpList _ _ _ [_] _ _
            go_wp2_with fail
            refine check_of (S := So) (((Only.refl So wr).alloc _).drew) ?_
            show wpList _ _ _ [_] _ _
            obtain ⟨A4, c4', w4, hr4, hown4, hO4⟩ := app8 (W := wr.drew) (base := w.heap.size) (own_only HP.out.own (Only.refl [] wr).drew (by simp)) hrw (by omega) x
            have ho24 : Only So wr w4 := ((Only.refl So wr).drew.alloc _).trans (by rw [hSo]; exact hO4)
            have hP4 := ho24.blk HP.out.blkP nP
            have hR4 := ho24.blk HP.out.blkR nR
            have e1 := fun i => hP4.cell i
            have e2 := fun i => hP4.free i
            have q4 : w4.cell? ⟨b2, off2 + m, none⟩ = some (.int .i64 ky) := (ho24.cell (Nat.lt_of_lt_of_le hbb2 hrw) nB2).trans q0
            have HR4 := Lib.hid hr4
            clear hr4 F0 G0 G1 G2 G3 G4 G5 G6 G7
            refine Lib.wpList_append_run _ rfl (.tmp 69) (.tmp 74) 28 28 rfl _ _ rfl rfl _ _ HR4.out ?_
            refine wpList_nil ?_
            refine check_of ho24 ?_
            show wpList _ _ _ [_, _] _ _
            have hOs : ∀ u v, Only [w.heap.size + 1] w4 ((w4.setCell ⟨w.heap.size + 1, 0, none⟩ u).setCell ⟨w.heap.size + 1, 1, none⟩ v) := fun u v => ((Only.refl _ w4).setCell (.inl (by simp)) u).setCell (.inl (by simp)) v
            have q5 : ∀ u, (w4.setCell ⟨w.heap.size + 1, 0, none⟩ u).cell? ⟨b2, off2 + m, none⟩ = some (.int .i64 ky) := fun u => (((Only.refl [w.heap.size + 1] w4).setCell (p := ⟨w.heap.size + 1, 0, none⟩) (.inl (by simp)) u).cell (Nat.lt_of_lt_of_le (Nat.lt_of_lt_of_le hbb2 hrw) ho24.size) (by simp; omega)).trans q4
            have hNext : ∀ v, PgAt w ((w4.setCell ⟨w.heap.size + 1, 0, none⟩ (.slice A4 (acc.length + 1) c4')).setCell ⟨w.heap.size + 1, 1, none⟩ (.int .i64 v)) (w.heap.size + 1) (.slice A4 (acc.length + 1) c4') (acc ++ [x]) v := fun v => by
              refine ⟨(HP.out.only.step ho24 (fun g hg => .inr (hSn g hg).1)).step (hOs _ _) (fun g hg => by simp at hg; right; omega), (hOs _ _).blk hR4 (by simp), (hP4.set 0 _).set 1 _, ?_⟩
              exact own_only hown4 (hOs _ _) (fun g hg => by
                obtain ⟨cur, hcur⟩ := own_type hown4 hg
                simp
                exact hcur.other hP4 (by decide))
            have HNext := Lib.hid hNext
            clear hNext
            go_wp2
            go_round
            case rel => exact ⟨k + 1, _, acc ++ [x], _, hlt, by simp; omega, by simp; omega, by simp, HN, HNext.out _⟩
            case measure => simp [intOf]; omega
      · have hkn : R = ⟨acc, nx, true⟩ := by
          rw [HR.out, List.drop_of_length_le (by simp; omega)]
          rfl
        subst hkn
        have HP := Lib.hid hP
        clear hP HR hel hke
        go_wp2
        refine bodyPost_ret (v := .tuple #[.agg #[.slice Ap acc.length capp, .int .i64 nx, .bool true], .int .i64 0]) (by simp [results, Tryz.results107, go_sem, hbR]) rfl ⟨_, rfl, ?own, ?only⟩
        case own =>
          refine own_only HP.out.own (S := [w.heap.size]) ?_ (fun g hg => by simpa using (HP.out.nown g hg).1)
          iterate 3 (refine Only.setCell ?_ (.inl (by simp)) _)
          exact Only.refl _ _
        case only =>
          iterate 3 (refine Only.setCell ?_ (.inr (Nat.le_refl _)) _)
          exact HP.out.only
end
section
open Go Go.RowKit Go.Sort
theorem dpage_any {w : World} {v kv : Value} {l : List StoredR} {key : StoredR → Int} {f n : Int} (back : Bool) (hl : Slc w 8 v l.length (l.flatMap StoredR.cells)) (hkv : Slc w 1 kv (l.map key).length (ints (l.map key))) (hb : l.length ≤ 1000000) (hk : ∀ s ∈ l, 0 ≤ key s ∧ key s ≤ 1000000000) :
    Calls Tryz.prog 107 #[v, kv, .int .i64 f, .int .i64 n, .bool back] w (PageOut w key l f n (pageBy key l f n back)) := by
  cases back
  · exact dpage_fwd hl hkv hb hk
  · exact dpage_bwd hl hkv hb hk
set_option maxRecDepth 100000 in
set_option maxHeartbeats 4000000 in
theorem dpageP_any {w : World} {v : Value} {l : List StoredR} {f n : Int} {back : Bool} (hl : Slc w 8 v l.length (l.flatMap StoredR.cells)) (hb : l.length ≤ 1000000) (hk : ∀ s ∈ l, 0 ≤ s.position ∧ s.position ≤ 1000000000) :
    Calls Tryz.prog 105 #[v, .int .i64 f, .int .i64 n, .bool back] w (PageOut w StoredR.position l f n (pageBy StoredR.position l f n back)) := by
  have HPg := Lib.hid fun (W : World) (kv : Value) (k : Only [] w W) (hkv : Slc W 1 kv (l.map StoredR.position).length (ints (l.map StoredR.position))) => dpage_any (f := f) (n := n) back (hl.only0 k) hkv hb hk
  obtain ⟨A, cap, rfl, hnc, hcm, hel⟩ := hl.openE StoredR.cells (fun _ => rfl)
  unfold maxLen at hcm
  obtain ⟨R, hR⟩ : ∃ R, pageBy StoredR.position l f n back = R := ⟨_, rfl⟩
  rw [hR] at HPg ⊢
  clear hR hl hk
  go_enter Tryz.func105, Tryz.ntmps105
  go_wp2
  go_loopw [10, 11] (fun o i wr => ∃ (k : Nat) (B : Option Addr) (kc : Nat), k ≤ l.length ∧ i = .int .i64 k ∧ o = .slice B k kc ∧ wr.ownsRow w.heap.size 3 1 (.slice B k kc) ((l.take k).map StoredR.position).length (ints ((l.take k).map StoredR.position)) ∧ Only [] w wr ∧ Blk wr w.heap.size 57 #[.slice none 0 0, .int .i64 0, .bool false]) (fun _ i _ => l.length - (intOf i).toNat)
  case atStart => exact ⟨0, none, 0, Nat.zero_le _, rfl, rfl, World.ownsRow_nil _ _ _ _, (Only.refl [] w).alloc _, Blk.new _ _ _⟩
  case round =>
    obtain ⟨k, B, kc, hk, rfl, rfl, hown, hO, hR⟩ := hrel
    by_cases hlt : k < l.length
    · obtain ⟨b, off, rfl, hbb, hcc⟩ := hel k hlt
      obtain ⟨x, hx⟩ : ∃ x, x = l[k] := ⟨_, rfl⟩
      rw [← hx] at hcc
      have c6 : wr.cell? ⟨b, off + k * 8 + 6, none⟩ = some (.int .i64 x.position) := (hO.cell hbb (by simp)).trans (hcc 6 (by omega))
      have htk : (l.take (k + 1)).map StoredR.position = (l.take k).map StoredR.position ++ [x.position] := by rw [List.take_succ_eq_append_getElem hlt, List.map_append, hx]; rfl
      have HTK := Lib.hid htk
      have hlk : ((l.take k).map StoredR.position).length = k := by simp; omega
      obtain ⟨A4, c4', w4, hr4, hown4, hO4⟩ := appI (W := wr) (base := w.heap.size) hown hO.size (by omega) x.position
      rw [hlk] at hr4 hown4
      have HR4 := Lib.hid hr4
      have hb3 := fun g hg => (World.ownsRow.lt hown g hg).1
      obtain ⟨So, hSo⟩ : ∃ So, So = (Value.slice B k kc).ownBlock.toList := ⟨_, rfl⟩
      rw [← hSo] at hO4
      have hO5 : Only [] w w4 := (hO.alloc _).step hO4 (fun g hg => .inr (by rw [hSo] at hg; exact hb3 g (by simpa using hg)))
      have hR5 : Blk w4 w.heap.size 57 #[.slice none 0 0, .int .i64 0, .bool false] := hO4.blk (((Only.refl [] wr).alloc _).blk hR (by simp)) (fun q => by
        rw [hSo] at q
        obtain ⟨cur, hcur⟩ := own_type hown (g := w.heap.size) (by simpa using q)
        exact absurd rfl (hcur.other hR (by decide)))
      clear hr4 htk hx hcc hel
      go_wp2_with (at_builtin; refine Lib.wpList_append_run _ rfl (.tmp 18) (.tmp 24) 48 48 rfl _ _ rfl rfl _ _ HR4.out ?_)
      go_round
      case rel =>
        refine ⟨k + 1, A4, c4', hlt, by simp, rfl, ?_, hO5, hR5⟩
        rw [HTK.out]
        exact hown4
      case measure => simp [intOf]; omega
    · have hkl : k = l.length := by omega
      subst hkl
      rw [List.take_length] at hown
      have HC := Lib.hid (HPg.out wr _ hO (Slc.of_own hown).1)
      clear hel HPg
      go_wp2_with (go_at_call 107; refine HC.out.mono ?_; rintro e w2 ⟨pv, rfl, hownp, k2⟩; obtain ⟨Ap, capp, rfl, hap1, hap2⟩ := own_form hownp; have hR2 := k2.blk hR (by simp); have hbR := fun i => hR2.cell i; have hbRf := fun i => hR2.free i)
      refine bodyPost_ret (v := .tuple #[.agg #[.slice Ap R.1.events.length capp, .int .i64 R.1.next, .bool R.1.isEnd], .int .i64 R.2]) (by simp [results, Tryz.results105, go_sem, hbR]) rfl ⟨_, rfl, ?own, ?only⟩
      case own =>
        refine own_only (own_base hownp hO.size) (S := [w.heap.size]) ?_ (fun g hg => by
          have h1 := (hownp.lt g hg).1
          have h2 := hR.lt
          simp; omega)
        iterate 3 (refine Only.setCell ?_ (.inl (by simp)) _)
        exact Only.refl _ _
      case only =>
        iterate 3 (refine Only.setCell ?_ (.inr (Nat.le_refl _)) _)
        exact hO.trans k2
end
section
open Go Go.RowKit Go.Sort
section
variable {a w : World} {H : List Nat} {rb : Nat} {r : RS}
set_option maxRecDepth 100000 in
set_option maxHeartbeats 4000000 in
theorem dall_any (h : HasD a w H rb r) (hf : r.Fine) (f n : Int) (back : Bool) (hk : ∀ s ∈ r.l, 0 ≤ s.position ∧ s.position ≤ 1000000000) :
    Calls Tryz.prog 76 #[.pointer (some ⟨rb, 0, none⟩), .int .i64 f, .int .i64 n, .bool back] w (PageOut w StoredR.position (r.seenD ⟨#[]⟩) f n (pageBy StoredR.position (r.seenD ⟨#[]⟩) f n back)) := by
  have HSn := Lib.hid fun (W : World) (k : Only [] w W) => dseen_any (h.keep0 k) hf ⟨#[]⟩
  have hfew : (r.seenD ⟨#[]⟩).length ≤ 1000000 := Nat.le_trans (List.length_filter_le _ _) hf.few
  have hk2 : ∀ s ∈ r.seenD ⟨#[]⟩, 0 ≤ s.position ∧ s.position ≤ 1000000000 := fun s hs => hk s (List.mem_filter.1 hs).1
  obtain ⟨l, hl⟩ : ∃ l, r.seenD ⟨#[]⟩ = l := ⟨_, rfl⟩
  rw [hl] at HSn hfew hk2 ⊢
  have HPg := Lib.hid fun (W : World) (v : Value) (hv : Slc W 8 v l.length (l.flatMap StoredR.cells)) => dpageP_any (f := f) (n := n) (back := back) hv hfew hk2
  obtain ⟨R, hR⟩ : ∃ R, pageBy StoredR.position l f n back = R := ⟨_, rfl⟩
  rw [hR] at HPg ⊢
  have hO1 : Only [] w (w.alloc (.cells #[.slice none 0 0, .int .i64 0, .bool false] 57)) := (Only.refl [] w).alloc _
  have hB1 : Blk (w.alloc (.cells #[.slice none 0 0, .int .i64 0, .bool false] 57)) w.heap.size 57 #[.slice none 0 0, .int .i64 0, .bool false] := Blk.new _ _ _
  clear hR hl hk hk2 h hf
  go_enter Tryz.func76, Tryz.ntmps76
  go_wp2_with (first
    | (go_at_call 106; refine (HSn.out _ hO1).mono ?_; rintro e1 w1 ⟨v1, rfl, hown1, k1⟩; have hB2 := k1.blk hB1 (by simp))
    | (go_at_call 105; refine (HPg.out _ _ (Slc.of_own hown1).1).mono ?_; rintro e2 w2 ⟨pv, rfl, hownp, k2⟩; obtain ⟨Ap, capp, rfl, hap1, hap2⟩ := own_form hownp; have hR2 := k2.blk hB2 (by simp); have hbR := fun i => hR2.cell i; have hbRf := fun i => hR2.free i))
  refine bodyPost_ret (v := .tuple #[.agg #[.slice Ap R.1.events.length capp, .int .i64 R.1.next, .bool R.1.isEnd], .int .i64 R.2]) (by simp [results, Tryz.results76, go_sem, hbR]) rfl ⟨_, rfl, ?own, ?only⟩
  case own =>
    refine own_only (own_base hownp (hO1.trans k1).size) (S := [w.heap.size]) ?_ (fun g hg => by
      have h1 := (hownp.lt g hg).1
      have h2 := hB2.lt
      simp; omega)
    iterate 3 (refine Only.setCell ?_ (.inl (by simp)) _)
    exact Only.refl _ _
  case only =>
    iterate 3 (refine Only.setCell ?_ (.inr (Nat.le_refl _)) _)
    exact (hO1.trans k1).trans k2
end
end
section
open Go Go.RowKit Go.Sort
theorem putD_new : ∀ (l : List DStr) (x : DStr), (∀ k (hl : k < l.length), ¬ l[k].name = x.name) → putD l x = l ++ [x]
  | [], x, _ => rfl
  | y :: l, x, h => by
    unfold putD
    rw [if_neg (show ¬ y.name = x.name from h 0 (by simp)), putD_new l x (fun k hl => h (k + 1) (by simpa using hl))]
    rfl
theorem putD_old : ∀ (l : List DStr) (x : DStr) (j : Nat) (hj : j < l.length), (∀ k (hk : k < j) (hl : k < l.length), ¬ l[k].name = x.name) → l[j].name = x.name → putD l x = l.set j x
  | [], x, j, hj, _, _ => by simp at hj
  | y :: l, x, 0, _, _, he => by
    unfold putD
    rw [if_pos (by simpa using he)]
    rfl
  | y :: l, x, j + 1, hj, h, he => by
    unfold putD
    rw [if_neg (show ¬ y.name = x.name from h 0 (by omega) (by simp)), putD_old l x j (by simpa using hj) (fun k hk hl => h (k + 1) (by omega) (by simpa using hl)) (by simpa using he)]
    rfl
theorem dflat_set : ∀ (l : List DStr) (j : Nat) (x : DStr), j < l.length → ((((((dcells l).set (j * 6) (.string x.name)).set (j * 6 + 1) (.int .i64 x.mt.maxCount)).set (j * 6 + 2) (.int .i64 x.mt.maxAge)).set (j * 6 + 3) (.int .i64 x.mt.before)).set (j * 6 + 4) (.int .i64 x.kept)).set (j * 6 + 5) (.bool x.deleted) = dcells (l.set j x)
  | [], j, x, h => by simp at h
  | y :: l, 0, x, h => by simp [dcells, DStr.cells]
  | y :: l, j + 1, x, h => by
    have ih := dflat_set l j x (by simpa using h)
    have e : dcells (y :: l) = DStr.cells y ++ dcells l := by simp [dcells]
    have e2 : dcells ((y :: l).set (j + 1) x) = DStr.cells y ++ dcells (l.set j x) := by simp [dcells]
    rw [e2, ← ih, e]
    have hs : ∀ (k : Nat) (L : List Value) (v : Value), (DStr.cells y ++ L).set (k + 6) v = DStr.cells y ++ L.set k v := fun k L v => by
      rw [List.set_append_right _ _ (by simp [DStr.cells])]
      simp [DStr.cells]
    rw [show (j + 1) * 6 = j * 6 + 6 by omega, show j * 6 + 6 + 1 = j * 6 + 1 + 6 by omega, show j * 6 + 6 + 2 = j * 6 + 2 + 6 by omega, show j * 6 + 6 + 3 = j * 6 + 3 + 6 by omega, show j * 6 + 6 + 4 = j * 6 + 4 + 6 by omega, show j * 6 + 6 + 5 = j * 6 + 5 + 6 by omega]
    rw [hs, hs, hs, hs, hs, hs]
theorem appD {W : World} {base : Nat} {v u : Value} {l m : List DStr} (hown : W.ownsRow base 82 6 v l.length (dcells l)) (hu : Slc W 6 u m.length (dcells m)) (hb : base ≤ W.heap.size) (hl : l.length + m.length ≤ 1000000) :
    ∃ A cap w', (Builtin.append_ #[29, 29] 29 #[v, u]).run Tryz.prog W = .ok (.slice A (l.length + m.length) cap) w' ∧ w'.ownsRow base 82 6 (.slice A (l.length + m.length) cap) (l ++ m).length (dcells (l ++ m)) ∧ Only v.ownBlock.toList W w' := by
  obtain ⟨A, cap, w', h1, h2, h3, _⟩ := run_app (P := Tryz.prog) (w := W) 29 29 base 82 _ 6 56 Tryz.underlying29 infoDs rfl (by decide) hown hu (dcells_one m) (by omega) (by unfold maxLen; omega) hb
  refine ⟨A, cap, w', h1, ?_, h3⟩
  have e : dcells (l ++ m) = dcells l ++ dcells m := by simp [dcells]
  rw [List.length_append, e]
  exact h2
section
variable {a w : World} {H : List Nat} {rb : Nat} {r : RS}
theorem DTo.setS {vl vs v' : Value} {w5 : World} {base : Nat} {s' : List DStr} (h : HasD a w (hD rb vl vs) rb r) (hA : DocAt w rb vl vs r) (k : Only [] w w5) (hown : w5.ownsRow base 82 6 v' s'.length (dcells s')) (hb : w.heap.size ≤ base) :
    DTo a w (hD rb vl vs) rb { r with s := s' } (w5.setCell ⟨rb, 1, none⟩ v') := by
  have hne := hA.ne
  have hrb := hA.blk.lt
  have ks : Only [rb] w5 (w5.setCell ⟨rb, 1, none⟩ v') := (Only.refl _ _).setCell (.inl (by simp)) _
  refine hasD_of h ⟨(k.blk hA.blk (by simp)).set 1 v', ?_, ?_⟩ ?_
  · exact own_only (own_only hA.l k (by simp)) ks (fun g hg hm => hne.1 g hg (List.mem_singleton.1 hm))
  · exact own_only (own_base hown (Nat.zero_le _)) ks (fun g hg hm => by
      have := (hown.lt g hg).1
      rw [List.mem_singleton.1 hm] at this
      omega)
  · refine Stepped.of (S := [rb]) (k.of_nil.trans ks) (fun b hb => by rw [List.mem_singleton.1 hb]; simp [hD]) (fun b hb2 => ?_)
    simp only [hD, List.mem_cons, List.mem_append, Option.mem_toList] at hb2 ⊢
    rcases hb2 with e | e | e
    · exact .inl (.inl e)
    · exact .inl (.inr (.inl e))
    · have := (hown.lt b e).1
      exact .inr (by omega)
set_option maxRecDepth 100000 in
set_option maxHeartbeats 2000000 in
theorem dput_any (h : HasD a w H rb r) (x : DStr) (hs : r.s.length + 1 ≤ 1000000) :
    Calls Tryz.prog 29 #[.pointer (some ⟨rb, 0, none⟩), .agg #[.string x.name, .int .i64 x.mt.maxCount, .int .i64 x.mt.maxAge, .int .i64 x.mt.before, .int .i64 x.kept, .bool x.deleted]] w fun e w' => e = .returned (.tuple #[]) ∧ DTo a w H rb (r.put x) w' := by
  have hH := h
  have HIx := Lib.hid fun (W : World) (k : Only [] w W) => dstream_any (h.keep0 k) x.name
  obtain ⟨⟨vl, vs, hA, rfl⟩, -, -⟩ := h
  obtain ⟨Al, cl, As, cs, rfl, rfl, -, -, hm1, hm2, -, hS⟩ := hA.open
  unfold maxLen at hm2
  have f1 : w.cell? ⟨rb, 1, none⟩ = some (.slice As r.s.length cs) := hA.blk.cell 1
  have hrb := hA.blk.lt
  have hvs := (Slc.of_own hA.s).1
  have HAt := Lib.hid hA
  have HHH := Lib.hid hH
  obtain ⟨W1, hW1⟩ : ∃ W1, w.alloc (.cells #[.string x.name, .int .i64 x.mt.maxCount, .int .i64 x.mt.maxAge, .int .i64 x.mt.before, .int .i64 x.kept, .bool x.deleted] 82) = W1 := ⟨_, rfl⟩
  have hB1 : Blk W1 w.heap.size 82 #[.string x.name, .int .i64 x.mt.maxCount, .int .i64 x.mt.maxAge, .int .i64 x.mt.before, .int .i64 x.kept, .bool x.deleted] := by rw [← hW1]; exact Blk.new _ _ _
  have hO1 : Only [] w W1 := by rw [← hW1]; exact (Only.refl _ _).alloc _
  have b0 : W1.cell? ⟨w.heap.size, 0, none⟩ = some (.string x.name) := hB1.cell 0
  clear hS hA hH
  by_cases hin : ∃ j, ∃ hj : j < r.s.length, (∀ k (hk : k < j) (hl : k < r.s.length), ¬ r.s[k].name = x.name) ∧ r.s[j].name = x.name
  · obtain ⟨j, hj, hb, he⟩ := hin
    have h1 := (dIx_hit hj hb he).1
    have hput : r.put x = { r with s := r.s.set j x } := by unfold RS.put; rw [putD_old _ _ j hj hb he]
    rw [hput]
    rw [h1] at HIx
    clear hb he h1 hput
    go_enter Tryz.func29, Tryz.ntmps29
    go_wp2_with fail
    refine (HIx.out _ hO1).mono ?_
    rintro e2 w2 ⟨rfl, k2⟩
    have hO2 : Only [] w w2 := hO1.trans k2
    have hB2 := k2.blk hB1 (by simp)
    have g1 := (hO2.cell (p := ⟨rb, 1, none⟩) hrb (by simp)).trans f1
    obtain ⟨A3, c3, w3, hr3, hown3, hO3⟩ := appD (W := w2) (base := w2.heap.size) (v := .slice none 0 0) (l := []) (m := r.s) (World.ownsRow_nil _ _ _ _) (hvs.only0 hO2) (Nat.le_refl _) (by show 0 + r.s.length ≤ _; omega)
    rw [show ([] : List DStr).length + r.s.length = r.s.length from Nat.zero_add _] at hr3 hown3
    rw [show ([] : List DStr) ++ r.s = r.s from rfl] at hown3
    have hO3' : Only [] w2 w3 := hO3
    have hB3 := hO3'.blk hB2 (by simp)
    have HR3 := Lib.hid hr3
    have hO03 : Only [] w w3 := hO2.trans hO3'
    clear hr3 hO3
    obtain ⟨g3, cp3, cur3, hv3, hg3, hB3'⟩ := own_some hown3 (by omega)
    injection hv3 with z1 z2 z3
    subst z1
    obtain ⟨A9, c9, hv9, -, -, hel9⟩ := (Slc.of_own hown3).1.openE DStr.cells (fun _ => rfl)
    injection hv9 with z4 z5 z6
    obtain ⟨b9, o9, e9, hb9, hcc9⟩ := hel9 j hj
    rw [← z4] at e9
    injection e9 with e9
    injection e9 with e10 e11
    subst e10 e11
    simp only [Nat.zero_add] at hcc9
    obtain ⟨y, hy⟩ : ∃ y, r.s[j] = y := ⟨_, rfl⟩
    rw [hy] at hcc9
    have y0 : w3.cell? ⟨g3, j * 6, none⟩ = some (.string y.name) := hcc9 0 (by omega)
    have y1 : w3.cell? ⟨g3, j * 6 + 1, none⟩ = some (.int .i64 y.mt.maxCount) := hcc9 1 (by omega)
    have y2 : w3.cell? ⟨g3, j * 6 + 2, none⟩ = some (.int .i64 y.mt.maxAge) := hcc9 2 (by omega)
    have y3 : w3.cell? ⟨g3, j * 6 + 3, none⟩ = some (.int .i64 y.mt.before) := hcc9 3 (by omega)
    have y4 : w3.cell? ⟨g3, j * 6 + 4, none⟩ = some (.int .i64 y.kept) := hcc9 4 (by omega)
    have y5 : w3.cell? ⟨g3, j * 6 + 5, none⟩ = some (.bool y.deleted) := hcc9 5 (by omega)
    have c0 : w3.cell? ⟨w.heap.size, 0, none⟩ = some (.string x.name) := hB3.cell 0
    have c1 : w3.cell? ⟨w.heap.size, 1, none⟩ = some (.int .i64 x.mt.maxCount) := hB3.cell 1
    have c2 : w3.cell? ⟨w.heap.size, 2, none⟩ = some (.int .i64 x.mt.maxAge) := hB3.cell 2
    have c3' : w3.cell? ⟨w.heap.size, 3, none⟩ = some (.int .i64 x.mt.before) := hB3.cell 3
    have c4 : w3.cell? ⟨w.heap.size, 4, none⟩ = some (.int .i64 x.kept) := hB3.cell 4
    have c5 : w3.cell? ⟨w.heap.size, 5, none⟩ = some (.bool x.deleted) := hB3.cell 5
    have hjl : (j : Int) < (r.s.length : Int) := by omega
    have HOw := Lib.hid hown3
    have fr : ∀ i, w3.frozen? ⟨g3, i, none⟩ = false := fun i => hB3'.free i
    have fb : w3.frozen? ⟨rb, 1, none⟩ = false := (hO03.blk HAt.out.blk (by simp)).free 1
    have gb := (hO03.cell (p := ⟨rb, 1, none⟩) hrb (by simp)).trans f1
    have hgr : g3 ≠ rb := by have := hO2.size; omega
    have hgr2 : rb ≠ g3 := fun e => hgr e.symm
    have hj0 : decide ((j : Int) < 0) = false := decide_eq_false (by omega)
    subst z4
    clear hel9 hcc9 z2 z3 z5 z6 hown3 hy
    go_wp2_with (at_builtin; refine Lib.wpList_append_run _ rfl (.const (.slice none 0 0)) (.tmp 13) 29 29 rfl _ _ rfl rfl _ _ HR3.out ?_)
    go_end0
    have hown5 := ((((((HOw.out.stored (j * 6) (.string x.name)).1.stored (j * 6 + 1) (.int .i64 x.mt.maxCount)).1.stored (j * 6 + 2) (.int .i64 x.mt.maxAge)).1.stored (j * 6 + 3) (.int .i64 x.mt.before)).1.stored (j * 6 + 4) (.int .i64 x.kept)).1.stored (j * 6 + 5) (.bool x.deleted)).1
    rw [dflat_set r.s j x hj] at hown5
    have K5 : Only [] w ((((((w3.setCell ⟨g3, j * 6, none⟩ (.string x.name)).setCell ⟨g3, j * 6 + 1, none⟩ (.int .i64 x.mt.maxCount)).setCell ⟨g3, j * 6 + 2, none⟩ (.int .i64 x.mt.maxAge)).setCell ⟨g3, j * 6 + 3, none⟩ (.int .i64 x.mt.before)).setCell ⟨g3, j * 6 + 4, none⟩ (.int .i64 x.kept)).setCell ⟨g3, j * 6 + 5, none⟩ (.bool x.deleted)) := by
      have hg3' : w.heap.size ≤ g3 := Nat.le_trans hO2.size hg3
      iterate 6 (refine Only.setCell ?_ (.inr hg3') _)
      exact hO03
    have hl : (r.s.set j x).length = r.s.length := List.length_set
    rw [← hl] at hown5
    have hres := DTo.setS (s' := r.s.set j x) HHH.out HAt.out K5 hown5 hO2.size
    rw [hl] at hres
    exact ⟨rfl, hres⟩
  · have hall : ∀ k (hl : k < r.s.length), ¬ r.s[k].name = x.name := by
      intro k
      induction k using Nat.strongRecOn with
      | _ k ih => exact fun hl q => hin ⟨k, hl, fun i hi hil => ih i hi hil, q⟩
    have h1 := (dIx_end hall).1
    have hput : r.put x = { r with s := r.s ++ [x] } := by unfold RS.put; rw [putD_new _ _ hall]
    rw [hput]
    rw [h1] at HIx
    clear hall hin h1 hput
    go_enter Tryz.func29, Tryz.ntmps29
    go_wp2_with fail
    refine (HIx.out _ hO1).mono ?_
    rintro e2 w2 ⟨rfl, k2⟩
    have hO2 : Only [] w w2 := hO1.trans k2
    have hB2 := k2.blk hB1 (by simp)
    have g1 := (hO2.cell (p := ⟨rb, 1, none⟩) hrb (by simp)).trans f1
    obtain ⟨A3, c3, w3, hr3, hown3, hO3⟩ := appD (W := w2) (base := w2.heap.size) (v := .slice none 0 0) (l := []) (m := r.s) (World.ownsRow_nil _ _ _ _) (hvs.only0 hO2) (Nat.le_refl _) (by show 0 + r.s.length ≤ _; omega)
    rw [show ([] : List DStr).length + r.s.length = r.s.length from Nat.zero_add _] at hr3 hown3
    rw [show ([] : List DStr) ++ r.s = r.s from rfl] at hown3
    have hO3' : Only [] w2 w3 := hO3
    have hB3 := hO3'.blk hB2 (by simp)
    have HR3 := Lib.hid hr3
    have hO03 : Only [] w w3 := hO2.trans hO3'
    clear hr3 hO3
    have c0 : w3.cell? ⟨w.heap.size, 0, none⟩ = some (.string x.name) := hB3.cell 0
    have c1 : w3.cell? ⟨w.heap.size, 1, none⟩ = some (.int .i64 x.mt.maxCount) := hB3.cell 1
    have c2 : w3.cell? ⟨w.heap.size, 2, none⟩ = some (.int .i64 x.mt.maxAge) := hB3.cell 2
    have c3 : w3.cell? ⟨w.heap.size, 3, none⟩ = some (.int .i64 x.mt.before) := hB3.cell 3
    have c4 : w3.cell? ⟨w.heap.size, 4, none⟩ = some (.int .i64 x.kept) := hB3.cell 4
    have c5 : w3.cell? ⟨w.heap.size, 5, none⟩ = some (.bool x.deleted) := hB3.cell 5
    have k4 : Only [] w3 (w3.alloc (.cells #[.string x.name, .int .i64 x.mt.maxCount, .int .i64 x.mt.maxAge, .int .i64 x.mt.before, .int .i64 x.kept, .bool x.deleted] 82)) := (Only.refl _ _).alloc _
    obtain ⟨A5, cp5, w5, hr5, hown5, hO5⟩ := appD (base := w2.heap.size) (m := [x]) (u := .slice (some ⟨w3.heap.size, 0, none⟩) 1 1) (own_only hown3 k4 (by simp)) (slc_new1 (w := w3) (e := 82) (size := 6) (cs := dcells [x]) rfl) (Nat.le_trans hO3'.size k4.size) (by simpa using hs)
    have hO35 : Only [] w2 w5 := (hO3'.trans k4).step hO5 (fun g hg => .inr (hown3.lt g (by simpa using hg)).1)
    have HR5 := Lib.hid hr5
    have HO5 := Lib.hid (hown5)
    have hO05 : Only [] w w5 := hO2.trans hO35
    have f5 : w5.frozen? ⟨rb, 1, none⟩ = false := (hO05.blk HAt.out.blk (by simp)).free 1
    have cc5 := (hO05.cell (p := ⟨rb, 1, none⟩) hrb (by simp)).trans f1
    clear hr5 hown5 hO5 hown3
    go_wp2_with (first
      | (at_builtin; refine Lib.wpList_append_run _ rfl (.const (.slice none 0 0)) (.tmp 13) 29 29 rfl _ _ rfl rfl _ _ HR3.out ?_)
      | (at_builtin; refine Lib.wpList_append_run _ rfl (.tmp 17) (.tmp 19) 29 29 rfl _ _ rfl rfl _ _ HR5.out ?_))
    go_end0
    exact ⟨rfl, DTo.setS HHH.out HAt.out hO05 HO5.out hO2.size⟩
set_option maxRecDepth 100000 in
set_option maxHeartbeats 2000000 in
theorem dkeep_any (h : HasD a w H rb r) (n : ByteArray) (hl : r.l.length ≤ 1000000) (hs : r.s.length + 1 ≤ 1000000) (hm : (r.get n).mt.ok = true) (hk : 0 ≤ (r.get n).kept ∧ (r.get n).kept ≤ 1000000000) (hn : 0 ≤ r.now ∧ r.now ≤ 1099511627776) :
    Calls Tryz.prog 27 #[.pointer (some ⟨rb, 0, none⟩), .string n] w fun e w' => e = .returned (.tuple #[]) ∧ DTo a w H rb (r.keep n) w' := by
  have HGt := Lib.hid (dget_any h n)
  have HFl := Lib.hid fun (W : World) (k : Only [] w W) => dfloor_any (h.keep0 k) n hl hm hk hn
  have HPt := Lib.hid fun (W : World) (k : Only [] w W) => dput_any (h.keep0 k) { r.get n with kept := r.floor n } hs
  have hkp : r.keep n = r.put { r.get n with kept := r.floor n } := rfl
  rw [hkp]
  obtain ⟨x, hx⟩ : ∃ x, r.get n = x := ⟨_, rfl⟩
  obtain ⟨f, hf⟩ : ∃ f, r.floor n = f := ⟨_, rfl⟩
  rw [hx] at HGt HPt ⊢
  rw [hf] at HFl HPt ⊢
  unfold DStr.val at HGt
  dsimp only at HPt ⊢
  have HX := Lib.hid (h.lt)
  clear hl hs hm hk hn hkp hx hf h
  go_enter Tryz.func27, Tryz.ntmps27
  go_wp2_with fail
  refine HGt.out.mono ?_
  rintro e1 w1 ⟨rfl, k1⟩
  have hB := Blk.new w1 82 #[.string x.name, .int .i64 x.mt.maxCount, .int .i64 x.mt.maxAge, .int .i64 x.mt.before, .int .i64 x.kept, .bool x.deleted]
  have hO1 : Only [] w (w1.alloc (.cells #[.string x.name, .int .i64 x.mt.maxCount, .int .i64 x.mt.maxAge, .int .i64 x.mt.before, .int .i64 x.kept, .bool x.deleted] 82)) := k1.alloc _
  go_wp2_with fail
  refine (HFl.out _ hO1).mono ?_
  rintro e2 w2 ⟨rfl, k2⟩
  have hB2 := k2.blk hB (by simp)
  have hf2 := hB2.free
  have hc2 := hB2.cell
  have hO2 := hO1.trans k2
  have hB3 := hB2.set 4 (.int .i64 f)
  have hO3 : Only [] w (w2.setCell ⟨w1.heap.size, 4, none⟩ (.int .i64 f)) := hO2.setCell (.inr k1.size) _
  have y0 : (w2.setCell ⟨w1.heap.size, 4, none⟩ (.int .i64 f)).cell? ⟨w1.heap.size, 0, none⟩ = some (.string x.name) := hB3.cell 0
  have y1 : (w2.setCell ⟨w1.heap.size, 4, none⟩ (.int .i64 f)).cell? ⟨w1.heap.size, 1, none⟩ = some (.int .i64 x.mt.maxCount) := hB3.cell 1
  have y2 : (w2.setCell ⟨w1.heap.size, 4, none⟩ (.int .i64 f)).cell? ⟨w1.heap.size, 2, none⟩ = some (.int .i64 x.mt.maxAge) := hB3.cell 2
  have y3 : (w2.setCell ⟨w1.heap.size, 4, none⟩ (.int .i64 f)).cell? ⟨w1.heap.size, 3, none⟩ = some (.int .i64 x.mt.before) := hB3.cell 3
  have y4 : (w2.setCell ⟨w1.heap.size, 4, none⟩ (.int .i64 f)).cell? ⟨w1.heap.size, 4, none⟩ = some (.int .i64 f) := hB3.cell 4
  have y5 : (w2.setCell ⟨w1.heap.size, 4, none⟩ (.int .i64 f)).cell? ⟨w1.heap.size, 5, none⟩ = some (.bool x.deleted) := hB3.cell 5
  go_wp2_with fail
  refine (HPt.out _ hO3).mono ?_
  rintro e3 w3 ⟨rfl, k3⟩
  go_wp2_with fail
  go_end0
  exact ⟨rfl, DTo.trans (Stepped.first0 hO3 (Stepped.refl _ _)) k3⟩
end
end
end Go.Proofs.YteinoiicnmemhaaGreatDoor
